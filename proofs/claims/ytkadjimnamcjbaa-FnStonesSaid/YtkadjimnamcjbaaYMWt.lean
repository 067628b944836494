/- The maths of weights and moments: nothing wraps; the fan of triangles. -/
import Derived.Test.YtkadjimnamcjbaaYAWt
namespace Go.Proofs.Ytkadjimnamcjbaa
open Go.Eng

def cr (a b : Pt) : Int := a.x * b.y - a.y * b.x
def csum (f : Nat → Int) : Nat → Int
  | 0 => 0
  | k + 1 => csum f k + f k
theorem csum_bd {f : Nat → Int} {m : Int} (_hm : 0 ≤ m) (hf : ∀ i, -m ≤ f i ∧ f i ≤ m) : ∀ n : Nat, -(n * m) ≤ csum f n ∧ csum f n ≤ n * m
  | 0 => by simp [csum]
  | k + 1 => by
    have h1 := csum_bd _hm hf k
    have h2 := hf k
    have e : ((k + 1 : Nat) : Int) * m = k * m + m := by rw [Int.natCast_add, Int.add_mul]; simp
    simp only [csum]
    omega
theorem sumW_small {f : Nat → Int} {m : Int} (hm : 0 ≤ m ∧ m ≤ 1000000000) (hf : ∀ i, -m ≤ f i ∧ f i ≤ m) : ∀ n : Nat, n ≤ 1000 → sumW f n = csum f n
  | 0, _ => rfl
  | k + 1, hk => by
    have h1 := csum_bd hm.1 hf k
    have h2 := hf k
    have h3 := sumW_small hm hf k (by omega)
    have h4 : (k : Int) * m ≤ 1000 * m := Int.mul_le_mul_of_nonneg_right (by omega) hm.1
    simp only [sumW, csum, h3]
    exact w64 (by omega)
theorem cr_bd {a b : Pt} (ha : ptOk a = true) (hb : ptOk b = true) : (-7200 ≤ cr a b ∧ cr a b ≤ 7200) ∧ crossW a b = cr a b := by
  rw [ptOk_true] at ha hb
  have h1 := mul_bd (a := a.x) (b := b.y) (m := 60) (n := 60) (by omega) (by omega)
  have h2 := mul_bd (a := a.y) (b := b.x) (m := 60) (n := 60) (by omega) (by omega)
  unfold crossW cr
  rw [w64 (n := a.x * b.y) (by omega), w64 (n := a.y * b.x) (by omega), w64 (by omega)]
  exact ⟨by omega, rfl⟩
theorem cor_ok {l : List Pt} (h : stoneB l = true) (i : Nat) : ptOk (cor l i) = true := by
  have h3 := stone_len h
  simp only [stoneB, Bool.and_eq_true] at h
  have hi : i % l.length < l.length := Nat.mod_lt _ (by omega)
  have : cor l i = l[i % l.length] := by simp [cor, hi]
  rw [this]
  exact List.all_eq_true.1 h.2.1 _ (List.getElem_mem hi)
def areaI (l : List Pt) : Int := csum (fun i => cr (cor l i) (cor l (i + 1))) l.length
def momI (g : Pt → Int) (l : List Pt) : Int := csum (fun i => (g (cor l i) + g (cor l (i + 1))) * cr (cor l i) (cor l (i + 1))) l.length
theorem areaW_eq {l : List Pt} (h : stoneB l = true) : areaW l = areaI l := by
  have h3 := stone_len h
  rw [areaW, if_pos h, areaI]
  have e : (fun i => crossW (cor l i) (cor l (i + 1))) = fun i => cr (cor l i) (cor l (i + 1)) := funext fun i => (cr_bd (cor_ok h i) (cor_ok h (i + 1))).2
  rw [e]
  exact sumW_small (m := 7200) (by decide) (fun i => (cr_bd (cor_ok h i) (cor_ok h (i + 1))).1) _ (by omega)
theorem overW_eq {l : List Pt} (h : stoneB l = true) (g : Pt → Int) (F : Pt → Pt → Int) (hF : ∀ a b, F a b = W64 (g a + g b)) (hg : ∀ a, ptOk a = true → -60 ≤ g a ∧ g a ≤ 60) : overW F l = momI g l := by
  have h3 := stone_len h
  have key : ∀ i, W64 (F (cor l i) (cor l (i + 1)) * crossW (cor l i) (cor l (i + 1))) = (g (cor l i) + g (cor l (i + 1))) * cr (cor l i) (cor l (i + 1)) ∧
      (-864000 ≤ (g (cor l i) + g (cor l (i + 1))) * cr (cor l i) (cor l (i + 1)) ∧ (g (cor l i) + g (cor l (i + 1))) * cr (cor l i) (cor l (i + 1)) ≤ 864000) := fun i => by
    have c1 := cr_bd (cor_ok h i) (cor_ok h (i + 1))
    have g1 := hg _ (cor_ok h i)
    have g2 := hg _ (cor_ok h (i + 1))
    have h1 := mul_bd (a := g (cor l i) + g (cor l (i + 1))) (b := cr (cor l i) (cor l (i + 1))) (m := 120) (n := 7200) (by omega) (by omega)
    rw [hF, c1.2, w64 (n := g (cor l i) + g (cor l (i + 1))) (by omega)]
    exact ⟨w64 (by omega), by omega⟩
  rw [overW, if_pos h, momI]
  have e : (fun i => W64 (F (cor l i) (cor l (i + 1)) * crossW (cor l i) (cor l (i + 1)))) = fun i => (g (cor l i) + g (cor l (i + 1))) * cr (cor l i) (cor l (i + 1)) := funext fun i => (key i).1
  rw [e]
  exact sumW_small (m := 864000) (by decide) (fun i => (key i).2) _ (by omega)
theorem csum_pos {f : Nat → Int} : ∀ {n : Nat}, (∀ i, i < n → 0 ≤ f i) → 0 ≤ csum f n ∧ ∀ j, j < n → 0 < f j → 0 < csum f n
  | 0, _ => ⟨Int.le_refl _, fun j hj => absurd hj (Nat.not_lt_zero _)⟩
  | k + 1, h => by
    obtain ⟨h1, h2⟩ := csum_pos (f := f) (n := k) fun i hi => h i (Nat.lt_succ_of_lt hi)
    have h3 := h k (Nat.lt_succ_self k)
    refine ⟨by simp only [csum]; omega, fun j hj hp => ?_⟩
    simp only [csum]
    by_cases e : j = k
    · subst e; omega
    · have := h2 j (by omega) hp
      omega
theorem csum_sub (f g : Nat → Int) : ∀ n, csum (fun i => f i - g i) n = csum f n - csum g n
  | 0 => rfl
  | k + 1 => by simp only [csum, csum_sub f g k]; omega
theorem csum_mul (c : Int) (f : Nat → Int) : ∀ n, csum (fun i => c * f i) n = c * csum f n
  | 0 => by simp [csum]
  | k + 1 => by simp only [csum, csum_mul c f k, Int.mul_add]
theorem csum_congr {f g : Nat → Int} (h : ∀ i, f i = g i) (n : Nat) : csum f n = csum g n := by rw [funext h]
/-- The fan of triangles from the first corner. -/
def tri (l : List Pt) (i : Nat) : Int := side (cor l 0) (cor l i) (cor l (i + 1))
theorem fan_area (l : List Pt) : ∀ n, csum (fun i => cr (cor l i) (cor l (i + 1))) n = csum (tri l) n + cr (cor l 0) (cor l n)
  | 0 => by simp [csum, cr]; grind
  | k + 1 => by
    have h := fan_area l k
    simp only [csum]
    rw [h]
    simp only [tri, side, cr]
    grind
/-- A coordinate. -/
structure Coor (g : Pt → Int) : Prop where
  lin : ∀ a b c, (g a + g b + g c) * side a b c = (g b + g c) * cr b c + (g a + g b) * cr a b - (g a + g c) * cr a c
  flat : ∀ a b c, g a = g b → g b = g c → side a b c = 0
  sm : ∀ a, ptOk a = true → -60 ≤ g a ∧ g a ≤ 60
theorem coor_x : Coor Pt.x := ⟨fun a b c => by simp only [side, cr]; grind, fun a b c h1 h2 => by simp only [side]; grind, fun a h => (ptOk_true.1 h).1⟩
theorem coor_y : Coor Pt.y := ⟨fun a b c => by simp only [side, cr]; grind, fun a b c h1 h2 => by simp only [side]; grind, fun a h => (ptOk_true.1 h).2⟩
theorem fan_mom {g : Pt → Int} (hg : Coor g) (l : List Pt) : ∀ n, csum (fun i => (g (cor l i) + g (cor l (i + 1))) * cr (cor l i) (cor l (i + 1))) n = csum (fun i => (g (cor l 0) + g (cor l i) + g (cor l (i + 1))) * tri l i) n + (g (cor l 0) + g (cor l n)) * cr (cor l 0) (cor l n)
  | 0 => by simp [csum, cr]; grind
  | k + 1 => by
    have h := hg.lin (cor l 0) (cor l k) (cor l (k + 1))
    simp only [csum, fan_mom hg l k, tri]
    grind
theorem cor_round {l : List Pt} (_h : 0 < l.length) : cor l l.length = cor l 0 := by simp [cor]
theorem cr_self (a : Pt) : cr a a = 0 := by simp only [cr]; grind
theorem areaI_fan {l : List Pt} (h : 0 < l.length) : areaI l = csum (tri l) l.length := by rw [areaI, fan_area, cor_round h, cr_self]; omega
theorem momI_fan {g : Pt → Int} (hg : Coor g) {l : List Pt} (h : 0 < l.length) : momI g l = csum (fun i => (g (cor l 0) + g (cor l i) + g (cor l (i + 1))) * tri l i) l.length := by rw [momI, fan_mom hg, cor_round h, cr_self]; simp
theorem tri_pos {l : List Pt} (h : stoneB l = true) : (∀ i, i < l.length → 0 ≤ tri l i) ∧ 0 < tri l 1 := by
  have h3 := stone_len h
  have hc := cor_ok h
  have hr := cor_round (l := l) (by omega)
  simp only [stoneB, Bool.and_eq_true, List.all_eq_true, List.mem_range] at h
  refine ⟨fun i hi => ?_, ?_⟩
  · have hf := (h.2.2 i hi).2
    simp only [fanB, Bool.or_eq_true, decide_eq_true_eq] at hf
    rcases hf with hf | hf
    · have e : i + 1 = l.length := by omega
      rw [tri, e, hr]
      simp only [side]
      grind
    · rw [sideW_eq (hc 0) (hc i) (hc (i + 1))] at hf
      exact hf
  · have ht := (h.2.2 0 (by omega)).1
    simp only [turnB, decide_eq_true_eq] at ht
    rw [sideW_eq (hc 0) (hc 1) (hc 2)] at ht
    exact ht
theorem area_pos {l : List Pt} (h : stoneB l = true) : 0 < areaI l := by
  have h3 := stone_len h
  obtain ⟨t0, t1⟩ := tri_pos h
  rw [areaI_fan (by omega)]
  exact (csum_pos t0).2 1 (by omega) t1
/-- The middle of weight lies strictly inside. -/
theorem mom_low {g : Pt → Int} (hg : Coor g) {l : List Pt} (h : stoneB l = true) {lo : Int} (hlo : ∀ i, lo ≤ g (cor l i)) : lo * (3 * areaI l) < momI g l := by
  have h3 := stone_len h
  obtain ⟨t0, t1⟩ := tri_pos h
  have e : momI g l - lo * (3 * areaI l) = csum (fun i => (g (cor l 0) + g (cor l i) + g (cor l (i + 1)) - 3 * lo) * tri l i) l.length := by
    rw [momI_fan hg (by omega), areaI_fan (by omega), show lo * (3 * csum (tri l) l.length) = (3 * lo) * csum (tri l) l.length by grind, ← csum_mul, ← csum_sub]
    exact csum_congr (fun i => by rw [Int.sub_mul]) _
  have hp : 0 < csum (fun i => (g (cor l 0) + g (cor l i) + g (cor l (i + 1)) - 3 * lo) * tri l i) l.length := by
    refine (csum_pos fun i hi => Int.mul_nonneg ?_ (t0 i hi)).2 1 (by omega) (Int.mul_pos ?_ t1)
    · have := hlo 0; have := hlo i; have := hlo (i + 1); omega
    · have a0 := hlo 0; have a1 := hlo 1; have a2 := hlo (1 + 1)
      rcases Int.lt_or_le 0 (g (cor l 0) + g (cor l 1) + g (cor l (1 + 1)) - 3 * lo) with hh | hh
      · exact hh
      · have := hg.flat (cor l 0) (cor l 1) (cor l (1 + 1)) (by omega) (by omega)
        rw [tri, this] at t1
        omega
  omega
theorem mom_high {g : Pt → Int} (hg : Coor g) {l : List Pt} (h : stoneB l = true) {hi : Int} (hhi : ∀ i, g (cor l i) ≤ hi) : momI g l < hi * (3 * areaI l) := by
  have h3 := stone_len h
  obtain ⟨t0, t1⟩ := tri_pos h
  have e : hi * (3 * areaI l) - momI g l = csum (fun i => (3 * hi - (g (cor l 0) + g (cor l i) + g (cor l (i + 1)))) * tri l i) l.length := by
    rw [momI_fan hg (by omega), areaI_fan (by omega), show hi * (3 * csum (tri l) l.length) = (3 * hi) * csum (tri l) l.length by grind, ← csum_mul, ← csum_sub]
    exact csum_congr (fun i => by rw [Int.sub_mul]) _
  have hp : 0 < csum (fun i => (3 * hi - (g (cor l 0) + g (cor l i) + g (cor l (i + 1)))) * tri l i) l.length := by
    refine (csum_pos fun i hi' => Int.mul_nonneg ?_ (t0 i hi')).2 1 (by omega) (Int.mul_pos ?_ t1)
    · have := hhi 0; have := hhi i; have := hhi (i + 1); omega
    · have a0 := hhi 0; have a1 := hhi 1; have a2 := hhi (1 + 1)
      rcases Int.lt_or_le 0 (3 * hi - (g (cor l 0) + g (cor l 1) + g (cor l (1 + 1)))) with hh | hh
      · exact hh
      · have := hg.flat (cor l 0) (cor l 1) (cor l (1 + 1)) (by omega) (by omega)
        rw [tri, this] at t1
        omega
  omega
end Go.Proofs.Ytkadjimnamcjbaa
