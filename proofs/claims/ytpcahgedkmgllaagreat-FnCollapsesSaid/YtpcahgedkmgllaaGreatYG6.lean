/- proofsOf hands out a closure over the rows; the proofs in the order in which it finds them; ProofOfFour, IsProof by the map. -/
import Derived.Test.YtpcahgedkmgllaaGreatYG5
import Derived.Test.YtpcahgedkmgllaaGreatYASr
import Derived.Test.YtpcahgedkmgllaaGreatZ12
import Derived.Test.YtpcahgedkmgllaaGreatYALd
import Derived.Test.YtpcahgedkmgllaaGreatYG4
import Derived.Test.YtpcahgedkmgllaaGreatZ14
import Derived.Test.YtpcahgedkmgllaaGreatZ7
import Derived.Test.YtpcahgedkmgllaaGreatYI
import Derived.Test.YtpcahgedkmgllaaGreatYG2
import Derived.Test.YtpcahgedkmgllaaGreatYG3
import Derived.Test.YtpcahgedkmgllaaGreatZ4
set_option maxHeartbeats 4000000
namespace Go.Proofs.YtpcahgedkmgllaaGreat
open Go.Eng
set_option maxRecDepth 100000
attribute [local irreducible] QV TV WL HW W CallOk CallOkA Weak

theorem proofsOf_fn (rs : List Rw) : CallOk Tryz.prog 23 [slRw rs] (fun r => r = .fn (.func 41) [] [.eptr [slRw rs]]) := by
  refine callOk Tryz.func23 Tryz.ntmps23 Tryz.results23 rfl rfl rfl fun B w0 M I0 V0 => ?_
  (repeat (first | refine WL_nil ?_ | refine zq0 qv9 ?_ | refine zq1 ?_ | refine zq2 ?_ | refine zq3 ?_ | refine zq4 ?_ | refine zq5 ?_ | refine zq6 ?_ | refine wN rfl ?_))
  refine Exists.intro (⟨[(2, .fn (.func 41) [] [.eptr [slRw rs]])], [], []⟩ : St) ⟨weak_eptr rfl (fun _ _ _ h => h) rfl rfl, Exists.intro _ ⟨resA_tmp rfl rfl, ?_, rfl⟩⟩
  rfl
theorem implProofOfFour_ok (rs : List Rw) (i k m x : Nat) (hr : rs.length ≤ 1048576) (h1 : i < k) (h2 : k < m) (h3 : m < x) (h4 : x < rs.length) : CallOkA Tryz.prog 42 [slRw rs, slI (fourI i k m x)] (fun r => r = fourD (four rs i k m x)) := by
  have h := implProofOfFour_of rs i k m x hr h1 h2 h3 h4 fun ks fs hk hf => implSumOfRows_ok rs ks fs hr (by omega) (by omega)
  cases e : four rs i k m x with
  | none => rw [e] at h; exact callOkA_dat h rfl
  | some p => rw [e] at h; exact callOkA_dat h rfl
theorem implIsProof_ok (rs : List Rw) (ks fs : List Int) (hr : rs.length ≤ 1048576) (hn : ks.length ≤ 1048576) (hf : fs.length ≤ 1048576) : CallOkA Tryz.prog 12 [slRw rs, .agg [slI ks, slI fs]] (fun r => r = vb (ispB rs ks fs)) :=
  implIsProof_of rs ks fs hr hn hf (implSumOfRows_ok rs ks fs hr hn hf)
abbrev Pf := List Int × List Int
def ps4 (rs : List Rw) (i k m : Nat) : Nat → List Pf
  | 0 => []
  | c + 1 => ps4 rs i k m c ++ (four rs i k m (m + 1 + c)).toList
def ps3 (rs : List Rw) (i k : Nat) : Nat → List Pf
  | 0 => []
  | c + 1 => ps3 rs i k c ++ ps4 rs i k (k + 1 + c) (rs.length - (k + 1 + c + 1))
def ps2 (rs : List Rw) (i : Nat) : Nat → List Pf
  | 0 => []
  | c + 1 => ps2 rs i c ++ ps3 rs i (i + 1 + c) (rs.length - (i + 1 + c + 1))
def ps1 (rs : List Rw) : Nat → List Pf
  | 0 => []
  | c + 1 => ps1 rs c ++ ps2 rs c (rs.length - (c + 1))
theorem ps4_isp {rs : List Rw} {i k m : Nat} {p : Pf} : ∀ {c : Nat}, p ∈ ps4 rs i k m c → ispB rs p.1 p.2 = true
  | 0, h => by cases h
  | c + 1, h => (List.mem_append.1 h).elim ps4_isp fun h => four_isp (ks := p.1) (fs := p.2) (by simpa using h)
theorem ps3_isp {rs : List Rw} {i k : Nat} {p : Pf} : ∀ {c : Nat}, p ∈ ps3 rs i k c → ispB rs p.1 p.2 = true
  | 0, h => by cases h
  | c + 1, h => (List.mem_append.1 h).elim ps3_isp ps4_isp
theorem ps2_isp {rs : List Rw} {i : Nat} {p : Pf} : ∀ {c : Nat}, p ∈ ps2 rs i c → ispB rs p.1 p.2 = true
  | 0, h => by cases h
  | c + 1, h => (List.mem_append.1 h).elim ps2_isp ps3_isp
theorem ps1_isp {rs : List Rw} {p : Pf} : ∀ {c : Nat}, p ∈ ps1 rs c → ispB rs p.1 p.2 = true
  | 0, h => by cases h
  | c + 1, h => (List.mem_append.1 h).elim ps1_isp ps2_isp
theorem pf4_head (rs : List Rw) (i k m : Nat) : ∀ c, pf4 rs i k m c = (ps4 rs i k m c).head?
  | 0 => rfl
  | c + 1 => by rw [pf4, ps4, List.head?_append, pf4_head rs i k m c]; cases four rs i k m (m + 1 + c) <;> rfl
theorem pf3_head (rs : List Rw) (i k : Nat) : ∀ c, pf3 rs i k c = (ps3 rs i k c).head?
  | 0 => rfl
  | c + 1 => by rw [pf3, ps3, List.head?_append, pf3_head rs i k c, pf4_head]
theorem pf2_head (rs : List Rw) (i : Nat) : ∀ c, pf2 rs i c = (ps2 rs i c).head?
  | 0 => rfl
  | c + 1 => by rw [pf2, ps2, List.head?_append, pf2_head rs i c, pf3_head]
theorem pf1_head (rs : List Rw) : ∀ c, pf1 rs c = (ps1 rs c).head?
  | 0 => rfl
  | c + 1 => by rw [pf1, ps1, List.head?_append, pf1_head rs c, pf2_head]
theorem ps4_le (rs : List Rw) (i k m : Nat) {c c' : Nat} (h : c ≤ c') : ps4 rs i k m c <+: ps4 rs i k m c' := by
  induction c' with
  | zero => rw [show c = 0 by omega]; exact List.prefix_refl _
  | succ c' ih =>
    by_cases e : c = c' + 1
    · rw [e]; exact List.prefix_refl _
    · exact (ih (by omega)).trans ⟨_, rfl⟩
theorem ps3_le (rs : List Rw) (i k : Nat) {c c' : Nat} (h : c ≤ c') : ps3 rs i k c <+: ps3 rs i k c' := by
  induction c' with
  | zero => rw [show c = 0 by omega]; exact List.prefix_refl _
  | succ c' ih =>
    by_cases e : c = c' + 1
    · rw [e]; exact List.prefix_refl _
    · exact (ih (by omega)).trans ⟨_, rfl⟩
theorem ps2_le (rs : List Rw) (i : Nat) {c c' : Nat} (h : c ≤ c') : ps2 rs i c <+: ps2 rs i c' := by
  induction c' with
  | zero => rw [show c = 0 by omega]; exact List.prefix_refl _
  | succ c' ih =>
    by_cases e : c = c' + 1
    · rw [e]; exact List.prefix_refl _
    · exact (ih (by omega)).trans ⟨_, rfl⟩
theorem ps1_le (rs : List Rw) {c c' : Nat} (h : c ≤ c') : ps1 rs c <+: ps1 rs c' := by
  induction c' with
  | zero => rw [show c = 0 by omega]; exact List.prefix_refl _
  | succ c' ih =>
    by_cases e : c = c' + 1
    · rw [e]; exact List.prefix_refl _
    · exact (ih (by omega)).trans ⟨_, rfl⟩
abbrev psN (rs : List Rw) (i c d e k m : Nat) : List Pf := ps1 rs i ++ (ps2 rs i c ++ (ps3 rs i k d ++ ps4 rs i k m e))
theorem psN_next {rs : List Rw} {i c d e k m : Nat} {p : Pf} (h : four rs i k m (m + 1 + e) = some p) : psN rs i c d (e + 1) k m = psN rs i c d e k m ++ [p] := by
  simp only [psN, ps4, h, Option.toList_some, List.append_assoc]
theorem psN_le {rs : List Rw} {i c d e k m : Nat} (hk : k = i + 1 + c) (hm : m = k + 1 + d) (hx : m + 1 + e < rs.length) : psN rs i c d (e + 1) k m <+: ps1 rs rs.length := by
  have a4 := ps4_le rs i k m (show e + 1 ≤ rs.length - (m + 1) by omega)
  have a3 := ps3_le rs i k (show d + 1 ≤ rs.length - (k + 1) by omega)
  have a2 := ps2_le rs i (show c + 1 ≤ rs.length - (i + 1) by omega)
  have a1 := ps1_le rs (show i + 1 ≤ rs.length by omega)
  rw [ps3, ← hm] at a3
  rw [ps2, ← hk] at a2
  rw [ps1] at a1
  have b3 : ps3 rs i k d ++ ps4 rs i k m (e + 1) <+: ps3 rs i k (rs.length - (k + 1)) := (List.prefix_append_right_inj _).2 a4 |>.trans a3
  have b2 : ps2 rs i c ++ (ps3 rs i k d ++ ps4 rs i k m (e + 1)) <+: ps2 rs i (rs.length - (i + 1)) := (List.prefix_append_right_inj _).2 b3 |>.trans a2
  exact (List.prefix_append_right_inj _).2 b2 |>.trans a1
def lst : List Pf → Int := fun l => l.foldl (fun s p => if s = 0 ∨ (p.1.length : Int) < s then p.1.length else s) 0
theorem lst_snoc (l : List Pf) (p : Pf) : lst (l ++ [p]) = if lst l = 0 ∨ (p.1.length : Int) < lst l then (p.1.length : Int) else lst l := by
  unfold lst
  rw [List.foldl_append]
  rfl
end Go.Proofs.YtpcahgedkmgllaaGreat

namespace Go.Proofs.YtpcahgedkmgllaaGreat
open Go.Eng

theorem sumW_bd {f : Nat → Int} {B : Int} (h0 : 0 ≤ B) : ∀ {k : Nat}, (∀ i, i < k → -B ≤ f i ∧ f i ≤ B) → k * B ≤ 9223372036854775807 → -(k * B) ≤ sumW f k ∧ sumW f k ≤ k * B
  | 0, _, _ => by simp [sumW]
  | k + 1, hf, hk => by
    have e : ((k + 1 : Nat) : Int) * B = k * B + B := by rw [Int.natCast_add, Int.add_mul]; simp
    rw [e] at hk ⊢
    have ih := sumW_bd h0 (k := k) (fun i hi => hf i (by omega)) (by omega)
    have hfk := hf k (by omega)
    simp only [sumW]
    rw [w64 (by omega)]
    omega
theorem cor_in {l : List Pt} (h : stoneB l = true) (i : Nat) : ptOk (cor l i) = true := by
  have h3 := stone_len h
  simp only [stoneB, Bool.and_eq_true, List.all_eq_true] at h
  exact h.2.1 _ (List.mem_of_getElem? (cor_at (by omega)))
theorem cross_bd {a b : Pt} (ha : ptOk a = true) (hb : ptOk b = true) : -7200 ≤ crossW a b ∧ crossW a b ≤ 7200 := by
  rw [ptOk_true] at ha hb
  have h1 := mul_bd (a := a.x) (b := b.y) (m := 60) (n := 60) (by omega) (by omega)
  have h2 := mul_bd (a := a.y) (b := b.x) (m := 60) (n := 60) (by omega) (by omega)
  unfold crossW
  rw [w64 (n := a.x * b.y) (by omega), w64 (n := a.y * b.x) (by omega), w64 (by omega)]
  omega
theorem area_bd (l : List Pt) : -43200 ≤ areaW l ∧ areaW l ≤ 43200 := by
  unfold areaW
  split
  · rename_i h
    have h3 := stone_len h
    have := sumW_bd (f := fun i => crossW (cor l i) (cor l (i + 1))) (B := 7200) (by omega) (k := l.length) (fun i _ => cross_bd (cor_in h i) (cor_in h (i + 1))) (by omega)
    omega
  · omega
theorem weight_bd (l : List Pt) : -129600 ≤ weightW l ∧ weightW l ≤ 129600 := by
  have := area_bd l
  unfold weightW
  rw [w64 (by omega)]
  omega
theorem mom_bd (l : List Pt) : -5184000 ≤ overW momF l ∧ overW momF l ≤ 5184000 := by
  unfold overW
  split
  · rename_i h
    have h3 := stone_len h
    have := sumW_bd (f := fun i => W64 (momF (cor l i) (cor l (i + 1)) * crossW (cor l i) (cor l (i + 1)))) (B := 864000) (by omega) (k := l.length) (fun i _ => by
      have h1 := cross_bd (cor_in h i) (cor_in h (i + 1))
      have h2 := ptOk_true.1 (cor_in h i)
      have h4 := ptOk_true.1 (cor_in h (i + 1))
      have h5 : momF (cor l i) (cor l (i + 1)) = (cor l i).x + (cor l (i + 1)).x := w64 (by omega)
      have h6 := mul_bd (a := (cor l i).x + (cor l (i + 1)).x) (b := crossW (cor l i) (cor l (i + 1))) (m := 120) (n := 7200) (by omega) (by omega)
      rw [h5, w64 (by omega)]
      omega) (by omega)
    omega
  · omega
theorem conS_bd {f : Ld → Int} {B : Int} (h0 : 0 ≤ B) (k : Nat) : ∀ {ls : List Ld}, (∀ l ∈ ls, -B ≤ f l ∧ f l ≤ B) → -(ls.length * B) ≤ conS f ls k ∧ conS f ls k ≤ ls.length * B
  | [], _ => by simp [conS]
  | l :: ls, hf => by
    have e : ((l :: ls).length : Int) * B = ls.length * B + B := by simp [Int.add_mul]
    rw [e]
    have ih := conS_bd h0 k (ls := ls) fun x hx => hf x (by simp [hx])
    have hl := hf l (by simp)
    have hc : conS f (l :: ls) k = (if l.s = (k : Int) then f l else 0) + conS f ls k := by simp [conS]
    rw [hc]
    split <;> omega
theorem load_in {js : List Jt} {ls : List Ld} (h : loadsB js ls = true) : ∀ l ∈ ls, (0 ≤ l.w ∧ l.w ≤ 10000) ∧ -60 ≤ l.x ∧ l.x ≤ 60 := by
  simp only [loadsB, Bool.and_eq_true, List.all_eq_true] at h
  intro l hl
  have := h.2.2 l hl
  simp only [ldOk, Bool.and_eq_true, inR_true] at this
  omega
theorem lw_bd {js : List Jt} {ls : List Ld} (h : loadsB js ls = true) {k : Nat} (hk : k ≤ 7) : -1327200 ≤ lwA js ls k ∧ lwA js ls k ≤ 1327200 := by
  have h6 := loads_six h
  have := sumW_bd (f := addW js ls) (B := 189600) (by omega) (k := k) (fun i _ => by
    have h1 := weight_bd (qd js i)
    have h2 := conS_bd (f := Ld.w) (B := 10000) (by omega) i (ls := ls) (fun l hl => by have := load_in h l hl; omega)
    have h3 : (ls.length : Int) * 10000 ≤ 60000 := by omega
    simp only [addW]
    omega) (by omega)
  unfold lwA
  omega
theorem lm_bd {js : List Jt} {ls : List Ld} (h : loadsB js ls = true) {k : Nat} (hk : k ≤ 7) : -61488000 ≤ lmA js ls k ∧ lmA js ls k ≤ 61488000 := by
  have h6 := loads_six h
  have := sumW_bd (f := addM js ls) (B := 8784000) (by omega) (k := k) (fun i _ => by
    have h1 := mom_bd (qd js i)
    have h2 := conS_bd (f := momL) (B := 600000) (by omega) i (ls := ls) (fun l hl => by
      have h3 := load_in h l hl
      have := mul_bd (a := l.w) (b := l.x) (m := 10000) (n := 60) (by omega) (by omega)
      simp only [momL]
      omega)
    have h3 : (ls.length : Int) * 600000 ≤ 3600000 := by omega
    simp only [addM]
    omega) (by omega)
  unfold lmA
  omega
end Go.Proofs.YtpcahgedkmgllaaGreat

namespace Go.Proofs.YtpcahgedkmgllaaGreat
open Go.Eng

def sum4 (p q r s : Rw) : Int := detR q r s * p.d - detR p r s * q.d + detR p q s * r.d - detR p q r * s.d
theorem sum4_at (p q r s : Rw) : s.a * detH p q r + s.b * detV p q r + s.c * detM p q r - s.d * detR p q r = sum4 p q r s := by
  unfold sum4 detR detH detV detM det3; grind
theorem can_a (p q r s : Rw) : detR q r s * p.a - detR p r s * q.a + detR p q s * r.a - detR p q r * s.a = 0 := by
  unfold detR det3; grind
theorem can_b (p q r s : Rw) : detR q r s * p.b - detR p r s * q.b + detR p q s * r.b - detR p q r * s.b = 0 := by
  unfold detR det3; grind
theorem can_c (p q r s : Rw) : detR q r s * p.c - detR p r s * q.c + detR p q s * r.c - detR p q r * s.c = 0 := by
  unfold detR det3; grind
theorem detR_12 (p q r : Rw) : detR q p r = -detR p q r := by unfold detR det3; grind
theorem detR_23 (p q r : Rw) : detR p r q = -detR p q r := by unfold detR det3; grind
theorem detR_same (p q : Rw) : detR p p q = 0 ∧ detR p q p = 0 ∧ detR p q q = 0 := by refine ⟨?_, ?_, ?_⟩ <;> (unfold detR det3; grind)
theorem sum4_12 (p q r s : Rw) : sum4 q p r s = -sum4 p q r s := by unfold sum4; rw [detR_12 p q r, detR_12 p q s]; grind
theorem sum4_23 (p q r s : Rw) : sum4 p r q s = -sum4 p q r s := by unfold sum4; rw [detR_12 q r s, detR_23 p q r]; grind
theorem sum4_34 (p q r s : Rw) : sum4 p q s r = -sum4 p q r s := by unfold sum4; rw [detR_23 q r s, detR_23 p r s]; grind
theorem sum4_same (p q r : Rw) : sum4 p q r p = 0 ∧ sum4 p q r q = 0 ∧ sum4 p q r r = 0 := by
  refine ⟨?_, ?_, ?_⟩ <;> (unfold sum4 detR det3; grind)
theorem sum4_mix (p q r t u s : Rw) : detR t u s * sum4 p q r p - detR p u s * sum4 p q r t + detR p t s * sum4 p q r u - detR p t u * sum4 p q r s = -(detR p q r * sum4 p t u s) := by
  unfold sum4 detR det3; grind
theorem sum4_mix4 (p q r k t u s : Rw) : detR t u s * sum4 p q r k - detR k u s * sum4 p q r t + detR k t s * sum4 p q r u - detR k t u * sum4 p q r s = -(detR p q r * sum4 k t u s) := by
  unfold sum4 detR det3; grind
theorem sum4_three (p q r s t : Rw) : detR p q r * sum4 p q s t - detR p q s * sum4 p q r t + detR p q t * sum4 p q r s = 0 := by
  unfold sum4 detR det3; grind
def Sat (p q r s : Rw) : Prop := detR p q r * sum4 p q r s ≤ 0
def Con (p q r s : Rw) : Prop :=
  (0 ≤ detR q r s ∧ detR p r s ≤ 0 ∧ 0 ≤ detR p q s ∧ detR p q r ≤ 0 ∧ sum4 p q r s < 0) ∨
  (detR q r s ≤ 0 ∧ 0 ≤ detR p r s ∧ detR p q s ≤ 0 ∧ 0 ≤ detR p q r ∧ 0 < sum4 p q r s)
def Con1 (p q r s : Rw) : Prop :=
  (detR p r s ≤ 0 ∧ 0 ≤ detR p q s ∧ detR p q r ≤ 0 ∧ sum4 p q r s < 0) ∨
  (0 ≤ detR p r s ∧ detR p q s ≤ 0 ∧ 0 ≤ detR p q r ∧ 0 < sum4 p q r s)
def Con2 (p q r s : Rw) : Prop :=
  (0 ≤ detR p q s ∧ detR p q r ≤ 0 ∧ sum4 p q r s < 0) ∨ (detR p q s ≤ 0 ∧ 0 ≤ detR p q r ∧ 0 < sum4 p q r s)
theorem sat_same (p q r : Rw) : Sat p q r p ∧ Sat p q r q ∧ Sat p q r r := by
  obtain ⟨h1, h2, h3⟩ := sum4_same p q r
  refine ⟨?_, ?_, ?_⟩ <;> (unfold Sat; simp [h1, h2, h3])
theorem sat_12 {p q r s : Rw} : Sat q p r s ↔ Sat p q r s := by
  unfold Sat; rw [detR_12 p q r, sum4_12 p q r s]; simp [Int.neg_mul_neg]
theorem con2_12 {p q r s : Rw} : Con2 q p r s ↔ Con2 p q r s := by
  unfold Con2; rw [detR_12 p q r, detR_12 p q s, sum4_12 p q r s]; omega
theorem not_sat {p q r s : Rw} (h : ¬ Sat p q r s) : (0 < detR p q r ∧ 0 < sum4 p q r s) ∨ (detR p q r < 0 ∧ sum4 p q r s < 0) := by
  unfold Sat at h
  generalize detR p q r = x at *
  generalize sum4 p q r s = y at *
  rcases Int.lt_trichotomy x 0 with hx | hx | hx
  · refine .inr ⟨hx, ?_⟩
    rcases Int.lt_trichotomy y 0 with hy | hy | hy
    · exact hy
    · subst hy; simp at h
    · exact absurd (Int.le_of_lt (Int.mul_neg_of_neg_of_pos hx hy)) h
  · subst hx; simp at h
  · refine .inl ⟨hx, ?_⟩
    rcases Int.lt_trichotomy y 0 with hy | hy | hy
    · exact absurd (Int.le_of_lt (Int.mul_neg_of_pos_of_neg hx hy)) h
    · subst hy; simp at h
    · exact hy
theorem sat_pos {p q r s : Rw} (h : Sat p q r s) (hd : 0 < detR p q r) : sum4 p q r s ≤ 0 := by
  unfold Sat at h
  exact Int.not_lt.1 fun hc => absurd (Int.mul_pos hd hc) (by omega)
theorem sat_neg {p q r s : Rw} (h : Sat p q r s) (hd : detR p q r < 0) : 0 ≤ sum4 p q r s := by
  unfold Sat at h
  exact Int.not_lt.1 fun hc => absurd (Int.mul_pos_of_neg_of_neg hd hc) (by omega)
theorem mul_np {a b : Int} (h1 : 0 ≤ a) (h2 : b ≤ 0) : a * b ≤ 0 := Int.mul_nonpos_of_nonneg_of_nonpos h1 h2
theorem mul_pn {a b : Int} (h1 : a ≤ 0) (h2 : 0 ≤ b) : a * b ≤ 0 := Int.mul_nonpos_of_nonpos_of_nonneg h1 h2
theorem mul_nn {a b : Int} (h1 : a ≤ 0) (h2 : b ≤ 0) : 0 ≤ a * b := Int.mul_nonneg_of_nonpos_of_nonpos h1 h2
theorem mul_pp {a b : Int} (h1 : 0 ≤ a) (h2 : 0 ≤ b) : 0 ≤ a * b := Int.mul_nonneg h1 h2

theorem line_step {p q u t s : Rw} (hu : 0 < detR p q u) (ht : 0 < detR p q t) (hs : 0 < detR p q s) (h1 : sum4 p q t u ≤ 0) (h2 : sum4 p q u s ≤ 0) : sum4 p q t s ≤ 0 := by
  have e := sum4_three p q t u s
  have a1 := mul_np (Int.le_of_lt ht) h2
  have a2 := mul_np (Int.le_of_lt hs) h1
  refine Int.not_lt.1 fun hc => ?_
  have a3 := Int.mul_pos hu hc
  omega
theorem line_best {p q : Rw} : ∀ {l : List Rw}, (∃ u ∈ l, 0 < detR p q u) → ∃ u ∈ l, 0 < detR p q u ∧ ∀ s ∈ l, 0 < detR p q s → sum4 p q u s ≤ 0
  | [], h => by obtain ⟨u, h, _⟩ := h; cases h
  | t :: l, h => by
    by_cases hl : ∃ u ∈ l, 0 < detR p q u
    · obtain ⟨u, hu, hp, hb⟩ := line_best hl
      by_cases ht : 0 < detR p q t ∧ ¬ sum4 p q u t ≤ 0
      · refine ⟨t, List.mem_cons_self, ht.1, fun s hs hps => ?_⟩
        rcases List.mem_cons.1 hs with rfl | hs
        · simp [(sum4_same p q s).2.2]
        · exact line_step hp ht.1 hps (by rw [sum4_34]; omega) (hb s hs hps)
      · refine ⟨u, List.mem_cons_of_mem _ hu, hp, fun s hs hps => ?_⟩
        rcases List.mem_cons.1 hs with rfl | hs
        · exact Int.not_lt.1 fun hc => ht ⟨hps, by omega⟩
        · exact hb s hs hps
    · refine ⟨t, List.mem_cons_self, ?_, fun s hs hps => ?_⟩
      · obtain ⟨u, hu, hp⟩ := h
        rcases List.mem_cons.1 hu with rfl | hu
        · exact hp
        · exact absurd ⟨u, hu, hp⟩ hl
      · rcases List.mem_cons.1 hs with rfl | hs
        · simp [(sum4_same p q s).2.2]
        · exact absurd ⟨s, hs, hps⟩ hl
theorem line_pos {p q : Rw} {l : List Rw} (h : ∃ u ∈ l, 0 < detR p q u) : ∃ u ∈ l, detR p q u ≠ 0 ∧ ((∀ s ∈ l, Sat p q u s) ∨ ∃ s ∈ l, Con2 p q u s) := by
  obtain ⟨u, hu, hp, hb⟩ := line_best h
  refine ⟨u, hu, by omega, ?_⟩
  by_cases hs : ∃ s ∈ l, ¬ Sat p q u s
  · obtain ⟨s, hs, hn⟩ := hs
    refine .inr ⟨s, hs, .inr ?_⟩
    rcases not_sat hn with ⟨h1, h2⟩ | ⟨h1, h2⟩
    · exact ⟨Int.not_lt.1 fun hc => absurd (hb s hs hc) (by omega), by omega, h2⟩
    · omega
  · exact .inl fun s hm => Classical.not_not.1 fun hn => hs ⟨s, hm, hn⟩
theorem line_any {p q : Rw} {l : List Rw} (h : ∃ u ∈ l, detR p q u ≠ 0) : ∃ u ∈ l, detR p q u ≠ 0 ∧ ((∀ s ∈ l, Sat p q u s) ∨ ∃ s ∈ l, Con2 p q u s) := by
  obtain ⟨u, hu, hn⟩ := h
  rcases Int.lt_or_gt_of_ne hn with h1 | h1
  · obtain ⟨v, hv, h2, h3⟩ := line_pos (p := q) (q := p) (l := l) ⟨u, hu, by rw [detR_12 p q]; omega⟩
    refine ⟨v, hv, by rw [detR_12 p q] at h2; omega, ?_⟩
    rcases h3 with h3 | ⟨s, hs, h3⟩
    · exact .inl fun s hs => sat_12.1 (h3 s hs)
    · exact .inr ⟨s, hs, con2_12.1 h3⟩
  · exact line_pos ⟨u, hu, h1⟩

theorem plane_sign {p q r t u s : Rw} (hv : ¬ Sat p q r t) (hu : Sat p q r u) (hs : Sat p q r s) (h : Con2 p t u s) : Con1 p t u s := by
  have e := sum4_mix p q r t u s
  rw [(sum4_same p q r).1] at e
  simp only [Int.mul_zero] at e
  rcases not_sat hv with ⟨d, g⟩ | ⟨d, g⟩
  · have gu := sat_pos hu d
    have gs := sat_pos hs d
    rcases h with ⟨h1, h2, h3⟩ | ⟨h1, h2, h3⟩
    · refine .inl ⟨Int.not_lt.1 fun hc => ?_, h1, h2, h3⟩
      have a1 := Int.mul_pos hc g
      have a2 := mul_np h1 gu
      have a3 := mul_nn h2 gs
      have a4 := Int.mul_neg_of_pos_of_neg d h3
      omega
    · refine .inr ⟨Int.not_lt.1 fun hc => ?_, h1, h2, h3⟩
      have a1 := Int.mul_neg_of_neg_of_pos hc g
      have a2 := mul_nn h1 gu
      have a3 := mul_np h2 gs
      have a4 := Int.mul_pos d h3
      omega
  · have gu := sat_neg hu d
    have gs := sat_neg hs d
    rcases h with ⟨h1, h2, h3⟩ | ⟨h1, h2, h3⟩
    · refine .inl ⟨Int.not_lt.1 fun hc => ?_, h1, h2, h3⟩
      have a1 := Int.mul_neg_of_pos_of_neg hc g
      have a2 := mul_pp h1 gu
      have a3 := mul_pn h2 gs
      have a4 := Int.mul_pos_of_neg_of_neg d h3
      omega
    · refine .inr ⟨Int.not_lt.1 fun hc => ?_, h1, h2, h3⟩
      have a1 := Int.mul_pos_of_neg_of_neg hc g
      have a2 := mul_pn h1 gu
      have a3 := mul_pp h2 gs
      have a4 := Int.mul_neg_of_neg_of_pos d h3
      omega
def At1 (p : Rw) (l : List Rw) : Prop := (∃ q ∈ l, ∃ r ∈ l, detR p q r ≠ 0 ∧ ∀ s ∈ l, Sat p q r s) ∨ ∃ q ∈ l, ∃ r ∈ l, ∃ s ∈ l, Con1 p q r s
theorem con1_par {p q r t : Rw} (hv : ¬ Sat p q r t) (h1 : detR p t q = 0) (h2 : detR p t r = 0) : Con1 p q r t := by
  have e1 : detR p q t = 0 := by rw [detR_23, h1]; rfl
  have e2 : detR p r t = 0 := by rw [detR_23, h2]; rfl
  rcases not_sat hv with ⟨d, g⟩ | ⟨d, g⟩
  · exact .inr ⟨by omega, by omega, by omega, g⟩
  · exact .inl ⟨by omega, by omega, by omega, g⟩
theorem plane_base {p q r : Rw} (h : detR p q r ≠ 0) : At1 p [q, r] := by
  refine .inl ⟨q, by simp, r, by simp, h, fun s hs => ?_⟩
  obtain ⟨_, h2, h3⟩ := sat_same p q r
  simp only [List.mem_cons, List.not_mem_nil, or_false] at hs
  rcases hs with rfl | rfl
  · exact h2
  · exact h3
theorem plane_step {p t : Rw} {l : List Rw} (h : At1 p l) : At1 p (t :: l) := by
  have mm : ∀ {x : Rw}, x ∈ l → x ∈ t :: l := fun h => List.mem_cons_of_mem _ h
  have mt : t ∈ t :: l := List.mem_cons_self
  rcases h with ⟨q, hq, r, hr, hd, hall⟩ | ⟨q, hq, r, hr, s, hs, hc⟩
  · by_cases hv : Sat p q r t
    · refine .inl ⟨q, mm hq, r, mm hr, hd, fun s hs => ?_⟩
      rcases List.mem_cons.1 hs with rfl | hs
      · exact hv
      · exact hall s hs
    · by_cases hp : ∃ u ∈ l, detR p t u ≠ 0
      · obtain ⟨u, hu, hn, h | ⟨s, hs, hc⟩⟩ := line_any hp
        · refine .inl ⟨t, mt, u, mm hu, hn, fun s hs => ?_⟩
          rcases List.mem_cons.1 hs with rfl | hs
          · exact (sat_same p s u).2.1
          · exact h s hs
        · exact .inr ⟨t, mt, u, mm hu, s, mm hs, plane_sign hv (hall u hu) (hall s hs) hc⟩
      · have h1 : detR p t q = 0 := Classical.not_not.1 fun hn => hp ⟨q, hq, hn⟩
        have h2 : detR p t r = 0 := Classical.not_not.1 fun hn => hp ⟨r, hr, hn⟩
        exact .inr ⟨q, mm hq, r, mm hr, t, mt, con1_par hv h1 h2⟩
  · exact .inr ⟨q, mm hq, r, mm hr, s, mm hs, hc⟩
theorem plane_app {p : Rw} {b : List Rw} (h : At1 p b) : ∀ l, At1 p (l ++ b)
  | [] => h
  | _ :: l => plane_step (plane_app h l)
theorem plane_any {p : Rw} {l : List Rw} (h : ∃ q ∈ l, ∃ r ∈ l, detR p q r ≠ 0) : At1 p l := by
  obtain ⟨q, hq, r, hr, hd⟩ := h
  have m : ∀ {x}, x ∈ l ++ [q, r] → x ∈ l := fun {x} hx => by
    rcases List.mem_append.1 hx with hx | hx
    · exact hx
    · simp only [List.mem_cons, List.not_mem_nil, or_false] at hx
      rcases hx with rfl | rfl
      · exact hq
      · exact hr
  have m' : ∀ {x}, x ∈ l → x ∈ l ++ [q, r] := fun hx => List.mem_append.2 (.inl hx)
  rcases plane_app (plane_base hd) l with ⟨a, ha, b, hb, h1, h2⟩ | ⟨a, ha, b, hb, c, hc, h1⟩
  · exact .inl ⟨a, m ha, b, m hb, h1, fun s hs => h2 s (m' hs)⟩
  · exact .inr ⟨a, m ha, b, m hb, c, m hc, h1⟩

theorem space_sign {p q r k t u s : Rw} (hv : ¬ Sat p q r k) (ht : Sat p q r t) (hu : Sat p q r u) (hs : Sat p q r s) (h : Con1 k t u s) : Con k t u s := by
  have e := sum4_mix4 p q r k t u s
  rcases not_sat hv with ⟨d, g⟩ | ⟨d, g⟩
  · have gt := sat_pos ht d
    have gu := sat_pos hu d
    have gs := sat_pos hs d
    rcases h with ⟨h0, h1, h2, h3⟩ | ⟨h0, h1, h2, h3⟩
    · refine .inl ⟨Int.not_lt.1 fun hc => ?_, h0, h1, h2, h3⟩
      have a1 := Int.mul_neg_of_neg_of_pos hc g
      have a0 := mul_nn h0 gt
      have a2 := mul_np h1 gu
      have a3 := mul_nn h2 gs
      have a4 := Int.mul_neg_of_pos_of_neg d h3
      omega
    · refine .inr ⟨Int.not_lt.1 fun hc => ?_, h0, h1, h2, h3⟩
      have a1 := Int.mul_pos hc g
      have a0 := mul_np h0 gt
      have a2 := mul_nn h1 gu
      have a3 := mul_np h2 gs
      have a4 := Int.mul_pos d h3
      omega
  · have gt := sat_neg ht d
    have gu := sat_neg hu d
    have gs := sat_neg hs d
    rcases h with ⟨h0, h1, h2, h3⟩ | ⟨h0, h1, h2, h3⟩
    · refine .inl ⟨Int.not_lt.1 fun hc => ?_, h0, h1, h2, h3⟩
      have a1 := Int.mul_pos_of_neg_of_neg hc g
      have a0 := mul_pn h0 gt
      have a2 := mul_pp h1 gu
      have a3 := mul_pn h2 gs
      have a4 := Int.mul_pos_of_neg_of_neg d h3
      omega
    · refine .inr ⟨Int.not_lt.1 fun hc => ?_, h0, h1, h2, h3⟩
      have a1 := Int.mul_neg_of_pos_of_neg hc g
      have a0 := mul_pp h0 gt
      have a2 := mul_pn h1 gu
      have a3 := mul_pp h2 gs
      have a4 := Int.mul_neg_of_neg_of_pos d h3
      omega
def At0 (l : List Rw) : Prop := (∃ q ∈ l, ∃ r ∈ l, ∃ s ∈ l, detR q r s ≠ 0 ∧ ∀ t ∈ l, Sat q r s t) ∨ ∃ p ∈ l, ∃ q ∈ l, ∃ r ∈ l, ∃ s ∈ l, Con p q r s
theorem space_base {q r s : Rw} (h : detR q r s ≠ 0) : At0 [q, r, s] := by
  refine .inl ⟨q, by simp, r, by simp, s, by simp, h, fun t ht => ?_⟩
  obtain ⟨h1, h2, h3⟩ := sat_same q r s
  simp only [List.mem_cons, List.not_mem_nil, or_false] at ht
  rcases ht with rfl | rfl | rfl
  · exact h1
  · exact h2
  · exact h3
theorem space_across {q r s t : Rw} (h : detR q r s ≠ 0) (ht : t.a ≠ 0 ∨ t.b ≠ 0 ∨ t.c ≠ 0) : detR t q r ≠ 0 ∨ detR t q s ≠ 0 ∨ detR t r s ≠ 0 := by
  refine Classical.not_not.1 fun hn => ?_
  have h1 : detR t q r = 0 := by omega
  have h2 : detR t q s = 0 := by omega
  have h3 : detR t r s = 0 := by omega
  have ea := can_a t q r s
  have eb := can_b t q r s
  have ec := can_c t q r s
  rw [h1, h2, h3] at ea eb ec
  simp only [Int.zero_mul, Int.sub_zero, Int.add_zero] at ea eb ec
  rcases ht with ht | ht | ht
  · exact ((Int.mul_eq_zero.1 ea).elim h ht)
  · exact ((Int.mul_eq_zero.1 eb).elim h ht)
  · exact ((Int.mul_eq_zero.1 ec).elim h ht)
theorem space_step {t : Rw} {l : List Rw} (ht : t.a ≠ 0 ∨ t.b ≠ 0 ∨ t.c ≠ 0) (h : At0 l) : At0 (t :: l) := by
  have mm : ∀ {x : Rw}, x ∈ l → x ∈ t :: l := fun h => List.mem_cons_of_mem _ h
  have mt : t ∈ t :: l := List.mem_cons_self
  rcases h with ⟨q, hq, r, hr, s, hs, hd, hall⟩ | ⟨p, hp, q, hq, r, hr, s, hs, hc⟩
  · by_cases hv : Sat q r s t
    · refine .inl ⟨q, mm hq, r, mm hr, s, mm hs, hd, fun s hs => ?_⟩
      rcases List.mem_cons.1 hs with rfl | hs
      · exact hv
      · exact hall s hs
    · have hx : ∃ a ∈ l, ∃ b ∈ l, detR t a b ≠ 0 := by
        rcases space_across hd ht with h | h | h
        · exact ⟨q, hq, r, hr, h⟩
        · exact ⟨q, hq, s, hs, h⟩
        · exact ⟨r, hr, s, hs, h⟩
      rcases plane_any hx with ⟨a, ha, b, hb, hn, h⟩ | ⟨a, ha, b, hb, c, hc, h⟩
      · refine .inl ⟨t, mt, a, mm ha, b, mm hb, hn, fun s hs => ?_⟩
        rcases List.mem_cons.1 hs with rfl | hs
        · exact (sat_same s a b).1
        · exact h s hs
      · exact .inr ⟨t, mt, a, mm ha, b, mm hb, c, mm hc, space_sign hv (hall a ha) (hall b hb) (hall c hc) h⟩
  · exact .inr ⟨p, mm hp, q, mm hq, r, mm hr, s, mm hs, hc⟩
theorem space_app {b : List Rw} (h : At0 b) : ∀ l : List Rw, (∀ t ∈ l, t.a ≠ 0 ∨ t.b ≠ 0 ∨ t.c ≠ 0) → At0 (l ++ b)
  | [], _ => h
  | t :: l, hl => space_step (hl t List.mem_cons_self) (space_app h l fun x hx => hl x (List.mem_cons_of_mem _ hx))
theorem farkas {l : List Rw} (hl : ∀ t ∈ l, t.a ≠ 0 ∨ t.b ≠ 0 ∨ t.c ≠ 0) (h : ∃ q ∈ l, ∃ r ∈ l, ∃ s ∈ l, detR q r s ≠ 0) : At0 l := by
  obtain ⟨q, hq, r, hr, s, hs, hd⟩ := h
  have m : ∀ {x}, x ∈ l ++ [q, r, s] → x ∈ l := fun {x} hx => by
    rcases List.mem_append.1 hx with hx | hx
    · exact hx
    · simp only [List.mem_cons, List.not_mem_nil, or_false] at hx
      rcases hx with rfl | rfl | rfl
      · exact hq
      · exact hr
      · exact hs
  have m' : ∀ {x}, x ∈ l → x ∈ l ++ [q, r, s] := fun hx => List.mem_append.2 (.inl hx)
  rcases space_app (space_base hd) l hl with ⟨a, ha, b, hb, c, hc, h1, h2⟩ | ⟨a, ha, b, hb, c, hc, d, hd, h1⟩
  · exact .inl ⟨a, m ha, b, m hb, c, m hc, h1, fun s hs => h2 s (m' hs)⟩
  · exact .inr ⟨a, m ha, b, m hb, c, m hc, d, m hd, h1⟩
end Go.Proofs.YtpcahgedkmgllaaGreat

namespace Go.Proofs.YtpcahgedkmgllaaGreat
open Go.Eng

def smR (r : Rw) : Prop := (-60 ≤ r.a ∧ r.a ≤ 60) ∧ (-60 ≤ r.b ∧ r.b ≤ 60) ∧ (-1 ≤ r.c ∧ r.c ≤ 1) ∧ -141120000 ≤ r.d ∧ r.d ≤ 141120000
theorem smR_ok {r : Rw} (h : smR r) : rowB r = true := by
  unfold smR at h
  rw [rowB_true]
  omega
theorem rowI_sm {js : List Jt} {ls : List Ld} (h : loadsB js ls = true) {k : Nat} (hk : k < js.length) : smR (rowI js ls k) := by
  have ha := loads_arch h
  have h8 := arch_len ha
  have hj := joint_in ha hk
  rw [ptOk_true, ptOk_true] at hj
  have h1 := lw_bd h (k := k) (by omega)
  have h2 := lm_bd h (k := k) (by omega)
  have h3 := mul_bd (a := (jat js k).i.x) (b := lwA js ls k) (m := 60) (n := 1327200) (by omega) (by omega)
  unfold smR rowI
  simp only
  rw [w64 (n := (jat js k).i.x * lwA js ls k) (by omega), w64 (by omega)]
  omega
theorem rowO_sm {js : List Jt} {ls : List Ld} (h : loadsB js ls = true) {k : Nat} (hk : k < js.length) : smR (rowO js ls k) := by
  have ha := loads_arch h
  have h8 := arch_len ha
  have hj := joint_in ha hk
  rw [ptOk_true, ptOk_true] at hj
  have h1 := lw_bd h (k := k) (by omega)
  have h2 := lm_bd h (k := k) (by omega)
  have h3 := mul_bd (a := (jat js k).o.x) (b := lwA js ls k) (m := 60) (n := 1327200) (by omega) (by omega)
  unfold smR rowO
  simp only
  rw [w64 (n := (jat js k).o.x * lwA js ls k) (by omega), w64 (by omega)]
  omega
theorem rowsN_mem {js : List Jt} {ls : List Ld} {r : Rw} : ∀ {n : Nat}, r ∈ rowsN js ls n → ∃ k, k < n ∧ (r = rowI js ls k ∨ r = rowO js ls k)
  | 0, h => by simp [rowsN] at h
  | n + 1, h => by
    simp only [rowsN, List.mem_append, List.mem_cons, List.not_mem_nil, or_false] at h
    rcases h with h | h
    · obtain ⟨k, hk, h⟩ := rowsN_mem h
      exact ⟨k, by omega, h⟩
    · exact ⟨n, by omega, h⟩
theorem rowsAll_mem {js : List Jt} {ls : List Ld} {r : Rw} (h : r ∈ rowsAll js ls) : (∃ k, k < js.length ∧ (r = rowI js ls k ∨ r = rowO js ls k)) ∨ r = rowE := by
  simp only [rowsAll, List.mem_append, List.mem_singleton] at h
  exact h.imp rowsN_mem id
theorem rowsN_in {js : List Jt} {ls : List Ld} {k : Nat} : ∀ {n : Nat}, k < n → (rowsN js ls n)[2 * k]? = some (rowI js ls k) ∧ (rowsN js ls n)[2 * k + 1]? = some (rowO js ls k)
  | n + 1, h => by
    have hl := rowsN_len js ls n
    by_cases e : k = n
    · subst e
      simp only [rowsN]
      rw [List.getElem?_append_right (by omega), List.getElem?_append_right (by omega), hl]
      simp
    · have ih := rowsN_in (js := js) (ls := ls) (show k < n by omega)
      simp only [rowsN]
      rw [List.getElem?_append_left (by omega), List.getElem?_append_left (by omega)]
      exact ih
theorem rowsAll_I {js : List Jt} {ls : List Ld} {k : Nat} (h : k < js.length) : wat (rowsAll js ls) (2 * k) = rowI js ls k ∧ wat (rowsAll js ls) (2 * k + 1) = rowO js ls k := by
  have h1 := rowsN_in (js := js) (ls := ls) h
  have hl := rowsN_len js ls js.length
  unfold wat rowsAll
  simp only [List.getD_eq_getElem?_getD]
  rw [List.getElem?_append_left (by omega), List.getElem?_append_left (by omega), h1.1, h1.2]
  exact ⟨rfl, rfl⟩
theorem rowsAll_sm {js : List Jt} {ls : List Ld} (h : loadsB js ls = true) {r : Rw} (hr : r ∈ rowsAll js ls) : smR r := by
  rcases rowsAll_mem hr with ⟨k, hk, rfl | rfl⟩ | rfl
  · exact rowI_sm h hk
  · exact rowO_sm h hk
  · unfold smR rowE; decide
theorem rowsA_go {js : List Jt} {ls : List Ld} (h : loadsB js ls = true) : rowsA js ls = rowsAll js ls := by
  have h2 : (rowsAll js ls).all rowB = true := List.all_eq_true.2 fun r hr => smR_ok (rowsAll_sm h hr)
  unfold rowsA
  rw [h, h2]
  rfl
theorem rowsA_no {js : List Jt} {ls : List Ld} (h : loadsB js ls = false) : rowsA js ls = [] := by
  unfold rowsA
  rw [h]
  rfl
theorem rowsAll_dir {js : List Jt} {ls : List Ld} {r : Rw} (hr : r ∈ rowsAll js ls) : r.a ≠ 0 ∨ r.b ≠ 0 ∨ r.c ≠ 0 := by
  rcases rowsAll_mem hr with ⟨k, hk, rfl | rfl⟩ | rfl
  · exact .inr (.inr (by simp [rowI]))
  · exact .inr (.inr (by simp [rowO]))
  · exact .inl (by simp [rowE])
theorem arch_x {js : List Jt} (h : archB js = true) {k : Nat} (hk : k + 1 < js.length) : (jat js k).i.x < (jat js (k + 1)).i.x := by
  simp only [archB, Bool.and_eq_true, List.all_eq_true] at h
  have := h.2 k (List.mem_range.2 (by omega))
  simp only [stepB, Bool.and_eq_true, decide_eq_true_eq] at this
  exact this.2
theorem rows_at {rs : List Rw} {i : Nat} (h : i < rs.length) : wat rs i ∈ rs := List.mem_of_getElem? (wat_lt h)
theorem rows_span {js : List Jt} {ls : List Ld} (h : loadsB js ls = true) : ∃ q ∈ rowsAll js ls, ∃ r ∈ rowsAll js ls, ∃ s ∈ rowsAll js ls, detR q r s ≠ 0 := by
  have ha := loads_arch h
  have h8 := arch_len ha
  have hl := rowsAll_len js ls
  have hx : (jat js 0).i.x < (jat js 1).i.x := arch_x ha (k := 0) (by omega)
  refine ⟨rowI js ls 0, ?_, rowI js ls 1, ?_, rowE, by simp [rowsAll], ?_⟩
  · rw [← (rowsAll_I (js := js) (ls := ls) (k := 0) (by omega)).1]; exact rows_at (by omega)
  · rw [← (rowsAll_I (js := js) (ls := ls) (k := 1) (by omega)).1]; exact rows_at (by omega)
  · have e : detR (rowI js ls 0) (rowI js ls 1) rowE = (jat js 0).i.x - (jat js 1).i.x := by
      simp only [detR, det3, rowI, rowE]; grind
    rw [e]
    omega

theorem sort3 {P : Nat → Nat → Nat → Prop} (h12 : ∀ a b c, P a b c → P b a c) (h23 : ∀ a b c, P a b c → P a c b) {i j k : Nat} (h : P i j k) (ij : i ≠ j) (jk : j ≠ k) (ik : i ≠ k) : ∃ a b c, a < b ∧ b < c ∧ P a b c := by
  rcases Nat.lt_or_gt_of_ne ij with h1 | h1 <;> rcases Nat.lt_or_gt_of_ne jk with h2 | h2 <;> rcases Nat.lt_or_gt_of_ne ik with h3 | h3
  · exact ⟨i, j, k, h1, h2, h⟩
  · omega
  · exact ⟨i, k, j, h3, h2, h23 _ _ _ h⟩
  · exact ⟨k, i, j, h3, h1, h12 _ _ _ (h23 _ _ _ h)⟩
  · exact ⟨j, i, k, h1, h3, h12 _ _ _ h⟩
  · exact ⟨j, k, i, h2, h3, h23 _ _ _ (h12 _ _ _ h)⟩
  · omega
  · exact ⟨k, j, i, h2, h1, h12 _ _ _ (h23 _ _ _ (h12 _ _ _ h))⟩
theorem sort4 {P : Nat → Nat → Nat → Nat → Prop} (h12 : ∀ a b c d, P a b c d → P b a c d) (h23 : ∀ a b c d, P a b c d → P a c b d) (h34 : ∀ a b c d, P a b c d → P a b d c) {i j k x : Nat} (h : P i j k x)
    (ij : i ≠ j) (jk : j ≠ k) (ik : i ≠ k) (ix : i ≠ x) (jx : j ≠ x) (kx : k ≠ x) : ∃ a b c d, a < b ∧ b < c ∧ c < d ∧ P a b c d := by
  obtain ⟨a, b, c, ab, bc, h, ha, hb, hc⟩ := sort3 (P := fun a b c => P a b c x ∧ a ≠ x ∧ b ≠ x ∧ c ≠ x) (fun a b c h => ⟨h12 _ _ _ _ h.1, h.2.2.1, h.2.1, h.2.2.2⟩) (fun a b c h => ⟨h23 _ _ _ _ h.1, h.2.1, h.2.2.2, h.2.2.1⟩) ⟨h, ix, jx, kx⟩ ij jk ik
  rcases Nat.lt_or_gt_of_ne hc with h1 | h1
  · exact ⟨a, b, c, x, ab, bc, h1, h⟩
  · rcases Nat.lt_or_gt_of_ne hb with h2 | h2
    · exact ⟨a, b, x, c, ab, h2, h1, h34 _ _ _ _ h⟩
    · rcases Nat.lt_or_gt_of_ne ha with h3 | h3
      · exact ⟨a, x, b, c, h3, h2, bc, h23 _ _ _ _ (h34 _ _ _ _ h)⟩
      · exact ⟨x, a, b, c, h3, ab, bc, h12 _ _ _ _ (h23 _ _ _ _ (h34 _ _ _ _ h))⟩
theorem sat_23 {p q r s : Rw} : Sat p r q s ↔ Sat p q r s := by
  unfold Sat; rw [detR_23 p q r, sum4_23 p q r s]; simp [Int.neg_mul_neg]
theorem con_12 {p q r s : Rw} (h : Con p q r s) : Con q p r s := by
  unfold Con at h ⊢
  rw [detR_12 p q s, detR_12 p q r, sum4_12 p q r s]
  omega
theorem con_23 {p q r s : Rw} (h : Con p q r s) : Con p r q s := by
  unfold Con at h ⊢
  rw [detR_12 q r s, detR_23 p q r, sum4_23 p q r s]
  omega
theorem con_34 {p q r s : Rw} (h : Con p q r s) : Con p q s r := by
  unfold Con at h ⊢
  rw [detR_23 q r s, detR_23 p r s, sum4_34 p q r s]
  omega
theorem con_ne {p q r s : Rw} (h : Con p q r s) : sum4 p q r s ≠ 0 := by
  unfold Con at h
  omega

theorem addO_sub {l : List Rw} {out : List Th} {o : Option Th} {t : Th} (h : t ∈ out) : t ∈ addO l out o := by
  cases o with
  | none => exact h
  | some u =>
    unfold addO
    simp only
    cases hasT out u
    · cases l.all (holB u)
      · exact h
      · exact List.mem_append.2 (.inl h)
    · exact h
theorem addO_mem {l : List Rw} {out : List Th} {t : Th} (h : l.all (holB t) = true) : t ∈ addO l out (some t) := by
  unfold addO
  simp only
  cases e : hasT out t
  · rw [h]
    exact List.mem_append.2 (.inr (by simp))
  · exact hasT_iff.1 e
theorem cM_sub {l : List Rw} {i k : Nat} {out : List Th} {t : Th} (h : t ∈ out) : ∀ n, t ∈ cM l i k out n
  | 0 => h
  | n + 1 => addO_sub (cM_sub h n)
theorem cM_has {l : List Rw} {i k : Nat} {out : List Th} {t : Th} {m : Nat} (hs : slvA l i k (k + 1 + m) = some t) (h : l.all (holB t) = true) : ∀ n, m < n → t ∈ cM l i k out n
  | n + 1, hm => by
    by_cases e : m = n
    · subst e
      simp only [cM]
      rw [hs]
      exact addO_mem h
    · exact addO_sub (cM_has hs h n (by omega))
theorem cK_sub {l : List Rw} {i : Nat} {out : List Th} {t : Th} (h : t ∈ out) : ∀ n, t ∈ cK l i out n
  | 0 => h
  | n + 1 => cM_sub (cK_sub h n) _
theorem cK_has {l : List Rw} {i : Nat} {out : List Th} {t : Th} {k m : Nat} (hm : m < l.length - (i + 1 + k + 1)) (hs : slvA l i (i + 1 + k) (i + 1 + k + 1 + m) = some t) (h : l.all (holB t) = true) : ∀ n, k < n → t ∈ cK l i out n
  | n + 1, hk => by
    by_cases e : k = n
    · subst e
      exact cM_has hs h _ hm
    · exact cM_sub (cK_has hm hs h n (by omega)) _
theorem cI_has {l : List Rw} {t : Th} {i k m : Nat} (hk : k < l.length - (i + 1)) (hm : m < l.length - (i + 1 + k + 1)) (hs : slvA l i (i + 1 + k) (i + 1 + k + 1 + m) = some t) (h : l.all (holB t) = true) : ∀ n, i < n → t ∈ cI l n
  | n + 1, hi => by
    by_cases e : i = n
    · subst e
      exact cK_has hm hs h _ hk
    · exact cK_sub (cI_has hk hm hs h n (by omega)) _
theorem corL_has {l : List Rw} {t : Th} {i k m : Nat} (h20 : l.length ≤ 20) (hall : l.all rowB = true) (ik : i < k) (km : k < m) (hm : m < l.length) (hs : slv (wat l i) (wat l k) (wat l m) = some t) (h : l.all (holB t) = true) : t ∈ corL l := by
  have e : (l.all rowB && inR l.length 3 20) = true := by rw [hall, inR_true.2 (by omega)]; rfl
  unfold corL
  rw [e]
  refine cI_has (i := i) (k := k - (i + 1)) (m := m - (k + 1)) (by omega) (by omega) ?_ h _ (by omega)
  rw [show i + 1 + (k - (i + 1)) = k by omega, show k + 1 + (m - (k + 1)) = m by omega]
  exact hs
theorem tdiv_back {g x : Int} (h : g ∣ x) : x.tdiv g * g = x := Int.tdiv_mul_cancel h
theorem gcd4_dvd (t : Th) : ((gcd4 t : Int) ∣ t.h) ∧ ((gcd4 t : Int) ∣ t.v) ∧ ((gcd4 t : Int) ∣ t.m) ∧ ((gcd4 t : Int) ∣ t.d) := by
  unfold gcd4
  have a : ∀ x : Int, ∀ n : Nat, n ∣ x.natAbs → (n : Int) ∣ x := fun x n h => Int.ofNat_dvd_left.2 h
  exact ⟨a _ _ (Nat.dvd_trans (Nat.gcd_dvd_left _ _) (Nat.gcd_dvd_left _ _)), a _ _ (Nat.dvd_trans (Nat.gcd_dvd_left _ _) (Nat.gcd_dvd_right _ _)), a _ _ (Nat.dvd_trans (Nat.gcd_dvd_right _ _) (Nat.gcd_dvd_left _ _)), a _ _ (Nat.dvd_trans (Nat.gcd_dvd_right _ _) (Nat.gcd_dvd_right _ _))⟩
theorem gcd4_one {t : Th} (h : t.d ≠ 0) : gcd4 (mkD t) = 1 := by
  obtain ⟨h1, h2, h3, h4⟩ := gcd4_dvd t
  have hg : (mkG t).natAbs = gcd4 t := by unfold mkG; split <;> simp
  have hz : 0 < gcd4 t := Nat.pos_of_ne_zero fun h0 => h (by rw [h0] at h4; simpa using h4)
  have n : ∀ x : Int, (x.tdiv (mkG t)).natAbs = x.natAbs / gcd4 t := fun x => by rw [Int.natAbs_tdiv, hg]; rfl
  have d : ∀ x : Int, (gcd4 t : Int) ∣ x → gcd4 t ∣ x.natAbs := fun x hx => Int.ofNat_dvd_left.1 hx
  have e : gcd4 (mkD t) = Nat.gcd (Nat.gcd (t.h.natAbs / gcd4 t) (t.v.natAbs / gcd4 t)) (Nat.gcd (t.m.natAbs / gcd4 t) (t.d.natAbs / gcd4 t)) := by
    show Nat.gcd (Nat.gcd _ _) (Nat.gcd _ _) = _
    simp only [mkD, n]
  rw [e, Nat.gcd_div (d _ h1) (d _ h2), Nat.gcd_div (d _ h3) (d _ h4), Nat.gcd_div (Nat.dvd_gcd (d _ h1) (d _ h2)) (Nat.dvd_gcd (d _ h3) (d _ h4))]
  exact Nat.div_self hz
theorem abs_mul {a b : Int} {m : Nat} (hb : b ≠ 0) (h : (a * b).natAbs ≤ m) : a.natAbs ≤ m := by
  rw [Int.natAbs_mul] at h
  exact Nat.le_trans (Nat.le_mul_of_pos_right _ (by omega)) h
theorem holB_of {t : Th} (ht : thOk t = true) {r : Rw} (hr : rowB r = true) : holB t r = true ↔ r.a * t.h + r.b * t.v + r.c * t.m ≤ r.d * t.d := by
  simp only [thOk, Bool.and_eq_true] at ht
  have h := ht.1
  simp only [thIn, Bool.and_eq_true, inR_true] at h
  rw [rowB_true] at hr
  have m1 := mul_bd (a := r.a) (b := t.h) (m := 100) (n := 1000000000000) (by omega) (by omega)
  have m2 := mul_bd (a := r.b) (b := t.v) (m := 100) (n := 10000000000000) (by omega) (by omega)
  have m3 := mul_bd (a := r.c) (b := t.m) (m := 1) (n := 10000000000000) (by omega) (by omega)
  have m4 := mul_bd (a := r.d) (b := t.d) (m := 1000000000) (n := 1000000) (by omega) (by omega)
  unfold holB lhs rhs
  rw [w64 (n := r.a * t.h) (by omega), w64 (n := r.b * t.v) (by omega), w64 (n := r.c * t.m) (by omega), w64 (n := r.a * t.h + r.b * t.v) (by omega), w64 (n := r.a * t.h + r.b * t.v + r.c * t.m) (by omega), w64 (n := r.d * t.d) (by omega)]
  simp
theorem slv_sat {p q r : Rw} (hp : smR p) (hq : smR q) (hr : smR r) (hd : detR p q r ≠ 0) (he : Sat p q r rowE) : ∃ t, slv p q r = some t ∧ thOk t = true ∧ ∀ s, rowB s = true → Sat p q r s → holB t s = true := by
  have bp := smR_ok hp
  have bq := smR_ok hq
  have br := smR_ok hr
  have dR := detR_bd bp bq br
  unfold smR at hp hq hr
  have dH : -60000000000 ≤ detH p q r ∧ detH p q r ≤ 60000000000 := by
    have := det3_bd (a := dbc p) (b := dbc q) (c := dbc r) (l := 141120000) (m := 60) (n := 1) (by simp; omega) (by simp; omega) (by simp; omega) (by simp; omega) (by simp; omega) (by simp; omega) (by simp; omega) (by simp; omega) (by simp; omega)
    unfold detH; omega
  have dV : -60000000000 ≤ detV p q r ∧ detV p q r ≤ 60000000000 := by
    have := det3_bd (a := adc p) (b := adc q) (c := adc r) (l := 60) (m := 141120000) (n := 1) (by simp; omega) (by simp; omega) (by simp; omega) (by simp; omega) (by simp; omega) (by simp; omega) (by simp; omega) (by simp; omega) (by simp; omega)
    unfold detV; omega
  have dM : -4000000000000 ≤ detM p q r ∧ detM p q r ≤ 4000000000000 := by
    have := det3_bd (a := abd p) (b := abd q) (c := abd r) (l := 60) (m := 60) (n := 141120000) (by simp; omega) (by simp; omega) (by simp; omega) (by simp; omega) (by simp; omega) (by simp; omega) (by simp; omega) (by simp; omega) (by simp; omega)
    unfold detM; omega
  have at4 := fun s => sum4_at p q r s
  obtain ⟨T, eT⟩ : ∃ T : Th, T = ⟨detH p q r, detV p q r, detM p q r, detR p q r⟩ := ⟨_, rfl⟩
  have tH : T.h = detH p q r := by rw [eT]
  have tV : T.v = detV p q r := by rw [eT]
  have tM : T.m = detM p q r := by rw [eT]
  have tR : T.d = detR p q r := by rw [eT]
  have det0e : det0 p q r = detR p q r := by unfold det0; rw [bp, bq, br]; rfl
  have hs : slv p q r = mkT T := by
    unfold slv
    rw [det0e, decide_eq_false hd, eT]
    rfl
  have hTd : T.d ≠ 0 := by rw [tR]; exact hd
  have hg1 := gcd4_one hTd
  obtain ⟨d1, d2, d3, d4⟩ := gcd4_dvd T
  have gz : 0 < gcd4 T := Nat.pos_of_ne_zero fun h0 => hTd (by rw [h0] at d4; simpa using d4)
  have dv : ∀ x, (gcd4 T : Int) ∣ x → mkG T ∣ x := fun x hx => by
    unfold mkG
    split
    · exact Int.neg_dvd.2 hx
    · exact hx
  obtain ⟨t, et⟩ : ∃ t, t = mkD T := ⟨_, rfl⟩
  have e1 : t.h * mkG T = T.h := by rw [et]; exact tdiv_back (dv _ d1)
  have e2 : t.v * mkG T = T.v := by rw [et]; exact tdiv_back (dv _ d2)
  have e3 : t.m * mkG T = T.m := by rw [et]; exact tdiv_back (dv _ d3)
  have e4 : t.d * mkG T = T.d := by rw [et]; exact tdiv_back (dv _ d4)
  rw [← et] at hg1
  have hG : (0 < T.d ∧ 0 < mkG T) ∨ (T.d < 0 ∧ mkG T < 0) := by
    unfold mkG
    split
    · exact .inr ⟨by assumption, by omega⟩
    · exact .inl ⟨by omega, by omega⟩
  generalize mkG T = G at e1 e2 e3 e4 hG
  have hG0 : G ≠ 0 := by omega
  have hpos : 0 < t.d := by
    refine Int.not_le.1 fun hc => ?_
    rcases hG with ⟨h1, h2⟩ | ⟨h1, h2⟩
    · have := Int.mul_nonpos_of_nonpos_of_nonneg hc (Int.le_of_lt h2)
      omega
    · have := Int.mul_nonneg_of_nonpos_of_nonpos hc (Int.le_of_lt h2)
      omega
  -- what is asked of a row, and what is asked of the point
  have key : ∀ s : Rw, (s.a * t.h + s.b * t.v + s.c * t.m - s.d * t.d) * G = sum4 p q r s := fun s => by
    rw [← at4 s, ← tH, ← tV, ← tM, ← tR, ← e1, ← e2, ← e3, ← e4]
    grind
  have holds : ∀ s, Sat p q r s → s.a * t.h + s.b * t.v + s.c * t.m ≤ s.d * t.d := fun s hS => by
    have k := key s
    refine Int.not_lt.1 fun hc => ?_
    rcases hG with ⟨h1, h2⟩ | ⟨h1, h2⟩
    · have h3 := sat_pos hS (by omega)
      have h4 := Int.mul_pos (show 0 < s.a * t.h + s.b * t.v + s.c * t.m - s.d * t.d by omega) h2
      omega
    · have h3 := sat_neg hS (by omega)
      have h4 := Int.mul_neg_of_pos_of_neg (show 0 < s.a * t.h + s.b * t.v + s.c * t.m - s.d * t.d by omega) h2
      omega
  have hE := holds rowE he
  simp only [rowE] at hE
  have a1 := abs_mul (a := t.h) (m := 60000000000) hG0 (by omega)
  have a2 := abs_mul (a := t.v) (m := 60000000000) hG0 (by omega)
  have a3 := abs_mul (a := t.m) (m := 4000000000000) hG0 (by omega)
  have a4 := abs_mul (a := t.d) (m := 60000) hG0 (by omega)
  have hIn : thIn t = true := by
    simp only [thIn, Bool.and_eq_true, inR_true]
    omega
  have hok : thOk t = true := by
    simp only [thOk, hIn, hg1, decide_true, Bool.and_self]
  have hfar : farT T = true := by
    simp only [farT, Bool.and_eq_true, farB_true, Bool.not_eq_true', decide_eq_false_iff_not]
    omega
  refine ⟨t, ?_, hok, fun s hb hS => (holB_of hok hb).2 (holds s hS)⟩
  rw [hs]
  unfold mkT
  rw [hfar, ← et, hok]
  rfl
theorem mem_at {l : List Rw} {r : Rw} (h : r ∈ l) : ∃ i, i < l.length ∧ wat l i = r := by
  obtain ⟨i, hi⟩ := List.mem_iff_getElem?.1 h
  have hl := (List.getElem?_eq_some_iff.1 hi).1
  refine ⟨i, hl, ?_⟩
  have := wat_lt hl
  rw [this] at hi
  exact Option.some.inj hi
theorem corL_sat {l : List Rw} (h20 : l.length ≤ 20) (hsm : ∀ r ∈ l, smR r) (hE : rowE ∈ l) (h : ∃ q ∈ l, ∃ r ∈ l, ∃ s ∈ l, detR q r s ≠ 0 ∧ ∀ t ∈ l, Sat q r s t) : corL l ≠ [] := by
  obtain ⟨q, hq, r, hr, s, hs, hd, hall⟩ := h
  obtain ⟨i, hi, rfl⟩ := mem_at hq
  obtain ⟨j, hj, rfl⟩ := mem_at hr
  obtain ⟨k, hk, rfl⟩ := mem_at hs
  have ne : i ≠ j ∧ j ≠ k ∧ i ≠ k := by
    refine ⟨fun e => ?_, fun e => ?_, fun e => ?_⟩ <;> subst e
    · exact hd (detR_same _ _).1
    · exact hd (detR_same _ _).2.2
    · exact hd (detR_same _ _).2.1
  obtain ⟨a, b, c, ab, bc, ha, hb, hc, hd', hS⟩ := sort3 (P := fun a b c => a < l.length ∧ b < l.length ∧ c < l.length ∧ detR (wat l a) (wat l b) (wat l c) ≠ 0 ∧ ∀ t ∈ l, Sat (wat l a) (wat l b) (wat l c) t)
    (fun a b c h => ⟨h.2.1, h.1, h.2.2.1, by rw [detR_12]; have := h.2.2.2.1; omega, fun t ht => sat_12.1 (h.2.2.2.2 t ht)⟩)
    (fun a b c h => ⟨h.1, h.2.2.1, h.2.1, by rw [detR_23]; have := h.2.2.2.1; omega, fun t ht => sat_23.1 (h.2.2.2.2 t ht)⟩)
    ⟨hi, hj, hk, hd, hall⟩ ne.1 ne.2.1 ne.2.2
  obtain ⟨t, h1, h2, h3⟩ := slv_sat (hsm _ (rows_at ha)) (hsm _ (rows_at hb)) (hsm _ (rows_at hc)) hd' (hS _ hE)
  have hB : l.all rowB = true := List.all_eq_true.2 fun r hr => smR_ok (hsm r hr)
  have := corL_has h20 hB ab bc hc h1 (List.all_eq_true.2 fun s hs => h3 s (List.all_eq_true.1 hB s hs) (hS s hs))
  intro e
  rw [e] at this
  cases this
end Go.Proofs.YtpcahgedkmgllaaGreat

namespace Go.Proofs.YtpcahgedkmgllaaGreat
open Go.Eng

structure SelP (rs : List Rw) (K F : List Int) (hi : Int) (S : (Rw → Int) → Int) : Prop where
  len : F.length = K.length
  nth : ∀ t, t < K.length → (0 ≤ iat K t ∧ iat K t < hi) ∧ (1 ≤ iat F t ∧ iat F t ≤ 1000000)
  asc : ∀ t, t + 1 < K.length → iat K t < iat K (t + 1)
  sum : ∀ g, sumR rs K F g K.length = S g
theorem iat_left {l m : List Int} {i : Nat} (h : i < l.length) : iat (l ++ m) i = iat l i := by
  unfold iat
  simp only [List.getD_eq_getElem?_getD]
  rw [List.getElem?_append_left h]
theorem iat_last {l : List Int} {a : Int} {n : Nat} (h : n = l.length) : iat (l ++ [a]) n = a := by
  subst h
  simp [iat]
theorem sumR_left {rs : List Rw} {K F : List Int} {g : Rw → Int} {a b : Int} (h : F.length = K.length) : ∀ n, n ≤ K.length → sumR rs (K ++ [a]) (F ++ [b]) g n = sumR rs K F g n
  | 0, _ => rfl
  | n + 1, hn => by
    simp only [sumR]
    rw [sumR_left h n (by omega), iat_left (by omega), iat_left (by omega)]
theorem SelP.nil (rs : List Rw) : SelP rs [] [] 0 (fun _ => 0) := ⟨rfl, fun t h => by simp at h, fun t h => by simp at h, fun _ => rfl⟩
theorem SelP.snoc {rs : List Rw} {K F : List Int} {hi : Int} {S : (Rw → Int) → Int} (h : SelP rs K F hi S) {a f : Int} (ha : hi ≤ a) (h0 : 0 ≤ a) (hf : 1 ≤ f ∧ f ≤ 1000000) : SelP rs (K ++ [a]) (F ++ [f]) (a + 1) (fun g => S g + f * g (wat rs a.toNat)) := by
  have hl := h.len
  refine ⟨by simp [hl], fun t ht => ?_, fun t ht => ?_, fun g => ?_⟩
  · simp only [List.length_append, List.length_singleton] at ht
    by_cases e : t = K.length
    · rw [iat_last e, iat_last (by omega)]
      omega
    · rw [iat_left (by omega), iat_left (by omega)]
      have := h.nth t (by omega)
      omega
  · simp only [List.length_append, List.length_singleton] at ht
    by_cases e : t + 1 = K.length
    · rw [iat_last e, iat_left (by omega)]
      have := h.nth t (by omega)
      omega
    · rw [iat_left (by omega), iat_left (by omega)]
      exact h.asc t (by omega)
  · simp only [List.length_append, List.length_singleton, sumR]
    rw [sumR_left hl _ (Nat.le_refl _), h.sum g, iat_last rfl, iat_last hl.symm]
theorem SelP.step {rs : List Rw} {L f : List Int} {j : Nat} {hi : Int} {S : (Rw → Int) → Int} (h : SelP rs (selR L f j) (selF f j) hi S) (ha : hi ≤ iat L j) (h0 : 0 ≤ iat L j) (hf : 0 ≤ iat f j ∧ iat f j ≤ 1000000) :
    SelP rs (selR L f (j + 1)) (selF f (j + 1)) (iat L j + 1) (fun g => S g + iat f j * g (wat rs (iat L j).toNat)) := by
  by_cases hp : 0 < iat f j
  · obtain ⟨e1, e2⟩ := sel_in (l := L) hp
    rw [e1, e2]
    exact h.snoc ha h0 (by omega)
  · obtain ⟨e1, e2⟩ := sel_out (l := L) hp
    rw [e1, e2]
    refine ⟨h.len, fun t ht => by have := h.nth t ht; omega, h.asc, fun g => ?_⟩
    rw [h.sum g, show iat f j = 0 by omega]
    simp
theorem SelP.pf {rs : List Rw} {K F : List Int} {hi : Int} {S : (Rw → Int) → Int} (h : SelP rs K F hi S) (h20 : rs.length ≤ 20) (hall : rs.all rowB = true) (hh : hi ≤ rs.length) (h4 : 1 ≤ K.length ∧ K.length ≤ 4) : pfB rs K F = true := by
  simp only [pfB, pfHd, Bool.and_eq_true, Bool.not_eq_true', decide_eq_false_iff_not, decide_eq_true_eq, List.all_eq_true]
  refine ⟨⟨by omega, inR_true.2 (by omega), h.len⟩, List.all_eq_true.1 hall, fun t ht => ?_⟩
  have ht := List.mem_range.1 ht
  have h1 := h.nth t ht
  simp only [pfAt, ascAt, Bool.and_eq_true, Bool.not_eq_true', Bool.and_eq_false_iff, decide_eq_false_iff_not]
  refine ⟨⟨inR_true.2 (by omega), ?_⟩, inR_true.2 h1.2⟩
  cases t with
  | zero => exact .inl (by omega)
  | succ t =>
    have := h.asc t ht
    exact .inr (by simpa using this)
theorem sgF_pos : ∀ {l : List Int}, (∀ x ∈ l, 0 ≤ x) → (∃ x ∈ l, x ≠ 0) → sgF l = 1
  | [], _, h => by obtain ⟨x, hx, _⟩ := h; cases hx
  | y :: l, h, hn => by
    have hy := h y (by simp)
    simp only [sgF]
    by_cases e : y = 0
    · rw [if_pos e]
      refine sgF_pos (fun x hx => h x (by simp [hx])) ?_
      obtain ⟨x, hx, hx0⟩ := hn
      rcases List.mem_cons.1 hx with rfl | hx
      · exact absurd e hx0
      · exact ⟨x, hx, hx0⟩
    · rw [if_neg e, if_neg (by omega)]
theorem sgF_neg : ∀ {l : List Int}, (∀ x ∈ l, x ≤ 0) → (∃ x ∈ l, x ≠ 0) → sgF l = -1
  | [], _, h => by obtain ⟨x, hx, _⟩ := h; cases hx
  | y :: l, h, hn => by
    have hy := h y (by simp)
    simp only [sgF]
    by_cases e : y = 0
    · rw [if_pos e]
      refine sgF_neg (fun x hx => h x (by simp [hx])) ?_
      obtain ⟨x, hx, hx0⟩ := hn
      rcases List.mem_cons.1 hx with rfl | hx
      · exact absurd e hx0
      · exact ⟨x, hx, hx0⟩
    · rw [if_neg e, if_pos (by omega)]
theorem gcdL_four (a b c d : Int) : gcdL [a, b, c, d] ∣ a.natAbs ∧ gcdL [a, b, c, d] ∣ b.natAbs ∧ gcdL [a, b, c, d] ∣ c.natAbs ∧ gcdL [a, b, c, d] ∣ d.natAbs := by
  show Nat.gcd (Nat.gcd (Nat.gcd (Nat.gcd 0 _) _) _) _ ∣ _ ∧ Nat.gcd (Nat.gcd (Nat.gcd (Nat.gcd 0 _) _) _) _ ∣ _ ∧ Nat.gcd (Nat.gcd (Nat.gcd (Nat.gcd 0 _) _) _) _ ∣ _ ∧ Nat.gcd (Nat.gcd (Nat.gcd (Nat.gcd 0 _) _) _) _ ∣ _
  have l3 := fun x y z w : Nat => Nat.gcd_dvd_left (Nat.gcd (Nat.gcd (Nat.gcd 0 x) y) z) w
  have l2 := fun x y z : Nat => Nat.gcd_dvd_left (Nat.gcd (Nat.gcd 0 x) y) z
  have l1 := fun x y : Nat => Nat.gcd_dvd_left (Nat.gcd 0 x) y
  refine ⟨Nat.dvd_trans (l3 _ _ _ _) (Nat.dvd_trans (l2 _ _ _) (Nat.dvd_trans (l1 _ _) (Nat.gcd_dvd_right _ _))), Nat.dvd_trans (l3 _ _ _ _) (Nat.dvd_trans (l2 _ _ _) (Nat.gcd_dvd_right _ _)), Nat.dvd_trans (l3 _ _ _ _) (Nat.gcd_dvd_right _ _), Nat.gcd_dvd_right _ _⟩
theorem four_some {rs : List Rw} {i k m x : Nat} (h20 : rs.length ≤ 20) (hall : rs.all rowB = true) (ik : i < k) (km : k < m) (mx : m < x) (hx : x < rs.length) (hc : Con (wat rs i) (wat rs k) (wat rs m) (wat rs x)) : ∃ ks fs, four rs i k m x = some (ks, fs) := by
  have rb := fun j hj => wat_ok hall (i := j) hj
  have b1 := rb i (by omega)
  have b2 := rb k (by omega)
  have b3 := rb m (by omega)
  have b4 := rb x hx
  have hne := con_ne hc
  have d0 : ∀ {p q r : Rw}, rowB p = true → rowB q = true → rowB r = true → det0 p q r = detR p q r := fun h1 h2 h3 => by unfold det0; rw [h1, h2, h3]; rfl
  have sumA := can_a (wat rs i) (wat rs k) (wat rs m) (wat rs x)
  have sumB := can_b (wat rs i) (wat rs k) (wat rs m) (wat rs x)
  have sumC := can_c (wat rs i) (wat rs k) (wat rs m) (wat rs x)
  have sumD : sum4 (wat rs i) (wat rs k) (wat rs m) (wat rs x) = detR (wat rs k) (wat rs m) (wat rs x) * (wat rs i).d - detR (wat rs i) (wat rs m) (wat rs x) * (wat rs k).d + detR (wat rs i) (wat rs k) (wat rs x) * (wat rs m).d - detR (wat rs i) (wat rs k) (wat rs m) * (wat rs x).d := rfl
  have e1 := d0 b2 b3 b4
  have e2 := d0 b1 b3 b4
  have e3 := d0 b1 b2 b4
  have e4 := d0 b1 b2 b3
  have B1 := detR_bd b2 b3 b4
  have B2 := detR_bd b1 b3 b4
  have B3 := detR_bd b1 b2 b4
  have B4 := detR_bd b1 b2 b3
  have efz : fz (wat rs i) (wat rs k) (wat rs m) (wat rs x) = [detR (wat rs k) (wat rs m) (wat rs x), -(detR (wat rs i) (wat rs m) (wat rs x)), detR (wat rs i) (wat rs k) (wat rs x), -(detR (wat rs i) (wat rs k) (wat rs m))] := by
    unfold fz; rw [e1, e2, e3, e4]
  have hb4 : [wat rs i, wat rs k, wat rs m, wat rs x].all rowB = true := by simp [b1, b2, b3, b4]
  unfold Con at hc
  generalize sum4 (wat rs i) (wat rs k) (wat rs m) (wat rs x) = Z at hc hne sumD
  generalize detR (wat rs k) (wat rs m) (wat rs x) = F1 at *
  generalize detR (wat rs i) (wat rs m) (wat rs x) = F2 at *
  generalize detR (wat rs i) (wat rs k) (wat rs x) = F3 at *
  generalize detR (wat rs i) (wat rs k) (wat rs m) = F4 at *
  have hnz : ∃ y ∈ [F1, -F2, F3, -F4], y ≠ 0 := by
    refine Classical.not_not.1 fun hn => hne ?_
    have z : ∀ y ∈ [F1, -F2, F3, -F4], y = 0 := fun y hy => Classical.not_not.1 fun h => hn ⟨y, hy, h⟩
    have z1 := z F1 (by simp)
    have z2 := z (-F2) (by simp)
    have z3 := z F3 (by simp)
    have z4 := z (-F4) (by simp)
    rw [sumD, z1, show F2 = 0 by omega, z3, show F4 = 0 by omega]
    simp
  obtain ⟨v1, v2, v3, v4⟩ := gcdL_four F1 (-F2) F3 (-F4)
  have hgz : gcdL [F1, -F2, F3, -F4] ≠ 0 := fun h0 => by
    rw [h0] at v1 v2 v3 v4
    obtain ⟨y, hy, hy0⟩ := hnz
    simp only [List.mem_cons, List.not_mem_nil, or_false] at hy
    rcases hy with rfl | rfl | rfl | rfl
    · exact hy0 (Int.natAbs_eq_zero.1 (Nat.eq_zero_of_zero_dvd v1))
    · exact hy0 (Int.natAbs_eq_zero.1 (Nat.eq_zero_of_zero_dvd v2))
    · exact hy0 (Int.natAbs_eq_zero.1 (Nat.eq_zero_of_zero_dvd v3))
    · exact hy0 (Int.natAbs_eq_zero.1 (Nat.eq_zero_of_zero_dvd v4))
  have hfb : facB (wat rs i) (wat rs k) (wat rs m) (wat rs x) = true := by
    unfold facB
    rw [efz, hb4, decide_eq_false hgz]
    rfl
  -- the common divisor with its sign
  have hG : ∃ G : Int, facG [F1, -F2, F3, -F4] = G ∧ ((gcdL [F1, -F2, F3, -F4] : Int) = G ∨ (gcdL [F1, -F2, F3, -F4] : Int) = -G) ∧ ((0 < G ∧ 0 ≤ F1 ∧ F2 ≤ 0 ∧ 0 ≤ F3 ∧ F4 ≤ 0 ∧ Z < 0) ∨ (G < 0 ∧ F1 ≤ 0 ∧ 0 ≤ F2 ∧ F3 ≤ 0 ∧ 0 ≤ F4 ∧ 0 < Z)) := by
    rcases hc with ⟨c1, c2, c3, c4, c5⟩ | ⟨c1, c2, c3, c4, c5⟩
    · refine ⟨_, rfl, ?_, .inl ⟨?_, c1, c2, c3, c4, c5⟩⟩
      all_goals (
        have hs := sgF_pos (l := [F1, -F2, F3, -F4]) (fun y hy => by
          simp only [List.mem_cons, List.not_mem_nil, or_false] at hy
          rcases hy with rfl | rfl | rfl | rfl <;> omega) hnz
        unfold facG
        rw [hs])
      · exact .inl (by omega)
      · omega
    · refine ⟨_, rfl, ?_, .inr ⟨?_, c1, c2, c3, c4, c5⟩⟩
      all_goals (
        have hs := sgF_neg (l := [F1, -F2, F3, -F4]) (fun y hy => by
          simp only [List.mem_cons, List.not_mem_nil, or_false] at hy
          rcases hy with rfl | rfl | rfl | rfl <;> omega) hnz
        unfold facG
        rw [hs])
      · exact .inr (by omega)
      · omega
  obtain ⟨G, eG, gG, hS⟩ := hG
  have dv : ∀ y : Int, gcdL [F1, -F2, F3, -F4] ∣ y.natAbs → G ∣ y := fun y hy => by
    have := Int.ofNat_dvd_left.2 hy
    rcases gG with e | e
    · rw [e] at this; exact this
    · rw [e] at this; exact Int.neg_dvd.1 this
  have f1 := tdiv_back (dv _ v1)
  have f2 := tdiv_back (dv _ v2)
  have f3 := tdiv_back (dv _ v3)
  have f4 := tdiv_back (dv _ v4)
  have eL : facL (wat rs i) (wat rs k) (wat rs m) (wat rs x) = [F1.tdiv G, (-F2).tdiv G, F3.tdiv G, (-F4).tdiv G] := by
    unfold facL
    rw [hfb, efz, eG]
    rfl
  have ab : ∀ y : Int, -60000 ≤ y ∧ y ≤ 60000 → (y.tdiv G).natAbs ≤ 60000 := fun y hy => by
    rw [Int.natAbs_tdiv]
    exact Nat.le_trans (Nat.div_le_self _ _) (by omega)
  have g1 := ab F1 B1
  have g2 := ab (-F2) (by omega)
  have g3 := ab F3 B3
  have g4 := ab (-F4) (by omega)
  generalize F1.tdiv G = q1 at *
  generalize (-F2).tdiv G = q2 at *
  generalize F3.tdiv G = q3 at *
  generalize (-F4).tdiv G = q4 at *
  have nn : ∀ q F : Int, q * G = F → ((0 < G ∧ 0 ≤ F) ∨ (G < 0 ∧ F ≤ 0)) → 0 ≤ q := fun q F e h => by
    refine Int.not_lt.1 fun hq => ?_
    rcases h with ⟨h1, h2⟩ | ⟨h1, h2⟩
    · have := Int.mul_neg_of_neg_of_pos hq h1; omega
    · have := Int.mul_pos_of_neg_of_neg hq h1; omega
  have n1 := nn q1 F1 f1 (by omega)
  have n2 := nn q2 (-F2) f2 (by omega)
  have n3 := nn q3 F3 f3 (by omega)
  have n4 := nn q4 (-F4) f4 (by omega)
  have hsel := ((((SelP.nil rs).step (L := fourI i k m x) (f := [q1, q2, q3, q4]) (j := 0) (by simp [iat, fourI]) (by simp [iat, fourI]) (by simp [iat]; omega)).step (j := 1) (by simp [iat, fourI]; omega) (by simp [iat, fourI]) (by simp [iat]; omega)).step (j := 2) (by simp [iat, fourI]; omega) (by simp [iat, fourI]) (by simp [iat]; omega)).step (j := 3) (by simp [iat, fourI]; omega) (by simp [iat, fourI]) (by simp [iat]; omega)
  have hsum : ∀ g : Rw → Int, sumR rs (selR (fourI i k m x) [q1, q2, q3, q4] 4) (selF [q1, q2, q3, q4] 4) g (selR (fourI i k m x) [q1, q2, q3, q4] 4).length = q1 * g (wat rs i) + q2 * g (wat rs k) + q3 * g (wat rs m) + q4 * g (wat rs x) := fun g => by
    rw [hsel.sum g]
    simp [iat, fourI]
  have back : ∀ g : Rw → Int, (q1 * g (wat rs i) + q2 * g (wat rs k) + q3 * g (wat rs m) + q4 * g (wat rs x)) * G = F1 * g (wat rs i) - F2 * g (wat rs k) + F3 * g (wat rs m) - F4 * g (wat rs x) := fun g => by
    rw [← f1, show F2 = -(q2 * G) by omega, ← f3, show F4 = -(q4 * G) by omega]
    grind
  have hG0 : G ≠ 0 := by omega
  have zero : ∀ g : Rw → Int, F1 * g (wat rs i) - F2 * g (wat rs k) + F3 * g (wat rs m) - F4 * g (wat rs x) = 0 → q1 * g (wat rs i) + q2 * g (wat rs k) + q3 * g (wat rs m) + q4 * g (wat rs x) = 0 := fun g h => by
    have := back g
    rw [h] at this
    exact (Int.mul_eq_zero.1 this).resolve_right hG0
  have neg : q1 * (wat rs i).d + q2 * (wat rs k).d + q3 * (wat rs m).d + q4 * (wat rs x).d < 0 := by
    have hb := back Rw.d
    rw [← sumD] at hb
    refine Int.not_le.1 fun hq => ?_
    rcases hS with ⟨h1, _, _, _, _, h2⟩ | ⟨h1, _, _, _, _, h2⟩
    · have := Int.mul_nonneg hq (Int.le_of_lt h1); omega
    · have := Int.mul_nonpos_of_nonneg_of_nonpos hq (Int.le_of_lt h1); omega
  have hKl : 1 ≤ (selR (fourI i k m x) [q1, q2, q3, q4] 4).length ∧ (selR (fourI i k m x) [q1, q2, q3, q4] 4).length ≤ 4 := by
    refine ⟨?_, (sel_len _ _ _).1⟩
    refine Nat.pos_of_ne_zero fun h0 => ?_
    have := hsum Rw.d
    rw [h0] at this
    simp only [sumR] at this
    omega
  have hpf := hsel.pf h20 hall (by simp [iat, fourI]; omega) hKl
  have hisp : ispB rs (selR (fourI i k m x) [q1, q2, q3, q4] 4) (selF [q1, q2, q3, q4] 4) = true := by
    have hP : ∀ g, sumP rs (selR (fourI i k m x) [q1, q2, q3, q4] 4) (selF [q1, q2, q3, q4] 4) g = q1 * g (wat rs i) + q2 * g (wat rs k) + q3 * g (wat rs m) + q4 * g (wat rs x) := fun g => by
      unfold sumP
      rw [hpf, ← hsum g]
      rfl
    simp only [ispB, hpf, hP, Bool.and_eq_true, decide_eq_true_eq, true_and]
    exact ⟨zero Rw.a sumA, zero Rw.b sumB, zero Rw.c sumC, neg⟩
  refine ⟨selR (fourI i k m x) [q1, q2, q3, q4] 4, selF [q1, q2, q3, q4] 4, ?_⟩
  unfold four fourF
  rw [eL]
  simp only [List.length_cons, List.length_nil, Nat.zero_add, Nat.reduceAdd]
  rw [hisp]
  have hall0 : [q1, q2, q3, q4].all (fun f => decide (0 ≤ f)) = true := by simp [n1, n2, n3, n4]
  rw [hall0]
  rfl
theorem pf4_none {rs : List Rw} {i k m : Nat} : ∀ {c : Nat}, pf4 rs i k m c = none → ∀ e, e < c → four rs i k m (m + 1 + e) = none
  | c + 1, h, e, he => by
    simp only [pf4, Option.or_eq_none_iff] at h
    by_cases hc : e = c
    · subst hc; exact h.2
    · exact pf4_none h.1 e (by omega)
theorem pf3_none {rs : List Rw} {i k : Nat} : ∀ {c : Nat}, pf3 rs i k c = none → ∀ e, e < c → pf4 rs i k (k + 1 + e) (rs.length - (k + 1 + e + 1)) = none
  | c + 1, h, e, he => by
    simp only [pf3, Option.or_eq_none_iff] at h
    by_cases hc : e = c
    · subst hc; exact h.2
    · exact pf3_none h.1 e (by omega)
theorem pf2_none {rs : List Rw} {i : Nat} : ∀ {c : Nat}, pf2 rs i c = none → ∀ e, e < c → pf3 rs i (i + 1 + e) (rs.length - (i + 1 + e + 1)) = none
  | c + 1, h, e, he => by
    simp only [pf2, Option.or_eq_none_iff] at h
    by_cases hc : e = c
    · subst hc; exact h.2
    · exact pf2_none h.1 e (by omega)
theorem pf1_none {rs : List Rw} : ∀ {c : Nat}, pf1 rs c = none → ∀ e, e < c → pf2 rs e (rs.length - (e + 1)) = none
  | c + 1, h, e, he => by
    simp only [pf1, Option.or_eq_none_iff] at h
    by_cases hc : e = c
    · subst hc; exact h.2
    · exact pf1_none h.1 e (by omega)
theorem pfind_has {rs : List Rw} {i k m x : Nat} (h20 : rs.length ≤ 20) (ik : i < k) (km : k < m) (mx : m < x) (hx : x < rs.length) (h : four rs i k m x ≠ none) : pfind rs ≠ none := fun hn => by
  unfold pfind at hn
  rw [decide_eq_true h20, cond_true] at hn
  have h1 := pf1_none hn i (by omega)
  have h2 := pf2_none h1 (k - (i + 1)) (by omega)
  rw [show i + 1 + (k - (i + 1)) = k by omega] at h2
  have h3 := pf3_none h2 (m - (k + 1)) (by omega)
  rw [show k + 1 + (m - (k + 1)) = m by omega] at h3
  have h4 := pf4_none h3 (x - (m + 1)) (by omega)
  rw [show m + 1 + (x - (m + 1)) = x by omega] at h4
  exact h h4
theorem pfind_con {l : List Rw} (h20 : l.length ≤ 20) (hall : l.all rowB = true) (h : ∃ p ∈ l, ∃ q ∈ l, ∃ r ∈ l, ∃ s ∈ l, Con p q r s) : pfind l ≠ none := by
  obtain ⟨p, hp, q, hq, r, hr, s, hs, hc⟩ := h
  obtain ⟨i, hi, rfl⟩ := mem_at hp
  obtain ⟨j, hj, rfl⟩ := mem_at hq
  obtain ⟨k, hk, rfl⟩ := mem_at hr
  obtain ⟨x, hx, rfl⟩ := mem_at hs
  have hn := con_ne hc
  have s1 := fun a b c : Rw => sum4_same a b c
  have ne : i ≠ j ∧ j ≠ k ∧ i ≠ k ∧ i ≠ x ∧ j ≠ x ∧ k ≠ x := by
    refine ⟨fun e => ?_, fun e => ?_, fun e => ?_, fun e => ?_, fun e => ?_, fun e => ?_⟩ <;> subst e <;> refine hn ?_
    · unfold sum4; rw [(detR_same _ _).1, (detR_same _ _).1]; omega
    · have := sum4_23 (wat l i) (wat l j) (wat l j) (wat l x); omega
    · have e1 := sum4_12 (wat l j) (wat l i) (wat l i) (wat l x)
      have e2 := sum4_23 (wat l j) (wat l i) (wat l i) (wat l x)
      omega
    · exact (s1 _ _ _).1
    · exact (s1 _ _ _).2.1
    · exact (s1 _ _ _).2.2
  obtain ⟨a, b, c, d, ab, bc, cd, _, _, _, hd, hC⟩ := sort4 (P := fun a b c d => a < l.length ∧ b < l.length ∧ c < l.length ∧ d < l.length ∧ Con (wat l a) (wat l b) (wat l c) (wat l d))
    (fun a b c d h => ⟨h.2.1, h.1, h.2.2.1, h.2.2.2.1, con_12 h.2.2.2.2⟩) (fun a b c d h => ⟨h.1, h.2.2.1, h.2.1, h.2.2.2.1, con_23 h.2.2.2.2⟩) (fun a b c d h => ⟨h.1, h.2.1, h.2.2.2.1, h.2.2.1, con_34 h.2.2.2.2⟩)
    ⟨hi, hj, hk, hx, hc⟩ ne.1 ne.2.1 ne.2.2.1 ne.2.2.2.1 ne.2.2.2.2.1 ne.2.2.2.2.2
  obtain ⟨ks, fs, hf⟩ := four_some h20 hall ab bc cd hd hC
  exact pfind_has h20 ab bc cd hd (by rw [hf]; simp)
theorem sum_hold {rs : List Rw} {ks fs : List Int} {t : Th} (h : pfB rs ks fs = true) (ht : thOk t = true) (hall : rs.all (holB t) = true) : ∀ k, k ≤ ks.length → sumR rs ks fs Rw.a k * t.h + sumR rs ks fs Rw.b k * t.v + sumR rs ks fs Rw.c k * t.m ≤ sumR rs ks fs Rw.d k * t.d
  | 0, _ => by simp [sumR]
  | k + 1, hk => by
    have ih := sum_hold h ht hall k (by omega)
    obtain ⟨h1, h2, _⟩ := pf_at h (show k < ks.length by omega)
    have hm : wat rs (iat ks k).toNat ∈ rs := rows_at (by omega)
    have hB := List.all_eq_true.1 (pf_len h).2.2 _ hm
    have h3 := (holB_of ht hB).1 (List.all_eq_true.1 hall _ hm)
    simp only [sumR]
    generalize wat rs (iat ks k).toNat = r at *
    have h4 := Int.mul_le_mul_of_nonneg_left h3 (show 0 ≤ iat fs k by omega)
    generalize iat fs k = f at *
    have e1 : (sumR rs ks fs Rw.a k + f * r.a) * t.h + (sumR rs ks fs Rw.b k + f * r.b) * t.v + (sumR rs ks fs Rw.c k + f * r.c) * t.m = (sumR rs ks fs Rw.a k * t.h + sumR rs ks fs Rw.b k * t.v + sumR rs ks fs Rw.c k * t.m) + f * (r.a * t.h + r.b * t.v + r.c * t.m) := by grind
    have e2 : (sumR rs ks fs Rw.d k + f * r.d) * t.d = sumR rs ks fs Rw.d k * t.d + f * (r.d * t.d) := by grind
    rw [e1, e2]
    omega
theorem isp_sums {rs : List Rw} {ks fs : List Int} (h : ispB rs ks fs = true) : pfB rs ks fs = true ∧ sumR rs ks fs Rw.a ks.length = 0 ∧ sumR rs ks fs Rw.b ks.length = 0 ∧ sumR rs ks fs Rw.c ks.length = 0 ∧ sumR rs ks fs Rw.d ks.length < 0 := by
  simp only [ispB, Bool.and_eq_true, decide_eq_true_eq] at h
  obtain ⟨h0, h1, h2, h3, h4⟩ := h
  unfold sumP at h1 h2 h3 h4
  rw [h0] at h1 h2 h3 h4
  exact ⟨h0, h1, h2, h3, h4⟩
theorem not_both {rs : List Rw} {ks fs : List Int} {t : Th} (h : ispB rs ks fs = true) (ht : thOk t = true) (hall : rs.all (holB t) = true) : False := by
  obtain ⟨h0, h1, h2, h3, h4⟩ := isp_sums h
  have := sum_hold h0 ht hall ks.length (Nat.le_refl _)
  rw [h1, h2, h3] at this
  simp only [thOk, Bool.and_eq_true] at ht
  have hIn := ht.1
  simp only [thIn, Bool.and_eq_true, inR_true] at hIn
  have h5 := Int.mul_neg_of_neg_of_pos h4 (show 0 < t.d by omega)
  omega
theorem stands_or {js : List Jt} {ls : List Ld} (h : loadsB js ls = true) : (corL (rowsA js ls) ≠ [] ∧ pfind (rowsA js ls) = none) ∨ (corL (rowsA js ls) = [] ∧ pfind (rowsA js ls) ≠ none) := by
  have h8 := arch_len (loads_arch h)
  have hl := rowsAll_len js ls
  rw [rowsA_go h]
  have hB : (rowsAll js ls).all rowB = true := List.all_eq_true.2 fun r hr => smR_ok (rowsAll_sm h hr)
  have one : corL (rowsAll js ls) ≠ [] → pfind (rowsAll js ls) = none := fun hc => by
    refine Classical.not_not.1 fun hn => ?_
    obtain ⟨p, hp⟩ := (pfind_or (rowsAll js ls)).resolve_left hn
    obtain ⟨ks, fs⟩ := p
    obtain ⟨t, l, e⟩ := List.exists_cons_of_ne_nil hc
    obtain ⟨⟨h1, h2⟩, _⟩ := corL_P (l := rowsAll js ls) (t := t) (by rw [e]; simp)
    exact not_both (pfind_isp hp) h1 h2
  have two : corL (rowsAll js ls) ≠ [] ∨ pfind (rowsAll js ls) ≠ none := by
    rcases farkas (fun t ht => rowsAll_dir ht) (rows_span h) with h1 | h1
    · exact .inl (corL_sat (by omega) (fun r hr => rowsAll_sm h hr) (by simp [rowsAll]) h1)
    · exact .inr (pfind_con (by omega) hB h1)
  by_cases hc : corL (rowsAll js ls) = []
  · exact .inr ⟨hc, two.resolve_left (fun h => h hc)⟩
  · exact .inl ⟨hc, one hc⟩
end Go.Proofs.YtpcahgedkmgllaaGreat

namespace Go.Proofs.YtpcahgedkmgllaaGreat
open Go.Eng
set_option maxRecDepth 100000
attribute [local irreducible] QV TV WL HW W CallOk Weak

abbrev u8r (x : Int) : List AV := [.v (.int .u8 x)]
abbrev slU (l : List Int) : AV := .sl 1 (l.map u8r)
def isU8 (x : Int) : Prop := 0 ≤ x ∧ x ≤ 255
def CurR (l : List Int) (cs : List AV) : Prop := ∃ (i : Nat) (h : Int), cs = [slU l, vi i, vi h]
structure Bts (l : List Int) : Prop where
  u : ∀ x ∈ l, isU8 x
  n : l.length ≤ 1048576
@[reducible] def ByteR (l : List Int) (n : Int) (r : AV) (cs : List AV) : Prop := ∃ x : Int, 0 ≤ x ∧ x < n ∧ r = vi x ∧ CurR l cs
instance tyC : TyOk Tryz.prog 60 true 3 := ⟨fun _ => by kernel_rfl, fun _ => by kernel_rfl⟩
instance zeC : ZeroOk Tryz.prog 60 (.agg #[.slice none 0 0, .int .i64 0, .int .i64 0]) := ⟨fun _ => by kernel_rfl⟩
instance flC0 : FldOk Tryz.prog 60 0 0 false 1 := ⟨⟨_, _, Tryz.underlying60, rfl, rfl, (inferInstance : TyOk Tryz.prog 22 false 1)⟩, by decide⟩
instance flC1 : FldOk Tryz.prog 60 1 1 false 1 := ⟨⟨_, _, Tryz.underlying60, rfl, rfl, (inferInstance : TyOk Tryz.prog 3 false 1)⟩, by decide⟩
instance flC2 : FldOk Tryz.prog 60 2 2 false 1 := ⟨⟨_, _, Tryz.underlying60, rfl, rfl, (inferInstance : TyOk Tryz.prog 3 false 1)⟩, by decide⟩
instance zcC : ZcOk Tryz.prog 60 [.v (.slice none 0 0), .v (.int .i64 0), .v (.int .i64 0)] := ⟨_, zeC, rfl⟩
instance blC : BldOk Tryz.prog 60 [.slice none 0 0, .int .i64 0, .int .i64 0] [(0, 1), (1, 1), (2, 1)] := ⟨_, _, zeC.zero, rfl, Tryz.underlying60, fun _ => by kernel_rfl⟩
theorem l01New_ok (l : List Int) (hl : Bts l) : CallMake Tryz.prog 13 [slU l] (CurR l) := by
  have hn := hl.n
  refine callMake Tryz.func13 Tryz.ntmps13 Tryz.results13 rfl rfl rfl fun B w0 M I0 V0 => ?_
  (repeat (first | refine WL_nil ?_ | refine zq0 qv9 ?_ | refine zq1 ?_ | refine zq2 ?_ | refine zq3 ?_ | refine zq4 ?_ | refine zq5 ?_ | refine zq6 ?_ | refine wN rfl ?_))
  refine W_loop (fun n s => ∃ (k : Nat) (h : Int), k ≤ l.length ∧ n = l.length - k ∧ s = ⟨[(0, slU l), (3, vi h), (4, vi k)], [], []⟩) ⟨_, _, ⟨0, _, Nat.zero_le _, rfl, rfl⟩, wkA⟩ ?_
  rintro n s ⟨k, h, hk, rfl, rfl⟩
  by_cases hlt : k < l.length
  · obtain ⟨x, hx⟩ : ∃ x, l[k]? = some x := ⟨_, List.getElem?_eq_getElem hlt⟩
    have hxu := hl.u x (List.mem_of_getElem? hx)
    have h8 : -9223372036854775808 ≤ x ∧ x ≤ 9223372036854775807 := by unfold isU8 at hxu; omega
    obtain ⟨y, hy⟩ := bitsAny .and (W64 (W64 (W64 (h * 131) + x) + 7)) 1073741823 (.inl rfl)
    have c1 : abin .lss .i64 (k : Int) (l.length : Int) = some (.bool true) := by simp [abin]; omega
    (repeat (first | refine WL_nil ?_ | refine zq0 (by first | exact QV_bin rfl rfl c1 | exact qv9) ?_ | refine zq1 ?_ | refine zq2 ?_ | refine zq3 ?_ | refine zq4 ?_ | refine zq5 ?_ | refine zq6 ?_ | refine wN rfl ?_))
    (refine W_cond rfl (fun hc => ?_) (fun hc => ?_))
    · (repeat (first | refine WL_nil ?_ | refine zq0 (by first | exact qv9 | exact QV_indexAddr rfl rfl rfl rfl (row_at hx) | exact q_convE Tryz.underlying5 Tryz.underlying3 rfl (i64w h8) | exact QV_bits rfl rfl hy) ?_ | refine zq1 ?_ | refine zq2 ?_ | refine zq3 ?_ | refine zq4 ?_ | refine zq5 ?_ | refine zq6 ?_ | refine wN rfl ?_))
      refine Exists.intro _ (Exists.intro _ ⟨?_, ⟨k + 1, y, by omega, rfl, rfl⟩, wkA⟩)
      omega
    · (repeat (first | refine WL_nil ?_ | refine zq0 qv9 ?_ | refine zq1 ?_ | refine zq2 ?_ | refine zq3 ?_ | refine zq4 ?_ | refine zq5 ?_ | refine zq6 ?_ | refine wN rfl ?_))
      refine makeEnd (resA_tmp rfl rfl) rfl rfl ?_
      exact ⟨0, h, rfl⟩
  · have c1 : abin .lss .i64 (k : Int) (l.length : Int) = some (.bool false) := by simp [abin]; omega
    (repeat (first | refine WL_nil ?_ | refine zq0 (by first | exact QV_bin rfl rfl c1 | exact qv9) ?_ | refine zq1 ?_ | refine zq2 ?_ | refine zq3 ?_ | refine zq4 ?_ | refine zq5 ?_ | refine zq6 ?_ | refine wN rfl ?_))
    refine makeEnd (resA_tmp rfl rfl) rfl rfl ?_
    exact ⟨0, h, rfl⟩
theorem l01Byte_ok (l : List Int) (hl : Bts l) (i : Nat) (h : Int) : CallPtr Tryz.prog 44 [.ptr 1000000 0] [slU l, vi i, vi h] (ByteR l 256) := by
  have hn := hl.n
  obtain ⟨h1, eh⟩ : ∃ h1, h1 = W64 (W64 (h * 6364136223846793005) + 1442695040888963407) := ⟨_, rfl⟩
  have g1 : abin .mul .i64 h 6364136223846793005 = some (.int .i64 (W64 (h * 6364136223846793005))) := rfl
  have g2 : abin .add .i64 (W64 (h * 6364136223846793005)) 1442695040888963407 = some (.int .i64 h1) := by rw [eh]; rfl
  obtain ⟨u, eu⟩ : ∃ u, u = h1.fdiv (2 ^ min (33 : Int).toNat IntKind.i64.bits) := ⟨_, rfl⟩
  obtain ⟨v, ev⟩ : ∃ v, v = h1.fdiv (2 ^ min (45 : Int).toNat IntKind.i64.bits) := ⟨_, rfl⟩
  obtain ⟨x1, hx1⟩ := bitsAny .xor u v (.inr rfl)
  obtain ⟨x2, hx2, h20, h21⟩ := bits255 (op := .and) (a := x1) rfl
  refine callPtr Tryz.func44 Tryz.ntmps44 Tryz.results44 rfl rfl rfl fun B w0 b T I0 V0 => ?_
  (repeat (first | refine WL_nil ?_ | refine zq0 (by first | exact QV_bin rfl rfl g1 | exact QV_bin rfl rfl g2 | exact qv9) ?_ | refine zq1 ?_ | refine zq2 ?_ | refine zq3 ?_ | refine zq4 ?_ | refine zq5 ?_ | refine zq6 ?_ | refine wN rfl ?_))
  refine wdraw 13 (by kernel_rfl) (by kernel_rfl) (by kernel_rfl) rfl ?_
  (repeat (first | refine HW_nil ?_ | (apply hw0 (hd := rfl); (first | exact qv9 | exact QV_shr rfl rfl (by decide) eu.symm | exact QV_shr rfl rfl (by decide) ev.symm | exact QV_bits rfl rfl hx1 | exact QV_bits rfl rfl hx2); (exact gy0)) | (apply hwb (hd := rfl); exact qbx; (exact gy0); rfl) | refine zq7 ?_ | refine zq8 ?_))
  (repeat (first | refine WL_nil ?_ | refine zq0 qv9 ?_ | refine zq1 ?_ | refine zq2 ?_ | refine zq3 ?_ | refine zq4 ?_ | refine zq5 ?_ | refine zq6 ?_ | refine wN rfl ?_))
  refine wdraw 10 (by kernel_rfl) (by kernel_rfl) (by kernel_rfl) rfl ?_
  (repeat (first | refine HW_nil ?_ | (apply hw0 (hd := rfl); (first | exact qv9); (exact gy0)) | (apply hwb (hd := rfl); exact qbx; (exact gy0); rfl) | refine zq7 ?_ | refine zq8 ?_))
  (repeat (first | refine WL_nil ?_ | refine zq0 qv9 ?_ | refine zq1 ?_ | refine zq2 ?_ | refine zq3 ?_ | refine zq4 ?_ | refine zq5 ?_ | refine zq6 ?_ | refine wN rfl ?_))
  (refine W_cond rfl (fun hc => ?_) (fun hc => ?_))
  · have hlt : i < l.length := by simpa using hc
    obtain ⟨x, hx⟩ : ∃ x, l[i]? = some x := ⟨_, List.getElem?_eq_getElem hlt⟩
    have hxu := hl.u x (List.mem_of_getElem? hx)
    unfold isU8 at hxu
    obtain ⟨x3, hx3, h30, h31⟩ := bits255 (op := .and) (a := x2 + x) rfl
    (repeat (first | refine WL_nil ?_ | refine zq0 qv9 ?_ | refine zq1 ?_ | refine zq2 ?_ | refine zq3 ?_ | refine zq4 ?_ | refine zq5 ?_ | refine zq6 ?_ | refine wN rfl ?_))
    refine wdraw 15 (by kernel_rfl) (by kernel_rfl) (by kernel_rfl) rfl ?_
    (repeat (first | refine HW_nil ?_ | (apply hw0 (hd := rfl); (first | exact qv9 | exact QV_indexAddr rfl rfl rfl rfl (row_at hx) | exact q_convE Tryz.underlying5 Tryz.underlying3 rfl (i64w (by omega)) | exact QV_bits rfl rfl hx3); (exact gy0)) | (apply hwb (hd := rfl); exact qbx; (exact gy0); rfl) | refine zq7 ?_ | refine zq8 ?_))
    (repeat (first | refine WL_nil ?_ | refine zq0 qv9 ?_ | refine zq1 ?_ | refine zq2 ?_ | refine zq3 ?_ | refine zq4 ?_ | refine zq5 ?_ | refine zq6 ?_ | refine wN rfl ?_))
    refine ptrEnd (Weak.refl _) (resA_tmp rfl rfl) rfl rfl rfl ?_
    exact ⟨x3, h30, by omega, rfl, i + 1, h1, rfl⟩
  · (repeat (first | refine WL_nil ?_ | refine zq0 qv9 ?_ | refine zq1 ?_ | refine zq2 ?_ | refine zq3 ?_ | refine zq4 ?_ | refine zq5 ?_ | refine zq6 ?_ | refine wN rfl ?_))
    refine ptrEnd (Weak.refl _) (resA_tmp rfl rfl) rfl rfl rfl ?_
    exact ⟨x2, h20, by omega, rfl, i, h1, rfl⟩
theorem byteR_own {l : List Int} {n : Int} : ∀ r cs, ByteR l n r cs → ownsIn [] r = true ∧ dtL cs = true := by
  rintro r cs ⟨x, _, _, rfl, i, h, rfl⟩
  exact ⟨rfl, rfl⟩
section
variable {E : En} {ops : Array Oper} {rest : List Oper} {Q : Exit → St → Prop} {tm : List (Nat × AV)} {bl : List (Nat × List AV)} {ow : List Nat} {d : Nat} {ty : TypeId} {pos : String} {af : Array Edge}
theorem wldraw {x : Operand} {xs : Array Operand} {ts : Array TypeId} {f N : Nat} {args cs : List AV} {l : List Int} {n : Int} [hf : FnOk E.P f] (h : CallPtr E.P f args cs (ByteR l n)) (hx : ev tm x = .v (.func (.func f) #[] #[])) (ha : PtA N (xs.toList.map (ev tm)) args) (hb : lookB bl N = some cs) (hcs : dtL cs = true) (hro : N ∉ E.ron) (hd : Nat.blt d E.nt = true)
    (hk : ∀ (x : Int) (i : Nat) (h : Int), 0 ≤ x → x < n → WL E ops rest Q ⟨(d, vi x) :: tm, setB bl N [slU l, vi i, vi h], ow⟩) (hn7 : Nat.blt N 7000000 = true := by rfl) : WL E ops (⟨some d, .call ⟨.value x, xs, ts⟩, ty, pos, af, none⟩ :: rest) Q ⟨tm, bl, ow⟩ :=
  wlptr 0 [] h hx ha hb hcs hro byteR_own rfl hd (fun r cs' ⟨x, h0, h1, hr, i, h', hc⟩ => by
    subst hr; subst hc
    exact hk x i h' h0 h1) hn7
end
theorem l01Below_ok (l : List Int) (hl : Bts l) (n : Int) (hn0 : 0 < n) (hn : n ≤ 10000) (i : Nat) (h : Int) : CallPtr Tryz.prog 26 [.ptr 1000000 0, vi n] [slU l, vi i, vi h] (ByteR l n) := by
  have c1 : abin .leq .i64 n 0 = some (.bool false) := by simp [abin]; omega
  have hne : n ≠ 0 := by omega
  by_cases hle : n ≤ 256
  · have c2 : abin .leq .i64 n 256 = some (.bool true) := by simp [abin]; omega
    refine callPtr Tryz.func26 Tryz.ntmps26 Tryz.results26 rfl rfl rfl fun B w0 b T I0 V0 => ?_
    (repeat (first | refine WL_nil ?_ | refine zq0 (by first | exact QV_bin rfl rfl c1 | exact QV_bin rfl rfl c2 | exact qv9) ?_ | refine zq1 ?_ | refine zq2 ?_ | refine zq3 ?_ | refine zq4 ?_ | refine zq5 ?_ | refine zq6 ?_ | refine wN rfl ?_))
    refine wldraw (l01Byte_ok l hl i h) rfl (by repeat' (first | exact PtA.nil | refine PtA.ptr ?_ | refine PtA.v ?_)) rfl rfl List.not_mem_nil rfl (fun x i1 h1 hx0 hx1 => ?_)
    have hr : adv .rem .i64 x n = some (.int .i64 (x.tmod n)) := rfl
    (repeat (first | refine WL_nil ?_ | refine zq0 (by first | exact qv9 | exact QV_div rfl rfl hne hr) ?_ | refine zq1 ?_ | refine zq2 ?_ | refine zq3 ?_ | refine zq4 ?_ | refine zq5 ?_ | refine zq6 ?_ | refine wN rfl ?_))
    refine ptrEnd (Weak.refl _) (resA_tmp rfl rfl) rfl rfl rfl ?_
    exact ⟨x.tmod n, Int.tmod_nonneg _ hx0, Int.tmod_lt_of_pos _ hn0, rfl, i1, h1, rfl⟩
  · have c2 : abin .leq .i64 n 256 = some (.bool false) := by simp [abin]; omega
    refine callPtr Tryz.func26 Tryz.ntmps26 Tryz.results26 rfl rfl rfl fun B w0 b T I0 V0 => ?_
    (repeat (first | refine WL_nil ?_ | refine zq0 (by first | exact QV_bin rfl rfl c1 | exact QV_bin rfl rfl c2 | exact qv9) ?_ | refine zq1 ?_ | refine zq2 ?_ | refine zq3 ?_ | refine zq4 ?_ | refine zq5 ?_ | refine zq6 ?_ | refine wN rfl ?_))
    refine wldraw (l01Byte_ok l hl i h) rfl (by repeat' (first | exact PtA.nil | refine PtA.ptr ?_ | refine PtA.v ?_)) rfl rfl List.not_mem_nil rfl (fun x i1 h1 hx0 hx1 => ?_)
    (repeat (first | refine WL_nil ?_ | refine zq0 qv9 ?_ | refine zq1 ?_ | refine zq2 ?_ | refine zq3 ?_ | refine zq4 ?_ | refine zq5 ?_ | refine zq6 ?_ | refine wN rfl ?_))
    refine wldraw (l01Byte_ok l hl i1 h1) rfl (by repeat' (first | exact PtA.nil | refine PtA.ptr ?_ | refine PtA.v ?_)) rfl rfl List.not_mem_nil rfl (fun y i2 h2 hy0 hy1 => ?_)
    (repeat (first | refine WL_nil ?_ | refine zq0 qv9 ?_ | refine zq1 ?_ | refine zq2 ?_ | refine zq3 ?_ | refine zq4 ?_ | refine zq5 ?_ | refine zq6 ?_ | refine wN rfl ?_))
    refine wldraw (l01Byte_ok l hl i2 h2) rfl (by repeat' (first | exact PtA.nil | refine PtA.ptr ?_ | refine PtA.v ?_)) rfl rfl List.not_mem_nil rfl (fun z i3 h3 hz0 hz1 => ?_)
    (repeat (first | refine WL_nil ?_ | refine zq0 qv9 ?_ | refine zq1 ?_ | refine zq2 ?_ | refine zq3 ?_ | refine zq4 ?_ | refine zq5 ?_ | refine zq6 ?_ | refine wN rfl ?_))
    refine wldraw (l01Byte_ok l hl i3 h3) rfl (by repeat' (first | exact PtA.nil | refine PtA.ptr ?_ | refine PtA.v ?_)) rfl rfl List.not_mem_nil rfl (fun u i4 h4 hu0 hu1 => ?_)
    have hr : adv .rem .i64 (x * 16777216 + y * 65536 + z * 256 + u) n = some (.int .i64 ((x * 16777216 + y * 65536 + z * 256 + u).tmod n)) := rfl
    (repeat (first | refine WL_nil ?_ | refine zq0 (by first | exact qv9 | exact QV_div rfl rfl hne hr) ?_ | refine zq1 ?_ | refine zq2 ?_ | refine zq3 ?_ | refine zq4 ?_ | refine zq5 ?_ | refine zq6 ?_ | refine wN rfl ?_))
    refine ptrEnd (Weak.refl _) (resA_tmp rfl rfl) rfl rfl rfl ?_
    exact ⟨_, Int.tmod_nonneg _ (by omega), Int.tmod_lt_of_pos _ hn0, rfl, i4, h4, rfl⟩
end Go.Proofs.YtpcahgedkmgllaaGreat

namespace Go.Proofs.YtpcahgedkmgllaaGreat
open Go.Eng
set_option maxRecDepth 100000
attribute [local irreducible] QV TV WL HW W CallOk Weak

@[reducible] def DetR (l : List Int) (x : Int) (i : Nat) (h : Int) (r : AV) (cs : List AV) : Prop := r = vi x ∧ cs = [slU l, vi i, vi h]
def DrawsD (f : Nat) (args : List AV) (l : List Int) (i : Nat) (h n : Int) : Prop :=
  ∃ (x : Int) (i1 : Nat) (h1 : Int), 0 ≤ x ∧ x < n ∧ CallPtr Tryz.prog f args [slU l, vi i, vi h] (DetR l x i1 h1)
theorem l01Byte_det (l : List Int) (hl : Bts l) (i : Nat) (h : Int) : DrawsD 44 [.ptr 1000000 0] l i h 256 := by
  have hn := hl.n
  obtain ⟨h1, eh⟩ : ∃ h1, h1 = W64 (W64 (h * 6364136223846793005) + 1442695040888963407) := ⟨_, rfl⟩
  have g1 : abin .mul .i64 h 6364136223846793005 = some (.int .i64 (W64 (h * 6364136223846793005))) := rfl
  have g2 : abin .add .i64 (W64 (h * 6364136223846793005)) 1442695040888963407 = some (.int .i64 h1) := by rw [eh]; rfl
  obtain ⟨u, eu⟩ : ∃ u, u = h1.fdiv (2 ^ min (33 : Int).toNat IntKind.i64.bits) := ⟨_, rfl⟩
  obtain ⟨v, ev⟩ : ∃ v, v = h1.fdiv (2 ^ min (45 : Int).toNat IntKind.i64.bits) := ⟨_, rfl⟩
  obtain ⟨x1, hx1⟩ := bitsAny .xor u v (.inr rfl)
  obtain ⟨x2, hx2, h20, h21⟩ := bits255 (op := .and) (a := x1) rfl
  by_cases hlt : i < l.length
  · obtain ⟨x, hx⟩ : ∃ x, l[i]? = some x := ⟨_, List.getElem?_eq_getElem hlt⟩
    have hxu := hl.u x (List.mem_of_getElem? hx)
    unfold isU8 at hxu
    obtain ⟨x3, hx3, h30, h31⟩ := bits255 (op := .and) (a := x2 + x) rfl
    have c1 : abin .lss .i64 (i : Int) (l.length : Int) = some (.bool true) := by simp [abin]; omega
    refine ⟨x3, i + 1, h1, h30, by omega, ?_⟩
    refine callPtr Tryz.func44 Tryz.ntmps44 Tryz.results44 rfl rfl rfl fun B w0 b T I0 V0 => ?_
    (repeat (first | refine WL_nil ?_ | refine zq0 (by first | exact QV_bin rfl rfl g1 | exact QV_bin rfl rfl g2 | exact qv9) ?_ | refine zq1 ?_ | refine zq2 ?_ | refine zq3 ?_ | refine zq4 ?_ | refine zq5 ?_ | refine zq6 ?_ | refine wN rfl ?_))
    refine wdraw 13 (by kernel_rfl) (by kernel_rfl) (by kernel_rfl) rfl ?_
    (repeat (first | refine HW_nil ?_ | (apply hw0 (hd := rfl); (first | exact qv9 | exact QV_shr rfl rfl (by decide) eu.symm | exact QV_shr rfl rfl (by decide) ev.symm | exact QV_bits rfl rfl hx1 | exact QV_bits rfl rfl hx2); (exact gy0)) | (apply hwb (hd := rfl); exact qbx; (exact gy0); rfl) | refine zq7 ?_ | refine zq8 ?_))
    (repeat (first | refine WL_nil ?_ | refine zq0 qv9 ?_ | refine zq1 ?_ | refine zq2 ?_ | refine zq3 ?_ | refine zq4 ?_ | refine zq5 ?_ | refine zq6 ?_ | refine wN rfl ?_))
    refine wdraw 10 (by kernel_rfl) (by kernel_rfl) (by kernel_rfl) rfl ?_
    (repeat (first | refine HW_nil ?_ | (apply hw0 (hd := rfl); (first | exact QV_bin rfl rfl c1 | exact qv9); (exact gy0)) | (apply hwb (hd := rfl); exact qbx; (exact gy0); rfl) | refine zq7 ?_ | refine zq8 ?_))
    (repeat (first | refine WL_nil ?_ | refine zq0 (by first | exact QV_bin rfl rfl c1 | exact qv9) ?_ | refine zq1 ?_ | refine zq2 ?_ | refine zq3 ?_ | refine zq4 ?_ | refine zq5 ?_ | refine zq6 ?_ | refine wN rfl ?_))
    refine wdraw 15 (by kernel_rfl) (by kernel_rfl) (by kernel_rfl) rfl ?_
    (repeat (first | refine HW_nil ?_ | (apply hw0 (hd := rfl); (first | exact qv9 | exact QV_indexAddr rfl rfl rfl rfl (row_at hx) | exact q_convE Tryz.underlying5 Tryz.underlying3 rfl (i64w (by omega)) | exact QV_bits rfl rfl hx3); (exact gy0)) | (apply hwb (hd := rfl); exact qbx; (exact gy0); rfl) | refine zq7 ?_ | refine zq8 ?_))
    (repeat (first | refine WL_nil ?_ | refine zq0 qv9 ?_ | refine zq1 ?_ | refine zq2 ?_ | refine zq3 ?_ | refine zq4 ?_ | refine zq5 ?_ | refine zq6 ?_ | refine wN rfl ?_))
    refine ptrEnd (Weak.refl _) (resA_tmp rfl rfl) rfl rfl rfl ?_
    exact ⟨rfl, rfl⟩
  · have c1 : abin .lss .i64 (i : Int) (l.length : Int) = some (.bool false) := by simp [abin]; omega
    refine ⟨x2, i, h1, h20, by omega, ?_⟩
    refine callPtr Tryz.func44 Tryz.ntmps44 Tryz.results44 rfl rfl rfl fun B w0 b T I0 V0 => ?_
    (repeat (first | refine WL_nil ?_ | refine zq0 (by first | exact QV_bin rfl rfl g1 | exact QV_bin rfl rfl g2 | exact qv9) ?_ | refine zq1 ?_ | refine zq2 ?_ | refine zq3 ?_ | refine zq4 ?_ | refine zq5 ?_ | refine zq6 ?_ | refine wN rfl ?_))
    refine wdraw 13 (by kernel_rfl) (by kernel_rfl) (by kernel_rfl) rfl ?_
    (repeat (first | refine HW_nil ?_ | (apply hw0 (hd := rfl); (first | exact qv9 | exact QV_shr rfl rfl (by decide) eu.symm | exact QV_shr rfl rfl (by decide) ev.symm | exact QV_bits rfl rfl hx1 | exact QV_bits rfl rfl hx2); (exact gy0)) | (apply hwb (hd := rfl); exact qbx; (exact gy0); rfl) | refine zq7 ?_ | refine zq8 ?_))
    (repeat (first | refine WL_nil ?_ | refine zq0 qv9 ?_ | refine zq1 ?_ | refine zq2 ?_ | refine zq3 ?_ | refine zq4 ?_ | refine zq5 ?_ | refine zq6 ?_ | refine wN rfl ?_))
    refine wdraw 10 (by kernel_rfl) (by kernel_rfl) (by kernel_rfl) rfl ?_
    (repeat (first | refine HW_nil ?_ | (apply hw0 (hd := rfl); (first | exact QV_bin rfl rfl c1 | exact qv9); (exact gy0)) | (apply hwb (hd := rfl); exact qbx; (exact gy0); rfl) | refine zq7 ?_ | refine zq8 ?_))
    (repeat (first | refine WL_nil ?_ | refine zq0 (by first | exact QV_bin rfl rfl c1 | exact qv9) ?_ | refine zq1 ?_ | refine zq2 ?_ | refine zq3 ?_ | refine zq4 ?_ | refine zq5 ?_ | refine zq6 ?_ | refine wN rfl ?_))
    refine ptrEnd (Weak.refl _) (resA_tmp rfl rfl) rfl rfl rfl ?_
    exact ⟨rfl, rfl⟩
theorem l01Below_det (l : List Int) (hl : Bts l) (n : Int) (hn0 : 0 < n) (hle : n ≤ 256) (i : Nat) (h : Int) : DrawsD 26 [.ptr 1000000 0, vi n] l i h n := by
  have c1 : abin .leq .i64 n 0 = some (.bool false) := by simp [abin]; omega
  have c2 : abin .leq .i64 n 256 = some (.bool true) := by simp [abin]; omega
  have hne : n ≠ 0 := by omega
  obtain ⟨x, i1, h1, hx0, hx1, cx⟩ := l01Byte_det l hl i h
  have hr : adv .rem .i64 x n = some (.int .i64 (x.tmod n)) := rfl
  refine ⟨x.tmod n, i1, h1, Int.tmod_nonneg _ hx0, Int.tmod_lt_of_pos _ hn0, ?_⟩
  refine callPtr Tryz.func26 Tryz.ntmps26 Tryz.results26 rfl rfl rfl fun B w0 b T I0 V0 => ?_
  (repeat (first | refine WL_nil ?_ | refine zq0 (by first | exact QV_bin rfl rfl c1 | exact QV_bin rfl rfl c2 | exact qv9) ?_ | refine zq1 ?_ | refine zq2 ?_ | refine zq3 ?_ | refine zq4 ?_ | refine zq5 ?_ | refine zq6 ?_ | refine wN rfl ?_))
  refine wlptr 0 [] cx rfl (by repeat' (first | exact PtA.nil | refine PtA.ptr ?_ | refine PtA.v ?_)) rfl rfl List.not_mem_nil (fun r cs ⟨hr, hc⟩ => by subst hr; subst hc; exact ⟨rfl, rfl⟩) rfl rfl (fun r cs hR => ?_)
  obtain ⟨rfl, rfl⟩ := hR
  (repeat (first | refine WL_nil ?_ | refine zq0 (by first | exact qv9 | exact QV_div rfl rfl hne hr) ?_ | refine zq1 ?_ | refine zq2 ?_ | refine zq3 ?_ | refine zq4 ?_ | refine zq5 ?_ | refine zq6 ?_ | refine wN rfl ?_))
  refine ptrEnd (Weak.refl _) (resA_tmp rfl rfl) rfl rfl rfl ?_
  exact ⟨rfl, rfl⟩
end Go.Proofs.YtpcahgedkmgllaaGreat

namespace Go.Proofs.YtpcahgedkmgllaaGreat
open Go.Eng
set_option maxRecDepth 100000
attribute [local irreducible] QV TV WL HW W CallOk Weak
attribute [local irreducible] CallOkE

end Go.Proofs.YtpcahgedkmgllaaGreat

namespace Go.Proofs.YtpcahgedkmgllaaGreat
open Go.Eng

def jt4 (a b c d : Int) : Jt := ⟨⟨a, b⟩, ⟨c, d⟩⟩
def shp : Nat → List Jt
  | 0 => [jt4 (-8) 0 (-11) 0, jt4 (-6) 5 (-8) 7, jt4 (-2) 8 (-3) 11, jt4 2 8 3 11, jt4 6 5 8 7, jt4 8 0 11 0]
  | 1 => [jt4 0 0 (-2) 3, jt4 5 2 4 6, jt4 11 2 12 6, jt4 16 0 18 3]
  | 2 => [jt4 0 0 (-3) 0, jt4 2 6 0 8, jt4 6 11 6 14, jt4 10 6 12 8, jt4 12 0 15 0]
  | 3 => [jt4 0 0 (-1) 4, jt4 4 0 4 4, jt4 8 0 8 4, jt4 12 0 13 4]
  | 4 => [jt4 (-9) 0 (-10) 0, jt4 (-6) 7 (-7) 8, jt4 0 9 0 10, jt4 6 7 7 8, jt4 9 0 10 0]
  | _ => [jt4 0 0 (-2) 2, jt4 6 4 6 7, jt4 12 2 14 4]
def smP (m : Int) (p : Pt) : Prop := (-m ≤ p.x ∧ p.x ≤ m) ∧ -m ≤ p.y ∧ p.y ≤ m
def SmJ (m : Int) (js : List Jt) : Prop := ∀ j ∈ js, smP m j.i ∧ smP m j.o
theorem SmJ.le {m m' : Int} {js : List Jt} (h : SmJ m js) (hm : m ≤ m') : SmJ m' js := fun j hj => by
  have := h j hj
  unfold smP at this ⊢
  omega
theorem SmJ.set {m : Int} {js : List Jt} (h : SmJ m js) (i : Nat) {j : Jt} (hj : smP m j.i ∧ smP m j.o) : SmJ m (js.set i j) := fun k hk => by
  rcases List.mem_or_eq_of_mem_set hk with h1 | h1
  · exact h k h1
  · rw [h1]; exact hj
theorem SmJ.at {m : Int} {js : List Jt} (h : SmJ m js) {k : Nat} (hk : k < js.length) : smP m (jat js k).i ∧ smP m (jat js k).o := by
  have := List.mem_of_getElem? (jat_lt hk)
  exact h _ this
theorem shp_ok : ∀ k, k < 6 → archB (shp k) = true := by
  intro k hk
  have : k = 0 ∨ k = 1 ∨ k = 2 ∨ k = 3 ∨ k = 4 ∨ k = 5 := by omega
  rcases this with rfl | rfl | rfl | rfl | rfl | rfl <;> decide +kernel
theorem shp_sm : ∀ k, k < 6 → SmJ 18 (shp k) := by
  intro k hk
  have : k = 0 ∨ k = 1 ∨ k = 2 ∨ k = 3 ∨ k = 4 ∨ k = 5 := by omega
  unfold SmJ smP
  rcases this with rfl | rfl | rfl | rfl | rfl | rfl <;> decide
end Go.Proofs.YtpcahgedkmgllaaGreat
