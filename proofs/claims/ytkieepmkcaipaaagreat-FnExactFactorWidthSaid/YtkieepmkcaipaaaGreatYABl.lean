/- How great weights and moments to the left of a joint are. No walk. -/
import Derived.Test.YtkieepmkcaipaaaGreatYALd
namespace Go.Proofs.YtkieepmkcaipaaaGreat
open Go.Eng

theorem sumW_bd {f : Nat → Int} {B : Int} (h0 : 0 ≤ B) : ∀ {k : Nat}, (∀ i, i < k → -B ≤ f i ∧ f i ≤ B) → k * B ≤ 9223372036854775807 → -(k * B) ≤ sumW f k ∧ sumW f k ≤ k * B
  | 0, _, _ => by simp [sumW]
  | k + 1, hf, hk => by
    have e : ((k + 1 : Nat) : Int) * B = k * B + B := by rw [Int.natCast_add, Int.add_mul]; simp
    rw [e] at hk ⊢
    have ih := sumW_bd h0 (k := k) (fun i hi => hf i (by omega)) (by omega)
    have hfk := hf k (by omega)
    simp only [sumW]
    rw [w64 (by omega)]
    omega
theorem cor_in {l : List Pt} (h : stoneB l = true) (i : Nat) : ptOk (cor l i) = true := by
  have h3 := stone_len h
  simp only [stoneB, Bool.and_eq_true, List.all_eq_true] at h
  exact h.2.1 _ (List.mem_of_getElem? (cor_at (by omega)))
theorem cross_bd {a b : Pt} (ha : ptOk a = true) (hb : ptOk b = true) : -7200 ≤ crossW a b ∧ crossW a b ≤ 7200 := by
  rw [ptOk_true] at ha hb
  have h1 := mul_bd (a := a.x) (b := b.y) (m := 60) (n := 60) (by omega) (by omega)
  have h2 := mul_bd (a := a.y) (b := b.x) (m := 60) (n := 60) (by omega) (by omega)
  unfold crossW
  rw [w64 (n := a.x * b.y) (by omega), w64 (n := a.y * b.x) (by omega), w64 (by omega)]
  omega
theorem area_bd (l : List Pt) : -43200 ≤ areaW l ∧ areaW l ≤ 43200 := by
  unfold areaW
  split
  · rename_i h
    have h3 := stone_len h
    have := sumW_bd (f := fun i => crossW (cor l i) (cor l (i + 1))) (B := 7200) (by omega) (k := l.length) (fun i _ => cross_bd (cor_in h i) (cor_in h (i + 1))) (by omega)
    omega
  · omega
theorem weight_bd (l : List Pt) : -129600 ≤ weightW l ∧ weightW l ≤ 129600 := by
  have := area_bd l
  unfold weightW
  rw [w64 (by omega)]
  omega
theorem mom_bd (l : List Pt) : -5184000 ≤ overW momF l ∧ overW momF l ≤ 5184000 := by
  unfold overW
  split
  · rename_i h
    have h3 := stone_len h
    have := sumW_bd (f := fun i => W64 (momF (cor l i) (cor l (i + 1)) * crossW (cor l i) (cor l (i + 1)))) (B := 864000) (by omega) (k := l.length) (fun i _ => by
      have h1 := cross_bd (cor_in h i) (cor_in h (i + 1))
      have h2 := ptOk_true.1 (cor_in h i)
      have h4 := ptOk_true.1 (cor_in h (i + 1))
      have h5 : momF (cor l i) (cor l (i + 1)) = (cor l i).x + (cor l (i + 1)).x := w64 (by omega)
      have h6 := mul_bd (a := (cor l i).x + (cor l (i + 1)).x) (b := crossW (cor l i) (cor l (i + 1))) (m := 120) (n := 7200) (by omega) (by omega)
      rw [h5, w64 (by omega)]
      omega) (by omega)
    omega
  · omega
theorem conS_bd {f : Ld → Int} {B : Int} (h0 : 0 ≤ B) (k : Nat) : ∀ {ls : List Ld}, (∀ l ∈ ls, -B ≤ f l ∧ f l ≤ B) → -(ls.length * B) ≤ conS f ls k ∧ conS f ls k ≤ ls.length * B
  | [], _ => by simp [conS]
  | l :: ls, hf => by
    have e : ((l :: ls).length : Int) * B = ls.length * B + B := by simp [Int.add_mul]
    rw [e]
    have ih := conS_bd h0 k (ls := ls) fun x hx => hf x (by simp [hx])
    have hl := hf l (by simp)
    have hc : conS f (l :: ls) k = (if l.s = (k : Int) then f l else 0) + conS f ls k := by simp [conS]
    rw [hc]
    split <;> omega
theorem load_in {js : List Jt} {ls : List Ld} (h : loadsB js ls = true) : ∀ l ∈ ls, (0 ≤ l.w ∧ l.w ≤ 10000) ∧ -60 ≤ l.x ∧ l.x ≤ 60 := by
  simp only [loadsB, Bool.and_eq_true, List.all_eq_true] at h
  intro l hl
  have := h.2.2 l hl
  simp only [ldOk, Bool.and_eq_true, inR_true] at this
  omega
theorem lw_bd {js : List Jt} {ls : List Ld} (h : loadsB js ls = true) {k : Nat} (hk : k ≤ 7) : -1327200 ≤ lwA js ls k ∧ lwA js ls k ≤ 1327200 := by
  have h6 := loads_six h
  have := sumW_bd (f := addW js ls) (B := 189600) (by omega) (k := k) (fun i _ => by
    have h1 := weight_bd (qd js i)
    have h2 := conS_bd (f := Ld.w) (B := 10000) (by omega) i (ls := ls) (fun l hl => by have := load_in h l hl; omega)
    have h3 : (ls.length : Int) * 10000 ≤ 60000 := by omega
    simp only [addW]
    omega) (by omega)
  unfold lwA
  omega
theorem lm_bd {js : List Jt} {ls : List Ld} (h : loadsB js ls = true) {k : Nat} (hk : k ≤ 7) : -61488000 ≤ lmA js ls k ∧ lmA js ls k ≤ 61488000 := by
  have h6 := loads_six h
  have := sumW_bd (f := addM js ls) (B := 8784000) (by omega) (k := k) (fun i _ => by
    have h1 := mom_bd (qd js i)
    have h2 := conS_bd (f := momL) (B := 600000) (by omega) i (ls := ls) (fun l hl => by
      have h3 := load_in h l hl
      have := mul_bd (a := l.w) (b := l.x) (m := 10000) (n := 60) (by omega) (by omega)
      simp only [momL]
      omega)
    have h3 : (ls.length : Int) * 600000 ≤ 3600000 := by omega
    simp only [addM]
    omega) (by omega)
  unfold lmA
  omega
end Go.Proofs.YtkieepmkcaipaaaGreat
