/- The maths of bridges: chosen forces suit all piers; stronger piers never harm; the first force alone. -/
import Derived.Test.YtikbndfbjgdldaaBridge
namespace Go.Proofs.Ytikbndfbjgdldaa

def atS (xs : List T3) (i : Nat) : T3 := xs.getD i ⟨0, 0, 0⟩
def atR (rs : List T2) (i : Nat) : T2 := rs.getD i ⟨0, 0⟩
theorem atS_lt {xs : List T3} {i : Nat} (h : i < xs.length) : xs[i]? = some (atS xs i) := by simp [atS, h]
theorem atR_lt {rs : List T2} {i : Nat} (h : i < rs.length) : rs[i]? = some (atR rs i) := by simp [atR, h]
/-- What a span's range comes of. -/
theorem back_at {xs : List T3} {i : Nat} (h : i + 1 < xs.length) : atR (backs xs) i = narrowI (atS xs i) (atR (backs xs) (i + 1)) := by
  have hl := backs_length xs
  have h1 := backs_step (atS_lt (show i < xs.length by omega)) (atR_lt (rs := backs xs) (i := i + 1) (by omega))
  have h2 := atR_lt (rs := backs xs) (i := i) (by omega)
  rw [h1] at h2
  exact (Option.some.inj h2).symm
theorem back_last {xs : List T3} {i : Nat} (h : i + 1 = xs.length) : atR (backs xs) i = ⟨(atS xs i).a, (atS xs i).b⟩ := by
  have hl := backs_length xs
  have h1 := backs_last (atS_lt (show i < xs.length by omega)) h
  have h2 := atR_lt (rs := backs xs) (i := i) (by omega)
  rw [h1] at h2
  exact (Option.some.inj h2).symm
theorem range_at {xs : List T3} (h : (backs xs).all rangeOk = true) {i : Nat} (hi : i < xs.length) : (atR (backs xs) i).a ≤ (atR (backs xs) i).b := by
  have hl := backs_length xs
  have := List.all_eq_true.1 h _ (List.mem_of_getElem? (atR_lt (rs := backs xs) (i := i) (by omega)))
  simpa [rangeOk] using this
theorem range_all {xs : List T3} (h : ∀ i, i < xs.length → (atR (backs xs) i).a ≤ (atR (backs xs) i).b) : (backs xs).all rangeOk = true := by
  have hl := backs_length xs
  rw [List.all_eq_true]
  intro r hr
  obtain ⟨i, hi, rfl⟩ := List.mem_iff_getElem.1 hr
  have := h i (by omega)
  have e := atR_lt (rs := backs xs) (i := i) hi
  rw [List.getElem?_eq_getElem hi] at e
  rw [Option.some.inj e]
  simpa [rangeOk] using this
/-- A span's range lies in its own forces. -/
theorem back_in {xs : List T3} {i : Nat} (h : i < xs.length) : (atS xs i).a ≤ (atR (backs xs) i).a ∧ (atR (backs xs) i).b ≤ (atS xs i).b := by
  by_cases h1 : i + 1 < xs.length
  · rw [back_at h1]
    simp only [narrowI, maxI, minI]
    omega
  · rw [back_last (by omega)]
    simp only
    omega
/-- The same behind the first span: whatever stands ahead of them. -/
theorem back_tail (s : T3) (xs : List T3) (i : Nat) : atR (backs (s :: xs)) (i + 1) = atR (backs xs) i := by
  cases xs with
  | nil => rfl
  | cons t l => rfl
/-- Stronger piers. -/
def str (s : T3) : T3 := ⟨s.a, s.b, s.c + 3⟩
theorem str_at {xs : List T3} {i : Nat} (h : i < xs.length) : atS (xs.map str) i = str (atS xs i) := by
  have h1 := atS_lt (xs := xs.map str) (i := i) (by simpa using h)
  rw [List.getElem?_map, atS_lt h] at h1
  exact (Option.some.inj h1).symm
theorem str_wide {xs : List T3} : ∀ (k i : Nat), i + k + 1 = xs.length → (atR (backs (xs.map str)) i).a ≤ (atR (backs xs) i).a ∧ (atR (backs xs) i).b ≤ (atR (backs (xs.map str)) i).b
  | 0, i, h => by
    rw [back_last (xs := xs) (by omega), back_last (xs := xs.map str) (by simp; omega), str_at (by omega)]
    simp only [str]
    omega
  | k + 1, i, h => by
    have ih := str_wide (xs := xs) k (i + 1) (by omega)
    rw [back_at (xs := xs) (by omega), back_at (xs := xs.map str) (by simp; omega), str_at (by omega)]
    simp only [narrowI, maxI, minI, str]
    omega
theorem str_ok {xs : List T3} (h : (backs xs).all rangeOk = true) : (backs (xs.map str)).all rangeOk = true :=
  range_all fun i hi => by
    have hi' : i < xs.length := by simpa using hi
    have h1 := str_wide (xs := xs) (xs.length - 1 - i) i (by omega)
    have h2 := range_at h hi'
    omega
/-- The first span with one force alone. -/
def lone (x : Int) : List T3 → List T3
  | [] => []
  | s :: r => ⟨x, x, s.c⟩ :: r
theorem lone_tail (x : Int) (s : T3) (r : List T3) (i : Nat) : atR (backs (lone x (s :: r))) (i + 1) = atR (backs (s :: r)) (i + 1) := by
  simp only [lone, back_tail]
theorem lone_ok (x : Int) (s : T3) (r : List T3) (hx : s.a ≤ x ∧ x ≤ s.b) : (backs (lone x (s :: r))).all rangeOk = true ↔ ((atR (backs (s :: r)) 0).a ≤ x ∧ x ≤ (atR (backs (s :: r)) 0).b) ∧ ∀ i, i + 1 < (s :: r).length → (atR (backs (s :: r)) (i + 1)).a ≤ (atR (backs (s :: r)) (i + 1)).b := by
  have hlen : (lone x (s :: r)).length = (s :: r).length := rfl
  have head : (atR (backs (lone x (s :: r))) 0).a ≤ (atR (backs (lone x (s :: r))) 0).b ↔ (atR (backs (s :: r)) 0).a ≤ x ∧ x ≤ (atR (backs (s :: r)) 0).b := by
    by_cases h1 : 0 + 1 < (s :: r).length
    · rw [back_at (xs := lone x (s :: r)) (i := 0) (by rw [hlen]; exact h1), back_at (xs := s :: r) (i := 0) h1, lone_tail]
      have e1 : atS (lone x (s :: r)) 0 = ⟨x, x, s.c⟩ := rfl
      have e2 : atS (s :: r) 0 = s := rfl
      rw [e1, e2]
      simp only [narrowI, maxI, minI]
      omega
    · rw [back_last (xs := lone x (s :: r)) (i := 0) (by rw [hlen]; simp at h1 ⊢; simp [h1]), back_last (xs := s :: r) (i := 0) (by simp at h1 ⊢; simp [h1])]
      have e1 : atS (lone x (s :: r)) 0 = ⟨x, x, s.c⟩ := rfl
      have e2 : atS (s :: r) 0 = s := rfl
      rw [e1, e2]
      simp only
      omega
  constructor
  · intro h
    refine ⟨head.1 (range_at h (by rw [hlen]; simp)), fun i hi => ?_⟩
    have := range_at h (i := i + 1) (by rw [hlen]; exact hi)
    rwa [lone_tail] at this
  · rintro ⟨h1, h2⟩
    refine range_all fun i hi => ?_
    cases i with
    | zero => exact head.2 h1
    | succ i => rw [lone_tail]; exact h2 i (by rw [← hlen]; exact hi)
/-- The forces that are chosen. -/
def force (xs : List T3) : Nat → Int
  | 0 => (atR (backs xs) 0).a
  | i + 1 => max (atR (backs xs) (i + 1)).a (force xs i - (atS xs i).c)
theorem force_in {xs : List T3} (h : (backs xs).all rangeOk = true) (hc : ∀ i, i < xs.length → 0 ≤ (atS xs i).c) : ∀ i, i < xs.length → (atR (backs xs) i).a ≤ force xs i ∧ force xs i ≤ (atR (backs xs) i).b
  | 0, hi => by
    have := range_at h hi
    simp only [force]
    omega
  | i + 1, hi => by
    have ih := force_in h hc i (by omega)
    have h1 := range_at h hi
    have h2 := back_at (xs := xs) (i := i) hi
    have h3 := hc i (by omega)
    have h4 : (atR (backs xs) i).b ≤ (atR (backs xs) (i + 1)).b + (atS xs i).c := by
      rw [h2]; simp only [narrowI, minI]; omega
    simp only [force]
    omega
theorem force_step {xs : List T3} (h : (backs xs).all rangeOk = true) (hc : ∀ i, i < xs.length → 0 ≤ (atS xs i).c) {i : Nat} (hi : i + 1 < xs.length) : force xs (i + 1) - force xs i ≤ (atS xs i).c ∧ force xs i - force xs (i + 1) ≤ (atS xs i).c := by
  have h0 := force_in h hc i (by omega)
  have h2 := back_at (xs := xs) (i := i) hi
  have h3 := hc i (by omega)
  have h4 : (atR (backs xs) (i + 1)).a - (atS xs i).c ≤ (atR (backs xs) i).a := by
    rw [h2]; simp only [narrowI, maxI]; omega
  simp only [force]
  omega
end Go.Proofs.Ytikbndfbjgdldaa
