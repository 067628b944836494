/- The maths of loads: with twice the loads, what they add is twice as much. -/
import Derived.Test.YtikbndfbjgdldaaALd
import Derived.Test.YtikbndfbjgdldaaMWt
namespace Go.Proofs.Ytikbndfbjgdldaa
open Go.Eng

theorem weightW_bd (s : List Pt) : 0 ≤ weightW s ∧ weightW s ≤ 129600 := by
  cases h : stoneB s
  · have e : areaW s = 0 := by rw [areaW, if_neg (by rw [h]; decide)]
    have e2 : weightW s = 0 := by rw [weightW, e]; exact w64 (by decide)
    omega
  · have h3 := stone_len h
    have hp := area_pos h
    have h2 := (csum_bd (m := 7200) (by decide) (fun i => (cr_bd (cor_ok h i) (cor_ok h (i + 1))).1) s.length).2
    have h4 : (s.length : Int) * 7200 ≤ 6 * 7200 := Int.mul_le_mul_of_nonneg_right (by omega) (by decide)
    have ha : areaI s ≤ 43200 := by unfold areaI; omega
    have e2 : weightW s = 3 * areaI s := by rw [weightW, areaW_eq h]; exact w64 (by omega)
    omega
def scl (l : Ld) : Ld := ⟨l.s, 2 * l.w, l.x⟩
theorem conS_cons (f : Ld → Int) (l : Ld) (ls : List Ld) (k : Nat) : conS f (l :: ls) k = (if l.s = (k : Int) then f l else 0) + conS f ls k := by simp [conS]
theorem conS_scl (k : Nat) : ∀ ls : List Ld, conS Ld.w (ls.map scl) k = 2 * conS Ld.w ls k
  | [] => rfl
  | l :: ls => by
    rw [List.map_cons, conS_cons, conS_cons, conS_scl k ls]
    show (if l.s = (k : Int) then 2 * l.w else 0) + _ = _
    split <;> omega
theorem conS_bd {m : Int} (hm : 0 ≤ m) (k : Nat) : ∀ ls : List Ld, (∀ l ∈ ls, 0 ≤ l.w ∧ l.w ≤ m) → 0 ≤ conS Ld.w ls k ∧ conS Ld.w ls k ≤ ls.length * m
  | [], _ => by rw [conS_nil]; simp
  | l :: ls, h => by
    have h1 := conS_bd hm k ls (fun x hx => h x (by simp [hx]))
    have h2 := h l (by simp)
    have e : (((l :: ls).length : Nat) : Int) * m = ls.length * m + m := by rw [List.length_cons, Int.natCast_add, Int.add_mul]; simp
    rw [conS_cons, e]
    split <;> omega
theorem csum_add (f g : Nat → Int) : ∀ n, csum (fun i => f i + g i) n = csum f n + csum g n
  | 0 => rfl
  | n + 1 => by simp only [csum, csum_add f g n]; omega
theorem csum_two (g : Nat → Int) : ∀ n, csum (fun i => 2 * g i) n = 2 * csum g n
  | 0 => rfl
  | n + 1 => by simp only [csum, csum_two g n]; omega
theorem csum_nn {f : Nat → Int} {m : Int} (hf : ∀ i, 0 ≤ f i ∧ f i ≤ m) : ∀ n : Nat, 0 ≤ csum f n ∧ csum f n ≤ n * m
  | 0 => by simp [csum]
  | n + 1 => by
    have h1 := csum_nn hf n
    have h2 := hf n
    have e : ((n + 1 : Nat) : Int) * m = n * m + m := by rw [Int.natCast_add, Int.add_mul]; simp
    simp only [csum]
    omega
/-- What lies left of the n-th joint: the stones, and the loads; with twice the loads, twice their part. -/
theorem scale_tot (js : List Jt) (ls : List Ld) (h6 : ls.length ≤ 6) (hw : ∀ l ∈ ls, 0 ≤ l.w ∧ l.w ≤ 200) (n : Nat) (hn : n ≤ 8) :
    ∃ A C : Int, (0 ≤ A ∧ A ≤ 1036800) ∧ (0 ≤ C ∧ C ≤ 9600) ∧ lwA js ls n = A + C ∧ lwA js (ls.map scl) n = A + 2 * C ∧ lwA js [] n = A := by
  have b1 : ∀ k, 0 ≤ conS Ld.w ls k ∧ conS Ld.w ls k ≤ 1200 := fun k => by
    have h := conS_bd (m := 200) (by decide) k ls hw
    have : (ls.length : Int) * 200 ≤ 6 * 200 := Int.mul_le_mul_of_nonneg_right (by omega) (by decide)
    omega
  have wb := fun k => weightW_bd (qd js k)
  have s1 : lwA js ls n = csum (addW js ls) n := sumW_small (m := 1000000) (by decide) (fun i => by have := b1 i; have := wb i; unfold addW; omega) n (by omega)
  have s2 : lwA js (ls.map scl) n = csum (addW js (ls.map scl)) n := sumW_small (m := 1000000) (by decide) (fun i => by have := b1 i; have := wb i; unfold addW; rw [conS_scl]; omega) n (by omega)
  have s3 : lwA js [] n = csum (addW js []) n := sumW_small (m := 1000000) (by decide) (fun i => by have := wb i; unfold addW; rw [conS_nil]; omega) n (by omega)
  have p1 := csum_nn (f := fun k => weightW (qd js k)) wb n
  have p2 := csum_nn (f := fun k => conS Ld.w ls k) b1 n
  have q1 : (n : Int) * 129600 ≤ 8 * 129600 := Int.mul_le_mul_of_nonneg_right (by omega) (by decide)
  have q2 : (n : Int) * 1200 ≤ 8 * 1200 := Int.mul_le_mul_of_nonneg_right (by omega) (by decide)
  refine ⟨csum (fun k => weightW (qd js k)) n, csum (conS Ld.w ls) n, by omega, ⟨p2.1, Int.le_trans p2.2 (by omega)⟩, ?_, ?_, ?_⟩
  · rw [s1]; exact csum_add _ _ n
  · have e : addW js (ls.map scl) = fun k => weightW (qd js k) + 2 * conS Ld.w ls k := funext fun k => by rw [addW, conS_scl]
    rw [s2, e, csum_add, csum_two]
  · have e : addW js [] = fun k => weightW (qd js k) := funext fun k => by rw [addW, conS_nil, Int.add_zero]
    rw [s3, e]
end Go.Proofs.Ytikbndfbjgdldaa
