/- The maths of drawn arches: the shapes, their small numbers; both ends lie on a joint, a stone holds its corners. -/
import Derived.Test.YtkaffcdjhbaifaaYAArch
import Derived.Test.YtkaffcdjhbaifaaYAIn
namespace Go.Proofs.Ytkaffcdjhbaifaa
open Go.Eng

def jt4 (a b c d : Int) : Jt := ⟨⟨a, b⟩, ⟨c, d⟩⟩
def shp : Nat → List Jt
  | 0 => [jt4 (-8) 0 (-11) 0, jt4 (-6) 5 (-8) 7, jt4 (-2) 8 (-3) 11, jt4 2 8 3 11, jt4 6 5 8 7, jt4 8 0 11 0]
  | 1 => [jt4 0 0 (-2) 3, jt4 5 2 4 6, jt4 11 2 12 6, jt4 16 0 18 3]
  | 2 => [jt4 0 0 (-3) 0, jt4 2 6 0 8, jt4 6 11 6 14, jt4 10 6 12 8, jt4 12 0 15 0]
  | 3 => [jt4 0 0 (-1) 4, jt4 4 0 4 4, jt4 8 0 8 4, jt4 12 0 13 4]
  | 4 => [jt4 (-9) 0 (-10) 0, jt4 (-6) 7 (-7) 8, jt4 0 9 0 10, jt4 6 7 7 8, jt4 9 0 10 0]
  | _ => [jt4 0 0 (-2) 2, jt4 6 4 6 7, jt4 12 2 14 4]
def smP (m : Int) (p : Pt) : Prop := (-m ≤ p.x ∧ p.x ≤ m) ∧ -m ≤ p.y ∧ p.y ≤ m
def SmJ (m : Int) (js : List Jt) : Prop := ∀ j ∈ js, smP m j.i ∧ smP m j.o
theorem SmJ.le {m m' : Int} {js : List Jt} (h : SmJ m js) (hm : m ≤ m') : SmJ m' js := fun j hj => by
  have := h j hj
  unfold smP at this ⊢
  omega
theorem SmJ.set {m : Int} {js : List Jt} (h : SmJ m js) (i : Nat) {j : Jt} (hj : smP m j.i ∧ smP m j.o) : SmJ m (js.set i j) := fun k hk => by
  rcases List.mem_or_eq_of_mem_set hk with h1 | h1
  · exact h k h1
  · rw [h1]; exact hj
theorem SmJ.at {m : Int} {js : List Jt} (h : SmJ m js) {k : Nat} (hk : k < js.length) : smP m (jat js k).i ∧ smP m (jat js k).o := by
  have := List.mem_of_getElem? (jat_lt hk)
  exact h _ this
theorem shp_ok : ∀ k, k < 6 → archB (shp k) = true := by
  intro k hk
  have : k = 0 ∨ k = 1 ∨ k = 2 ∨ k = 3 ∨ k = 4 ∨ k = 5 := by omega
  rcases this with rfl | rfl | rfl | rfl | rfl | rfl <;> decide +kernel
theorem shp_sm : ∀ k, k < 6 → SmJ 18 (shp k) := by
  intro k hk
  have : k = 0 ∨ k = 1 ∨ k = 2 ∨ k = 3 ∨ k = 4 ∨ k = 5 := by omega
  unfold SmJ smP
  rcases this with rfl | rfl | rfl | rfl | rfl | rfl <;> decide
theorem side_aa (a p : Pt) : side a a p = 0 := by unfold side; grind
theorem side_aba (a b : Pt) : side a b a = 0 := by unfold side; grind
theorem side_abb (a b : Pt) : side a b b = 0 := by unfold side; grind
theorem side_cyc (a b p : Pt) : side a b p = side p a b := by unfold side; grind
/-- A stone between two joints holds the first joint's inner end. -/
theorem quad_in {a b : Jt} (h : stoneB (quad a b) = true) : insideB (quad a b) a.i = true := by
  have hs := h
  simp only [stoneB, Bool.and_eq_true] at hs
  obtain ⟨_, hall, ht⟩ := hs
  simp only [quad, List.all_cons, List.all_nil, Bool.and_eq_true] at hall
  obtain ⟨h1, h2, h3, h4, _⟩ := hall
  have fan : ∀ i, i < 4 → fanB (quad a b) i = true := fun i hi => by
    have := List.all_eq_true.1 ht i (List.mem_range.2 hi)
    simp only [Bool.and_eq_true] at this
    exact this.2
  have f1 : 0 ≤ side a.i b.i b.o := by
    have := fan 1 (by omega)
    simpa [fanB, quad, cor, sideW_eq h1 h2 h3] using this
  have f2 : 0 ≤ side a.i b.o a.o := by
    have := fan 2 (by omega)
    simpa [fanB, quad, cor, sideW_eq h1 h3 h4] using this
  have r : List.range (quad a b).length = [0, 1, 2, 3] := rfl
  unfold insideB
  rw [h, h1, r]
  have i0 : inB (quad a b) a.i 0 = true := by
    have e3 : cor (quad a b) 0 = a.i := rfl
    have e4 : cor (quad a b) (0 + 1) = b.i := rfl
    rw [inB, e3, e4, sideW_eq h1 h2 h1, side_aba]; rfl
  have i1 : inB (quad a b) a.i 1 = true := by
    have e3 : cor (quad a b) 1 = b.i := rfl
    have e4 : cor (quad a b) (1 + 1) = b.o := rfl
    rw [inB, e3, e4, sideW_eq h2 h3 h1, side_cyc b.i b.o a.i]; exact decide_eq_true f1
  have i2 : inB (quad a b) a.i 2 = true := by
    have e3 : cor (quad a b) 2 = b.o := rfl
    have e4 : cor (quad a b) (2 + 1) = a.o := rfl
    rw [inB, e3, e4, sideW_eq h3 h4 h1, side_cyc b.o a.o a.i]; exact decide_eq_true f2
  have i3 : inB (quad a b) a.i 3 = true := by
    have e3 : cor (quad a b) 3 = a.o := rfl
    have e4 : cor (quad a b) (3 + 1) = a.i := by simp [cor, quad]
    rw [inB, e3, e4, sideW_eq h4 h1 h1, side_abb]; rfl
  simp [i0, i1, i2, i3]
/-- Whether a point is on a joint (both ends being points, and not the same). -/
def onB (j : Jt) (p : Pt) : Bool := (sideW j.i j.o p == 0) && (inR p.x (min j.i.x j.o.x) (max j.i.x j.o.x) && inR p.y (min j.i.y j.o.y) (max j.i.y j.o.y))
theorem on_i {j : Jt} (h1 : ptOk j.i = true) (h2 : ptOk j.o = true) : onB j j.i = true := by
  simp only [onB, sideW_eq h1 h2 h1, side_aba, Bool.and_eq_true, inR_true]
  exact ⟨rfl, by omega, by omega⟩
theorem on_o {j : Jt} (h1 : ptOk j.i = true) (h2 : ptOk j.o = true) : onB j j.o = true := by
  simp only [onB, sideW_eq h1 h2 h2, side_abb, Bool.and_eq_true, inR_true]
  exact ⟨rfl, by omega, by omega⟩
theorem on_far {j : Jt} (h3 : j.i.x = j.o.x → j.i.y = j.o.y → False) : onB j ⟨2 * j.o.x - j.i.x, 2 * j.o.y - j.i.y⟩ = false := by
  cases h : onB j ⟨2 * j.o.x - j.i.x, 2 * j.o.y - j.i.y⟩
  · rfl
  · simp only [onB, Bool.and_eq_true, inR_true] at h
    exfalso
    by_cases hx : j.i.x = j.o.x
    · by_cases hy : j.i.y = j.o.y
      · exact h3 hx hy
      · omega
    · omega
end Go.Proofs.Ytkaffcdjhbaifaa
