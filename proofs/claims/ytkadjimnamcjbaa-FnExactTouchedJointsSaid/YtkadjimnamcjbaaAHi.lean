/- Hinges: HingesOf, MeetingOf, CommonPoint, both ways. -/
import Derived.Test.YtkadjimnamcjbaaALd
import Derived.Test.YtkadjimnamcjbaaATh
import Derived.Test.YtkadjimnamcjbaaIQ
namespace Go.Eng
open Go
section
variable {E : En} {bl : List (Nat × List AV)} {tm : List (Nat × AV)} {d : Option Tmp} {ty : TypeId} {pos : String} {af : Array Edge} {gd : Option (Nat × Bool)}
theorem q_neV {xT yT : TypeId} {x y : Operand} {a b r : Bool} (hu : E.P.underlying xT = some .bool) (hx : ev tm x = .v (.bool a)) (hy : ev tm y = .v (.bool b)) (h : (!(a == b)) = r) : QV E bl tm ⟨d, .binOp .neq xT x y yT, ty, pos, af, gd⟩ (.v (.bool r)) [] [] := by
  subst h
  exact QV_bne hu hx hy
theorem q_eqV {xT yT : TypeId} {x y : Operand} {a b r : Bool} (hu : E.P.underlying xT = some .bool) (hx : ev tm x = .v (.bool a)) (hy : ev tm y = .v (.bool b)) (h : (a == b) = r) : QV E bl tm ⟨d, .binOp .eql xT x y yT, ty, pos, af, gd⟩ (.v (.bool r)) [] [] := by
  subst h
  exact QV_beq hu hx hy
end
end Go.Eng
namespace Go.Proofs.Ytkadjimnamcjbaa
open Go.Eng
set_option maxRecDepth 100000
attribute [local irreducible] QV TV WL HW W CallOk Weak

structure Hg where
  j : Int
  o : Bool
  deriving DecidableEq
abbrev Hg.row (h : Hg) : List AV := [vi h.j, vb h.o]
abbrev Hg.av (h : Hg) : AV := .agg [vi h.j, vb h.o]
abbrev slHg (l : List Hg) : AV := .sl 2 (l.map Hg.row)
def gat (l : List Hg) (i : Nat) : Hg := l.getD i ⟨0, false⟩
theorem gat_lt {l : List Hg} {i : Nat} (h : i < l.length) : l[i]? = some (gat l i) := by
  simp [gat, h]
def hgOf (r : Int) : Hg := ⟨W64 (r.tdiv 2), r.tmod 2 == 1⟩
def hgL (n : Int) (rows : List Int) : List Hg := rows.filterMap fun r => if r < n then some (hgOf r) else none
theorem hgL_succ {n : Int} {rows : List Int} {k : Nat} (h : k < rows.length) : hgL n (rows.take (k + 1)) = hgL n (rows.take k) ++ (if iat rows k < n then [hgOf (iat rows k)] else []) := by
  unfold hgL
  rw [List.take_add_one, iat_lt h, List.filterMap_append]
  split
  · rename_i h2; simp [h2]
  · rename_i h2; simp [h2]
theorem hgL_len (n : Int) (rows : List Int) : (hgL n rows).length ≤ rows.length := List.length_filterMap_le _ _
def hgsB (js : List Jt) (rows : List Int) : Bool := archB js && rows.all fun r => inR r 0 (2 * js.length)
def hgA (js : List Jt) (rows : List Int) : List Hg := bif hgsB js rows then hgL (2 * js.length) rows else []
theorem hgA_len (js : List Jt) (rows : List Int) : (hgA js rows).length ≤ rows.length := by
  unfold hgA
  cases hgsB js rows
  · simp
  · exact hgL_len _ _
theorem hg_cells (l : List Hg) : ∀ x ∈ (l.map Hg.row).flatten, isCell x = true := by
  intro x hx
  obtain ⟨r, hr, hx⟩ := List.mem_flatten.1 hx
  obtain ⟨p, _, rfl⟩ := List.mem_map.1 hr
  simp only [Hg.row, List.mem_cons, List.not_mem_nil, or_false] at hx
  rcases hx with rfl | rfl <;> rfl
theorem hg_lens (l : List Hg) : ∀ r ∈ l.map Hg.row, r.length = 2 := by
  intro r hr
  obtain ⟨p, _, rfl⟩ := List.mem_map.1 hr
  rfl
theorem hgL_app {n : Int} {rows : List Int} {k : Nat} (h : k < rows.length) (hr : iat rows k < n) : (hgL n (rows.take k)).map Hg.row ++ [(hgOf (iat rows k)).row] = (hgL n (rows.take (k + 1))).map Hg.row := by
  rw [hgL_succ h, if_pos hr, List.map_append]
  rfl
theorem hgL_same {n : Int} {rows : List Int} {k : Nat} (h : k < rows.length) (hr : ¬ iat rows k < n) : (hgL n (rows.take k)).map Hg.row = (hgL n (rows.take (k + 1))).map Hg.row := by
  rw [hgL_succ h, if_neg hr, List.append_nil]
end Go.Proofs.Ytkadjimnamcjbaa
