/- A guard whose own operation was left out: the operation behind it is left out, too. No program in sight. -/
import Derived.Test.YtkadjimnamcjbaaEG
namespace Go.Eng
open Go
theorem yielded_un {ops : Array Oper} {tmps : Array Value} {j d : Nat} (hj : (ops[j]?).bind (·.dst) = some d) (h : tmps.getD d undef = undef) : yielded ops tmps j = none := by
  unfold yielded
  rw [hj]
  cases hd : tmps[d]? with
  | none => simp [hd]
  | some y => simp [hd] at h; subst h; simp [hd, undef]
def GU (ops : Array Oper) (tm : List (Nat × AV)) : Option (Nat × Bool) → Prop
  | none => False
  | some (j, _) => ∃ d, (ops[j]?).bind (·.dst) = some d ∧ look tm d = .v undef
theorem wlu {E : En} {ops : Array Oper} {rest : List Oper} {Q : Exit → St → Prop} {tm : List (Nat × AV)} {bl : List (Nat × List AV)} {ow : List Nat} {d : Nat} {op : Op} {ty : TypeId} {pos : String} {af : Array Edge} {gd : Option (Nat × Bool)}
    (hg : GU ops tm gd) (hd : Nat.blt d E.nt = true) (hk : WL E ops rest Q ⟨(d, .v undef) :: tm, bl, ow⟩) : WL E ops (⟨some d, op, ty, pos, af, gd⟩ :: rest) Q ⟨tm, bl, ow⟩ := by
  cases gd with
  | none => exact hg.elim
  | some jb =>
    obtain ⟨j, b⟩ := jb
    obtain ⟨d', h1, h2⟩ := hg
    intro g a w hi
    unfold wpList
    have h3 := hi.tm d'
    simp only [h2, rep] at h3
    have : Region.wanted ⟨some d, op, ty, pos, af, some (j, b)⟩ (yielded ops a.tmps) = false := by simp [Region.wanted, yielded_un h1 h3]
    rw [this]
    have := hi.app (d := some d) (v := .v undef) (y := undef) (nb := []) (no := []) (fun k hk => by cases hk; exact Nat.le_of_ble_eq_true hd) (Goes.refl g w) hi.mem (by simp only [rep])
    exact hk g _ w this
end Go.Eng
