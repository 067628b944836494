/- The byte that a law takes from its code is a byte. -/
import Derived.Test.YtikbndfbjgdldaaABg
namespace Go.Proofs.Ytikbndfbjgdldaa
open Go.Eng

theorem atL_255 {l : List Int} (hl : Bts l) : 0 ≤ atL l ∧ atL l ≤ 255 := by
  unfold atL
  split
  · omega
  · rename_i h0
    have hi : 1 % l.length < l.length := Nat.mod_lt _ (by omega)
    have := hl.u l[1 % l.length] (List.getElem_mem hi)
    unfold isU8 at this
    simp only [List.getD_eq_getElem?_getD, List.getElem?_eq_getElem hi, Option.getD_some]
    exact this
end Go.Proofs.Ytikbndfbjgdldaa
