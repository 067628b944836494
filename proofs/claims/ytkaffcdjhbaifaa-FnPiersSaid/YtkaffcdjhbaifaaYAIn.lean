/- IsInStone, both ways. -/
import Derived.Test.YtkaffcdjhbaifaaYAWt
import Derived.Test.YtkaffcdjhbaifaaZ2
namespace Go.Proofs.Ytkaffcdjhbaifaa
open Go.Eng
set_option maxRecDepth 100000
attribute [local irreducible] QV TV WL HW W CallOk Weak
attribute [local irreducible] CallOkE

def inB (l : List Pt) (p : Pt) (k : Nat) : Bool := decide (0 ≤ sideW (cor l k) (cor l (k + 1)) p)
def insideB (l : List Pt) (p : Pt) : Bool := stoneB l && (ptOk p && (List.range l.length).all (inB l p))
theorem inside_false {l : List Pt} {p : Pt} {i : Nat} (hi : i < l.length) (h : inB l p i = false) : insideB l p = false := by
  unfold insideB
  rw [all_range_false hi h, Bool.and_false, Bool.and_false]
end Go.Proofs.Ytkaffcdjhbaifaa
