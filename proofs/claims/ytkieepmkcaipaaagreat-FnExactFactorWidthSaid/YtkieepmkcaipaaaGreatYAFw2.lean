/- FactorWidth of the reference. -/
import Derived.Test.YtkieepmkcaipaaaGreatYMCx
namespace Go.Proofs.YtkieepmkcaipaaaGreat
open Go.Eng
set_option maxRecDepth 100000
attribute [local irreducible] QV TV WL HW W CallOk CallOkA Weak

theorem factorWidthE_ok (js : List Jt) (ls ms : List Ld) (most : Int) (hj : js.length ≤ 1048576) (hl : ls.length ≤ 1048576) (hm : ms.length ≤ 1048576) : CallOk Tryz.prog 44 [.agg [slJt js], slLd ls, slLd ms, vi most] (fun r => r = vi (stdL js ls ms (facN most)).length) := by
  have h := factorWidth_ok js ls ms most hj hl hm
  rw [width_eq] at h
  exact h
end Go.Proofs.YtkieepmkcaipaaaGreat
