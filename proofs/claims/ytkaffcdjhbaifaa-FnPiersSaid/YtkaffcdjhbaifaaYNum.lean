/- Numbers in a range: within, l01In. -/
import Derived.Test.YtkaffcdjhbaifaaYRow
import Derived.Test.YtkaffcdjhbaifaaYMPt
namespace Go.Proofs.Ytkaffcdjhbaifaa
open Go.ChangeShapes Go.WideShapes Go.ChangeAt Go.RowKit

theorem impl_within (n lo hi : Int) (w : World) :
    Calls Try.prog 19 #[.int .i64 n, .int .i64 lo, .int .i64 hi] w fun e w' => e = .returned (.bool (inR n lo hi)) ∧ w = w' := by
  unfold inR
  go_enter Try.func19, Try.ntmps19
  go_wp2
  all_goals (go_ret; exact ⟨by simp_all <;> omega, rfl⟩)
theorem spec_l01In (n lo hi : Int) (w : World) :
    Calls Try.prog 37 #[.int .i64 n, .int .i64 lo, .int .i64 hi] w fun e w' => e = .returned (.bool (inR n lo hi)) ∧ w = w' := by
  unfold inR
  go_enter Try.func37, Try.ntmps37
  go_wp2
  all_goals (go_ret; exact ⟨by simp_all <;> omega, rfl⟩)

end Go.Proofs.Ytkaffcdjhbaifaa
