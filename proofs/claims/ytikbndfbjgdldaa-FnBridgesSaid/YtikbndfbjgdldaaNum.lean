/- Numbers in a range: within, l01In. -/
import Derived.Test.YtikbndfbjgdldaaRow
import Derived.Test.YtikbndfbjgdldaaMPt
namespace Go.Proofs.Ytikbndfbjgdldaa
open Go.ChangeShapes Go.WideShapes Go.ChangeAt Go.RowKit

theorem impl_within (n lo hi : Int) (w : World) :
    Calls Try.prog 32 #[.int .i64 n, .int .i64 lo, .int .i64 hi] w fun e w' => e = .returned (.bool (inR n lo hi)) ∧ w = w' := by
  unfold inR
  go_enter Try.func32, Try.ntmps32
  go_wp2
  all_goals (go_ret; exact ⟨by simp_all <;> omega, rfl⟩)
theorem spec_l01In (n lo hi : Int) (w : World) :
    Calls Try.prog 44 #[.int .i64 n, .int .i64 lo, .int .i64 hi] w fun e w' => e = .returned (.bool (inR n lo hi)) ∧ w = w' := by
  unfold inR
  go_enter Try.func44, Try.ntmps44
  go_wp2
  all_goals (go_ret; exact ⟨by simp_all <;> omega, rfl⟩)

end Go.Proofs.Ytikbndfbjgdldaa
