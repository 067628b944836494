/- Walks of the functions on piers and buttresses: what each returns, as plain Lean functions on integers. -/
import Derived.Test.YtkaffcdjhbaifaaYNum
import Derived.Lib.SmallJoins
namespace Go.Proofs.Ytkaffcdjhbaifaa
open Go.ChangeShapes Go.WideShapes Go.ChangeAt Go.RowKit Go.Joins


def pierB (a b : Int) : Bool := inR a 1 60 && inR b 1 60
def pushB (h d n : Int) : Bool := inR h (-1000000000000) 1000000000000 && inR d (-1000000000000) 1000000000000 && inR n 1 1000000
def okB (a b h d n : Int) : Bool := pierB a b && pushB h d n
def butB (a b h d n t : Int) : Bool := okB a b h d n && inR t 0 60
def turnW (a b h d n : Int) : Int :=
  wrap64 (wrap64 (wrap64 (wrap64 (2 * h) * b) - wrap64 (wrap64 (2 * d) * a)) - wrap64 (wrap64 (wrap64 (wrap64 (n * 6) * a) * a) * b))
def turnO (a b h d n : Int) : Int := if okB a b h d n then turnW a b h d n else 0
def withW (a b h d n f t : Int) : Int :=
  if okB a b h d n && inR f 0 100000 && inR t 0 60 then wrap64 (turnW a b h d n - wrap64 (wrap64 (wrap64 (2 * n) * f) * t)) else 0

theorem impl_PierOk (a b : Int) (w : World) :
    Calls Try.prog 8 #[.agg #[.int .i64 a, .int .i64 b]] w fun e w' => e = .returned (.bool (pierB a b)) ∧ Bel w w' := by
  unfold pierB
  go_enter Try.func8, Try.ntmps8
  go_wp2_with (go_at_call 19; refine (impl_within _ _ _ _).mono ?_; rintro e w' ⟨rfl, rfl⟩)
  all_goals (go_ret; exact ⟨by simp_all, by (repeat (first | (with_reducible exact Bel.refl _) | (with_reducible assumption) | (with_reducible refine Bel.alloc ?_ _) | (with_reducible refine Bel.drew ?_) | (with_reducible refine Bel.drewN ?_ _) | (with_reducible refine Bel.setCell ?_ (by first | (with_reducible exact Nat.le_refl _) | omega | (simp; done) | (simp; omega)) _) | (with_reducible refine Bel.trans ?_ (by with_reducible assumption))))⟩)
theorem push_ok (h d n : Int) (w : World) :
    Calls Try.prog 17 #[.agg #[.int .i64 h, .int .i64 d, .int .i64 n]] w fun e w' => e = .returned (.bool (pushB h d n)) ∧ Bel w w' := by
  unfold pushB
  go_enter Try.func17, Try.ntmps17
  go_wp2_with (go_at_call 19; refine (impl_within _ _ _ _).mono ?_; rintro e w' ⟨rfl, rfl⟩)
  all_goals (go_ret; exact ⟨by simp_all, by (repeat (first | (with_reducible exact Bel.refl _) | (with_reducible assumption) | (with_reducible refine Bel.alloc ?_ _) | (with_reducible refine Bel.drew ?_) | (with_reducible refine Bel.drewN ?_ _) | (with_reducible refine Bel.setCell ?_ (by first | (with_reducible exact Nat.le_refl _) | omega | (simp; done) | (simp; omega)) _) | (with_reducible refine Bel.trans ?_ (by with_reducible assumption))))⟩)
theorem Pier_turns (a b h d n : Int) (w : World) :
    Calls Try.prog 20 #[.agg #[.int .i64 a, .int .i64 b], .agg #[.int .i64 h, .int .i64 d, .int .i64 n]] w fun e w' => e = .returned (.int .i64 (turnW a b h d n)) ∧ Bel w w' := by
  unfold turnW
  go_enter Try.func20, Try.ntmps20
  go_wp2
  go_ret
  exact ⟨rfl, by (repeat (first | (with_reducible exact Bel.refl _) | (with_reducible assumption) | (with_reducible refine Bel.alloc ?_ _) | (with_reducible refine Bel.drew ?_) | (with_reducible refine Bel.drewN ?_ _) | (with_reducible refine Bel.setCell ?_ (by first | (with_reducible exact Nat.le_refl _) | omega | (simp; done) | (simp; omega)) _) | (with_reducible refine Bel.trans ?_ (by with_reducible assumption))))⟩
end Go.Proofs.Ytkaffcdjhbaifaa
