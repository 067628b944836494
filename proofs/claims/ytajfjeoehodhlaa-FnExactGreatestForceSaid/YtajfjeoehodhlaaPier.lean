/- Walks of the functions on piers and buttresses: what each returns, as plain Lean functions on integers. -/
import Derived.Test.YtajfjeoehodhlaaRow
import Derived.Lib.SmallJoins
namespace Go.Proofs.Ytajfjeoehodhlaa
open Go.ChangeShapes Go.WideShapes Go.ChangeAt Go.RowKit Go.Joins

def inR (n lo hi : Int) : Bool := decide (lo ≤ n) && decide (n ≤ hi)
theorem inR_true {n lo hi : Int} : inR n lo hi = true ↔ lo ≤ n ∧ n ≤ hi := by simp [inR]

theorem impl_within (n lo hi : Int) (w : World) :
    Calls Try.prog 38 #[.int .i64 n, .int .i64 lo, .int .i64 hi] w fun e w' => e = .returned (.bool (inR n lo hi)) ∧ w = w' := by
  unfold inR
  go_enter Try.func38, Try.ntmps38
  go_wp2
  all_goals (go_ret; exact ⟨by simp_all <;> omega, rfl⟩)
theorem spec_l01In (n lo hi : Int) (w : World) :
    Calls Try.prog 35 #[.int .i64 n, .int .i64 lo, .int .i64 hi] w fun e w' => e = .returned (.bool (inR n lo hi)) ∧ w = w' := by
  unfold inR
  go_enter Try.func35, Try.ntmps35
  go_wp2
  all_goals (go_ret; exact ⟨by simp_all <;> omega, rfl⟩)

theorem cells_Pier : Try.prog.cellsOf 23 = 2 := by kernel_rfl
theorem open_Pier {H : Type} {enc : TypeId × Value → H} {W : World} {r : Reach} {base : Nat} {sp : Nat → Bool} {held : Bool} {b0 : Nat} {v : Value} {d : DataW H} {p : List MemPlace}
    (hv : Value.okWide Try.prog W r b0 23 v) (h : DataW.Trod enc Try.prog W base sp held 23 v d p) : ∃ a b : Int, v = .agg #[.int .i64 a, .int .i64 b] := by
  obtain ⟨c0, c1, y0, y1, m, rfl, rfl, rfl, hy0, hy1⟩ := open_agg2 Try.underlying23 (by kernel_rfl) cells_Pier hv h
  obtain ⟨a, e0, _, _⟩ := DataW.trod_int Try.underlying3 hy0
  obtain ⟨b, e1, _, _⟩ := DataW.trod_int Try.underlying3 hy1
  simp at e0 e1
  subst e0 e1
  exact ⟨a, b, rfl⟩
theorem laws_toPier (a b : Int) (w : World) :
    Calls Try.prog 12 #[.agg #[.int .i64 a, .int .i64 b]] w fun e w' => e = .returned (.agg #[.int .i64 a, .int .i64 b]) ∧ Bel w w' := by
  go_enter Try.func12, Try.ntmps12
  go_wp2
  go_returns
  exact ⟨rfl, by (repeat (first | (with_reducible exact Bel.refl _) | (with_reducible assumption) | (with_reducible refine Bel.alloc ?_ _) | (with_reducible refine Bel.drew ?_) | (with_reducible refine Bel.drewN ?_ _) | (with_reducible refine Bel.setCell ?_ (by first | (with_reducible exact Nat.le_refl _) | omega | (simp; done) | (simp; omega)) _) | (with_reducible refine Bel.trans ?_ (by with_reducible assumption))))⟩

def pierB (a b : Int) : Bool := inR a 1 60 && inR b 1 60
def pushB (h d n : Int) : Bool := inR h (-1000000000000) 1000000000000 && inR d (-1000000000000) 1000000000000 && inR n 1 1000000
def okB (a b h d n : Int) : Bool := pierB a b && pushB h d n
def butB (a b h d n t : Int) : Bool := okB a b h d n && inR t 0 60
def turnW (a b h d n : Int) : Int :=
  wrap64 (wrap64 (wrap64 (wrap64 (2 * h) * b) - wrap64 (wrap64 (2 * d) * a)) - wrap64 (wrap64 (wrap64 (wrap64 (n * 6) * a) * a) * b))
def turnO (a b h d n : Int) : Int := if okB a b h d n then turnW a b h d n else 0
def withW (a b h d n f t : Int) : Int :=
  if okB a b h d n && inR f 0 100000 && inR t 0 60 then wrap64 (turnW a b h d n - wrap64 (wrap64 (wrap64 (2 * n) * f) * t)) else 0

theorem impl_PierOk (a b : Int) (w : World) :
    Calls Try.prog 50 #[.agg #[.int .i64 a, .int .i64 b]] w fun e w' => e = .returned (.bool (pierB a b)) ∧ Bel w w' := by
  unfold pierB
  go_enter Try.func50, Try.ntmps50
  go_wp2_with (go_at_call 38; refine (impl_within _ _ _ _).mono ?_; rintro e w' ⟨rfl, rfl⟩)
  all_goals (go_ret; exact ⟨by simp_all, by (repeat (first | (with_reducible exact Bel.refl _) | (with_reducible assumption) | (with_reducible refine Bel.alloc ?_ _) | (with_reducible refine Bel.drew ?_) | (with_reducible refine Bel.drewN ?_ _) | (with_reducible refine Bel.setCell ?_ (by first | (with_reducible exact Nat.le_refl _) | omega | (simp; done) | (simp; omega)) _) | (with_reducible refine Bel.trans ?_ (by with_reducible assumption))))⟩)
theorem spec_PierOk (a b : Int) (w : World) :
    Calls Try.prog 52 #[.agg #[.int .i64 a, .int .i64 b]] w fun e w' => e = .returned (.bool (pierB a b)) ∧ Bel w w' := by
  unfold pierB
  go_enter Try.func52, Try.ntmps52
  go_wp2_with (go_at_call 35; refine (spec_l01In _ _ _ _).mono ?_; rintro e w' ⟨rfl, rfl⟩)
  all_goals (go_ret; exact ⟨by simp_all, by (repeat (first | (with_reducible exact Bel.refl _) | (with_reducible assumption) | (with_reducible refine Bel.alloc ?_ _) | (with_reducible refine Bel.drew ?_) | (with_reducible refine Bel.drewN ?_ _) | (with_reducible refine Bel.setCell ?_ (by first | (with_reducible exact Nat.le_refl _) | omega | (simp; done) | (simp; omega)) _) | (with_reducible refine Bel.trans ?_ (by with_reducible assumption))))⟩)
theorem push_ok (h d n : Int) (w : World) :
    Calls Try.prog 51 #[.agg #[.int .i64 h, .int .i64 d, .int .i64 n]] w fun e w' => e = .returned (.bool (pushB h d n)) ∧ Bel w w' := by
  unfold pushB
  go_enter Try.func51, Try.ntmps51
  go_wp2_with (go_at_call 38; refine (impl_within _ _ _ _).mono ?_; rintro e w' ⟨rfl, rfl⟩)
  all_goals (go_ret; exact ⟨by simp_all, by (repeat (first | (with_reducible exact Bel.refl _) | (with_reducible assumption) | (with_reducible refine Bel.alloc ?_ _) | (with_reducible refine Bel.drew ?_) | (with_reducible refine Bel.drewN ?_ _) | (with_reducible refine Bel.setCell ?_ (by first | (with_reducible exact Nat.le_refl _) | omega | (simp; done) | (simp; omega)) _) | (with_reducible refine Bel.trans ?_ (by with_reducible assumption))))⟩)
theorem Pier_turns (a b h d n : Int) (w : World) :
    Calls Try.prog 39 #[.agg #[.int .i64 a, .int .i64 b], .agg #[.int .i64 h, .int .i64 d, .int .i64 n]] w fun e w' => e = .returned (.int .i64 (turnW a b h d n)) ∧ Bel w w' := by
  unfold turnW
  go_enter Try.func39, Try.ntmps39
  go_wp2
  go_ret
  exact ⟨rfl, by (repeat (first | (with_reducible exact Bel.refl _) | (with_reducible assumption) | (with_reducible refine Bel.alloc ?_ _) | (with_reducible refine Bel.drew ?_) | (with_reducible refine Bel.drewN ?_ _) | (with_reducible refine Bel.setCell ?_ (by first | (with_reducible exact Nat.le_refl _) | omega | (simp; done) | (simp; omega)) _) | (with_reducible refine Bel.trans ?_ (by with_reducible assumption))))⟩
theorem impl_buttressOk (a b h d n t : Int) (w : World) :
    Calls Try.prog 37 #[.agg #[.int .i64 a, .int .i64 b], .agg #[.int .i64 h, .int .i64 d, .int .i64 n], .int .i64 t] w fun e w' => e = .returned (.bool (butB a b h d n t)) ∧ Bel w w' := by
  unfold butB okB
  go_enter Try.func37, Try.ntmps37
  go_wp2_with (first | (go_at_call 38; refine (impl_within _ _ _ _).mono ?_; rintro e w' ⟨rfl, rfl⟩) | (go_at_call 50; refine (impl_PierOk _ _ _).mono ?_; rintro e w' ⟨rfl, hb⟩; obtain ⟨hc, hf, hz⟩ := hb.facts) | (go_at_call 51; refine (push_ok _ _ _ _).mono ?_; rintro e w' ⟨rfl, hb⟩; obtain ⟨hc, hf, hz⟩ := hb.facts))
  all_goals (go_ret; exact ⟨by simp_all, by (repeat (first | (with_reducible exact Bel.refl _) | (with_reducible assumption) | (with_reducible refine Bel.alloc ?_ _) | (with_reducible refine Bel.drew ?_) | (with_reducible refine Bel.drewN ?_ _) | (with_reducible refine Bel.setCell ?_ (by first | (with_reducible exact Nat.le_refl _) | omega | (simp; done) | (simp; omega)) _) | (with_reducible refine Bel.trans ?_ (by with_reducible assumption))))⟩)
theorem spec_l21Ok (a b h d n : Int) (w : World) :
    Calls Try.prog 34 #[.agg #[.int .i64 a, .int .i64 b], .int .i64 h, .int .i64 d, .int .i64 n] w fun e w' => e = .returned (.bool (okB a b h d n)) ∧ Bel w w' := by
  unfold okB pushB
  go_enter Try.func34, Try.ntmps34
  go_wp2_with (first | (go_at_call 35; refine (spec_l01In _ _ _ _).mono ?_; rintro e w' ⟨rfl, rfl⟩) | (go_at_call 52; refine (spec_PierOk _ _ _).mono ?_; rintro e w' ⟨rfl, hb⟩; obtain ⟨hc, hf, hz⟩ := hb.facts))
  all_goals (go_ret; exact ⟨by simp_all, by (repeat (first | (with_reducible exact Bel.refl _) | (with_reducible assumption) | (with_reducible refine Bel.alloc ?_ _) | (with_reducible refine Bel.drew ?_) | (with_reducible refine Bel.drewN ?_ _) | (with_reducible refine Bel.setCell ?_ (by first | (with_reducible exact Nat.le_refl _) | omega | (simp; done) | (simp; omega)) _) | (with_reducible refine Bel.trans ?_ (by with_reducible assumption))))⟩)
theorem spec_TurnOver (a b h d n : Int) (w : World) :
    Calls Try.prog 36 #[.agg #[.int .i64 a, .int .i64 b], .int .i64 h, .int .i64 d, .int .i64 n] w fun e w' => e = .returned (.int .i64 (turnO a b h d n)) ∧ Bel w w' := by
  unfold turnO
  go_enter Try.func36, Try.ntmps36
  go_wp2_with (go_at_call 34; refine (spec_l21Ok _ _ _ _ _ _).mono ?_; rintro e w' ⟨rfl, hb⟩; obtain ⟨hc, hf, hz⟩ := hb.facts)
  all_goals (go_ret; exact ⟨by simp_all [turnW], by (repeat (first | (with_reducible exact Bel.refl _) | (with_reducible assumption) | (with_reducible refine Bel.alloc ?_ _) | (with_reducible refine Bel.drew ?_) | (with_reducible refine Bel.drewN ?_ _) | (with_reducible refine Bel.setCell ?_ (by first | (with_reducible exact Nat.le_refl _) | omega | (simp; done) | (simp; omega)) _) | (with_reducible refine Bel.trans ?_ (by with_reducible assumption))))⟩)

theorem spec_WithButtress (a b h d n f t : Int) (w : World) :
    Calls Try.prog 11 #[.agg #[.int .i64 a, .int .i64 b], .int .i64 h, .int .i64 d, .int .i64 n, .int .i64 f, .int .i64 t] w fun e w' => e = .returned (.int .i64 (withW a b h d n f t)) ∧ Bel w w' := by
  go_enter Try.func11, Try.ntmps11
  go_wp2_with (first | (go_at_call 35; refine (spec_l01In _ _ _ _).mono ?_; rintro e w' ⟨rfl, rfl⟩) | (go_at_call 34; refine (spec_l21Ok _ _ _ _ _ _).mono ?_; rintro e w' ⟨rfl, hb⟩; obtain ⟨hc, hf, hz⟩ := hb.facts) | (go_at_call 36; refine (spec_TurnOver _ _ _ _ _ _).mono ?_; rintro e w' ⟨rfl, hb⟩; obtain ⟨hc, hf, hz⟩ := hb.facts))
  all_goals (go_ret; exact ⟨by simp_all [withW, turnO], by (repeat (first | (with_reducible exact Bel.refl _) | (with_reducible assumption) | (with_reducible refine Bel.alloc ?_ _) | (with_reducible refine Bel.drew ?_) | (with_reducible refine Bel.drewN ?_ _) | (with_reducible refine Bel.setCell ?_ (by first | (with_reducible exact Nat.le_refl _) | omega | (simp; done) | (simp; omega)) _) | (with_reducible refine Bel.trans ?_ (by with_reducible assumption))))⟩)
theorem impl_WithButtress (a b h d n f t : Int) (w : World) :
    Calls Try.prog 13 #[.agg #[.int .i64 a, .int .i64 b], .int .i64 h, .int .i64 d, .int .i64 n, .int .i64 f, .int .i64 t] w fun e w' => e = .returned (.int .i64 (withW a b h d n f t)) ∧ Bel w w' := by
  go_enter Try.func13, Try.ntmps13
  go_wp2_with (first | (go_at_call 38; refine (impl_within _ _ _ _).mono ?_; rintro e w' ⟨rfl, rfl⟩) | (go_at_call 37; refine (impl_buttressOk _ _ _ _ _ _ _).mono ?_; rintro e w' ⟨rfl, hb⟩; obtain ⟨hc, hf, hz⟩ := hb.facts) | (go_at_call 39; refine (Pier_turns _ _ _ _ _ _).mono ?_; rintro e w' ⟨rfl, hb⟩; obtain ⟨hc, hf, hz⟩ := hb.facts))
  all_goals (go_ret; exact ⟨by simp_all [withW, butB], by (repeat (first | (with_reducible exact Bel.refl _) | (with_reducible assumption) | (with_reducible refine Bel.alloc ?_ _) | (with_reducible refine Bel.drew ?_) | (with_reducible refine Bel.drewN ?_ _) | (with_reducible refine Bel.setCell ?_ (by first | (with_reducible exact Nat.le_refl _) | omega | (simp; done) | (simp; omega)) _) | (with_reducible refine Bel.trans ?_ (by with_reducible assumption))))⟩)
end Go.Proofs.Ytajfjeoehodhlaa
