/- FnCollapses: an arch stands, or at most four conditions contradict each other, never both and never neither: for all codes, no condition. -/
import Derived.Test.YtpcahgedkmgllaaGreatYELw
import Derived.Test.YtpcahgedkmgllaaGreatYLawFnCollapses
import Derived.Test.YtpcahgedkmgllaaGreatYG8
import Derived.Conc.Holds
namespace Go.Proofs.YtpcahgedkmgllaaGreat
open Go.ChangeShapes Go.WideShapes Go.ChangeAt Go.RowKit Go.Deep Go.Eng
set_option maxRecDepth 100000
attribute [local irreducible] QV TV WL HW W CallOk CallOkA Weak

theorem walk_FnCollapses {H : Type} (enc : TypeId × Value → H) (W : World) (base : Nat) (args : Array Value) (ds : List (DataW H)) (p : List MemPlace) (hval : ∀ (j : Nat) (t : TypeId) (v : Value), Tryz.f3.params[j]? = some t → args[j]? = some v → Value.okWide Tryz.prog W .any base t v) (hA : DataW.TrodAll enc Tryz.prog W 0 (fun _ => true) true Tryz.f3.params.toList args.toList ds p) (hlt : ∀ x ∈ p, x.block < W.heap.size) :
    ∃ xs, CallOkA Tryz.prog 3 xs (fun r => r = .v (.bool true)) ∧ dreps (Old W) W xs args.toList := by
  rw [Tryz.params3] at hA hval
  obtain ⟨v0, vs0, t0, ds0, p0, q0, hargs, rfl, rfl, h0, r0⟩ := trodAll_cons hA
  obtain ⟨rfl, rfl, rfl⟩ := trodAll_nil r0
  obtain rfl : args = #[v0] := by cases args; simp_all
  obtain ⟨c, bc, lc, dc⟩ := open_code (hval 0 22 v0 rfl rfl) h0 (fun x hx => hlt x (by simp [hx]))
  exact ⟨_, law_FnCollapses c bc lc, (by simp only [dreps]; exact ⟨_, _, rfl, dc, rfl⟩)⟩

set_option maxRecDepth 100000 in
theorem lifted_FnCollapses (os : Os) (started : os.Started) (H : Type) (enc : TypeId × Value → H) :
    ReturnsInLeavingWide {} Tryz.checked os 3 .any (Rows.fnCollapsesSpec.pre6 enc Tryz.prog Tryz.f3 Rows.fnCollapsesRow.domain false) (Rows.fnCollapsesSpec.post enc Tryz.prog Tryz.f3 false true false false) :=
  law_liftedA (tb := 4) started (by kernel_rfl) Tryz.func3
    (ChangeSpec.witness6 (enc := enc) (C := Tryz.checked) false ⟨#[], #[.slice none 0 0], []⟩ 8 (by kernel_rfl) (by kernel_rfl) (by kernel_rfl) (by kernel_rfl))
    rfl Tryz.underlying4 (by kernel_rfl) rfl (fun ds h => by match ds, h with | [d0], _ => rfl)
    (walk_FnCollapses enc)

theorem holds_FnCollapses : Rows.FnCollapsesSaid :=
  OpenClaim.holds_of_wide_leaving 3 Tryz.f3 rfl rfl rfl rfl rfl rfl rfl ⟨rfl, rfl, rfl, rfl, rfl⟩ rfl rfl rfl rfl rfl (by kernel_rfl) Tryz.func3 (by kernel_rfl)
    (of_decide_eq_true (by kernel_rfl)) (by unfold Func.isWrapper; first | (rw [if_pos (by decide +kernel)]; kernel_rfl) | (rw [if_neg (by decide +kernel)]; exact ⟨rfl, rfl⟩))
    (fun os started H enc _ => lifted_FnCollapses os started H enc)
end Go.Proofs.YtpcahgedkmgllaaGreat
