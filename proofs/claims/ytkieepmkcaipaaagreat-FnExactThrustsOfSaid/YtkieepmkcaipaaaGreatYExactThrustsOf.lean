/- The program's ThrustsOf returns what the reference's returns, in memory of its own. -/
import Derived.Test.YtkieepmkcaipaaaGreatYLawThrustsOf
import Derived.Test.YtkieepmkcaipaaaGreatYELw
import Derived.Conc.Holds
import Derived.Test.YtkieepmkcaipaaaGreatYAO
namespace Go.Proofs.YtkieepmkcaipaaaGreat
open Go.ChangeShapes Go.WideShapes Go.ChangeAt Go.RowKit Go.Deep Go.Eng
set_option maxRecDepth 100000
attribute [local irreducible] QV TV WL HW W CallOk CallOkA Weak


theorem walk_FnExactThrustsOf {H : Type} (enc : TypeId × Value → H) (W : World) (base : Nat) (args : Array Value) (ds : List (DataW H)) (p : List MemPlace) (hval : ∀ (j : Nat) (t : TypeId) (v : Value), Tryz.f10.params[j]? = some t → args[j]? = some v → Value.okWide Tryz.prog W .any base t v) (hA : DataW.TrodAll enc Tryz.prog W 0 (fun _ => true) true Tryz.f10.params.toList args.toList ds p) (hlt : ∀ x ∈ p, x.block < W.heap.size) :
    ∃ xs, CallOkA Tryz.prog 10 xs (fun r => r = .v (.bool true)) ∧ dreps (Old W) W xs args.toList := by
  rw [Tryz.params10] at hA hval
  obtain ⟨v0, vs0, t0, ds0, p0, q0, hargs, rfl, rfl, h0, r0⟩ := trodAll_cons hA
  obtain ⟨v1, vs1, t1, ds1, p1, q1, rfl, rfl, rfl, h1, r1⟩ := trodAll_cons r0
  obtain ⟨rfl, rfl, rfl⟩ := trodAll_nil r1
  obtain rfl : args = #[v0, v1] := by cases args; simp_all
  obtain ⟨_, ⟨a, rfl, ba, la⟩, da⟩ := open_agg Tryz.underlying50 opens_Arch (hval 0 50 v0 rfl rfl) h0 (fun x hx => hlt x (by simp [hx]))
  obtain ⟨l, bl, ll, dl⟩ := open_slc Tryz.underlying51 opens_Loads (hval 1 51 v1 rfl rfl) h1 (fun x hx => hlt x (by simp [hx]))
  exact ⟨_, law_FnExactThrustsOf a l la ll, (by simp only [dreps]; exact ⟨_, _, rfl, da, ⟨_, _, rfl, dl, rfl⟩⟩)⟩

set_option maxRecDepth 100000 in
theorem lifted_FnExactThrustsOf (os : Os) (started : os.Started) (H : Type) (enc : TypeId × Value → H) :
    ReturnsInLeavingWide {} Tryz.checked os 10 .any (Rows.fnExactThrustsOfSpec.pre6 enc Tryz.prog Tryz.f10 Rows.fnExactThrustsOfRow.domain false) (Rows.fnExactThrustsOfSpec.post enc Tryz.prog Tryz.f10 false true false false) :=
  law_liftedA (tb := 4) started (by kernel_rfl) Tryz.func10
    (ChangeSpec.witness6 (enc := enc) (C := Tryz.checked) false ⟨#[], #[.agg #[.slice none 0 0], .slice none 0 0], []⟩ 8 (by kernel_rfl) (by kernel_rfl) (by kernel_rfl) (by kernel_rfl))
    rfl Tryz.underlying4 (by kernel_rfl) rfl (fun ds h => by match ds, h with | [d0, d1], _ => rfl)
    (walk_FnExactThrustsOf enc)

theorem holds_FnExactThrustsOf : Rows.FnExactThrustsOfSaid :=
  OpenClaim.holds_of_wide_leaving 10 Tryz.f10 rfl rfl rfl rfl rfl rfl rfl ⟨rfl, rfl, rfl, rfl, rfl⟩ rfl rfl rfl rfl rfl (by kernel_rfl) Tryz.func10 (by kernel_rfl)
    (of_decide_eq_true (by kernel_rfl)) (by unfold Func.isWrapper; first | (rw [if_pos (by decide +kernel)]; kernel_rfl) | (rw [if_neg (by decide +kernel)]; exact ⟨rfl, rfl⟩))
    (fun os started H enc _ => lifted_FnExactThrustsOf os started H enc)
end Go.Proofs.YtkieepmkcaipaaaGreat
