/- The program's MirrorArch returns what the reference's returns, in memory of its own. -/
import Derived.Test.YtkadjimnamcjbaaYLawMirrorArch
import Derived.Test.YtkadjimnamcjbaaYAO
namespace Go.Proofs.Ytkadjimnamcjbaa
open Go.ChangeShapes Go.WideShapes Go.ChangeAt Go.RowKit Go.Deep Go.Eng
set_option maxRecDepth 100000
attribute [local irreducible] QV TV WL HW W CallOk Weak


theorem walk_FnExactMirrorArch {H : Type} (enc : TypeId × Value → H) (W : World) (base : Nat) (args : Array Value) (ds : List (DataW H)) (p : List MemPlace) (hval : ∀ (j : Nat) (t : TypeId) (v : Value), Try.f7.params[j]? = some t → args[j]? = some v → Value.okWide Try.prog W .any base t v) (hA : DataW.TrodAll enc Try.prog W 0 (fun _ => true) true Try.f7.params.toList args.toList ds p) (hlt : ∀ x ∈ p, x.block < W.heap.size) :
    Calls Try.prog 7 args W fun e w' => e = .returned (.bool true) ∧ Bel W w' := by
  rw [Try.params7] at hA hval
  obtain ⟨v0, vs0, t0, ds0, p0, q0, hargs, rfl, rfl, h0, r0⟩ := trodAll_cons hA
  obtain ⟨v1, vs1, t1, ds1, p1, q1, rfl, rfl, rfl, h1, r1⟩ := trodAll_cons r0
  obtain ⟨rfl, rfl, rfl⟩ := trodAll_nil r1
  obtain rfl : args = #[v0, v1] := by cases args; simp_all
  obtain ⟨_, ⟨a, rfl, ba, la⟩, da⟩ := open_agg Try.underlying65 opens_Arch (hval 0 65 v0 rfl rfl) h0 (fun x hx => hlt x (by simp [hx]))
  obtain ⟨x, rfl, rfl, _, wx⟩ := open_int Try.underlying3 (hval 1 3 v1 rfl rfl) h1
  have dx : drep (Old W) W (vi x) (.int .i64 x) := rfl
  have bx := ewf_i64 wx
  exact law_of_call (law_FnExactMirrorArch a x la) (by simp only [dreps]; exact ⟨_, _, rfl, da, ⟨_, _, rfl, dx, rfl⟩⟩)

set_option maxRecDepth 100000 in
theorem lifted_FnExactMirrorArch (os : Os) (started : os.Started) (H : Type) (enc : TypeId × Value → H) :
    ReturnsInHanded {} Try.checked os 7 .any (Rows.fnExactMirrorArchSpec.pre6 enc Try.prog Try.f7 Rows.fnExactMirrorArchRow.domain false) (Rows.fnExactMirrorArchSpec.post enc Try.prog Try.f7 false true false false) :=
  law_lifted (tb := 4) started (by kernel_rfl) Try.func7
    (ChangeSpec.witness6 (enc := enc) (C := Try.checked) false ⟨#[], #[.agg #[.slice none 0 0], .int .i64 0], []⟩ 8 (by kernel_rfl) (by kernel_rfl) (by kernel_rfl) (by kernel_rfl))
    rfl Try.underlying4 (by kernel_rfl) rfl (fun ds h => by match ds, h with | [d0, d1], _ => rfl)
    (walk_FnExactMirrorArch enc)

/-- THE STATEMENT. -/
theorem holds_FnExactMirrorArch : Rows.FnExactMirrorArchSaid :=
  OpenClaim.holds_of_wide 7 Try.f7 rfl rfl rfl rfl rfl rfl rfl ⟨rfl, rfl, rfl, rfl, rfl⟩ rfl rfl rfl rfl rfl (by kernel_rfl) Try.func7 (by kernel_rfl)
    (of_decide_eq_true (by kernel_rfl)) (by unfold Func.isWrapper; first | (rw [if_pos (by decide +kernel)]; kernel_rfl) | (rw [if_neg (by decide +kernel)]; exact ⟨rfl, rfl⟩))
    (fun os started H enc _ => lifted_FnExactMirrorArch os started H enc)
end Go.Proofs.Ytkadjimnamcjbaa
