/- The program's CollapseOf returns what the reference's returns, in memory of its own. -/
import Derived.Test.YtkadjimnamcjbaaYLawCollapseOf
import Derived.Test.YtkadjimnamcjbaaYAO
namespace Go.Proofs.Ytkadjimnamcjbaa
open Go.ChangeShapes Go.WideShapes Go.ChangeAt Go.RowKit Go.Deep Go.Eng
set_option maxRecDepth 100000
attribute [local irreducible] QV TV WL HW W CallOk Weak


theorem walk_FnExactCollapseOf {H : Type} (enc : TypeId × Value → H) (W : World) (base : Nat) (args : Array Value) (ds : List (DataW H)) (p : List MemPlace) (hval : ∀ (j : Nat) (t : TypeId) (v : Value), Try.f14.params[j]? = some t → args[j]? = some v → Value.okWide Try.prog W .any base t v) (hA : DataW.TrodAll enc Try.prog W 0 (fun _ => true) true Try.f14.params.toList args.toList ds p) (hlt : ∀ x ∈ p, x.block < W.heap.size) :
    Calls Try.prog 14 args W fun e w' => e = .returned (.bool true) ∧ Bel W w' := by
  rw [Try.params14] at hA hval
  obtain ⟨v0, vs0, t0, ds0, p0, q0, hargs, rfl, rfl, h0, r0⟩ := trodAll_cons hA
  obtain ⟨v1, vs1, t1, ds1, p1, q1, rfl, rfl, rfl, h1, r1⟩ := trodAll_cons r0
  obtain ⟨rfl, rfl, rfl⟩ := trodAll_nil r1
  obtain rfl : args = #[v0, v1] := by cases args; simp_all
  obtain ⟨_, ⟨a, rfl, ba, la⟩, da⟩ := open_agg Try.underlying65 opens_Arch (hval 0 65 v0 rfl rfl) h0 (fun x hx => hlt x (by simp [hx]))
  obtain ⟨l, bl, ll, dl⟩ := open_slc Try.underlying73 opens_Loads (hval 1 73 v1 rfl rfl) h1 (fun x hx => hlt x (by simp [hx]))
  exact law_of_call (law_FnExactCollapseOf a l la ll) (by simp only [dreps]; exact ⟨_, _, rfl, da, ⟨_, _, rfl, dl, rfl⟩⟩)

set_option maxRecDepth 100000 in
theorem lifted_FnExactCollapseOf (os : Os) (started : os.Started) (H : Type) (enc : TypeId × Value → H) :
    ReturnsInHanded {} Try.checked os 14 .any (Rows.fnExactCollapseOfSpec.pre6 enc Try.prog Try.f14 Rows.fnExactCollapseOfRow.domain false) (Rows.fnExactCollapseOfSpec.post enc Try.prog Try.f14 false true false false) :=
  law_lifted (tb := 4) started (by kernel_rfl) Try.func14
    (ChangeSpec.witness6 (enc := enc) (C := Try.checked) false ⟨#[], #[.agg #[.slice none 0 0], .slice none 0 0], []⟩ 8 (by kernel_rfl) (by kernel_rfl) (by kernel_rfl) (by kernel_rfl))
    rfl Try.underlying4 (by kernel_rfl) rfl (fun ds h => by match ds, h with | [d0, d1], _ => rfl)
    (walk_FnExactCollapseOf enc)

/-- THE STATEMENT. -/
theorem holds_FnExactCollapseOf : Rows.FnExactCollapseOfSaid :=
  OpenClaim.holds_of_wide 14 Try.f14 rfl rfl rfl rfl rfl rfl rfl ⟨rfl, rfl, rfl, rfl, rfl⟩ rfl rfl rfl rfl rfl (by kernel_rfl) Try.func14 (by kernel_rfl)
    (of_decide_eq_true (by kernel_rfl)) (by unfold Func.isWrapper; first | (rw [if_pos (by decide +kernel)]; kernel_rfl) | (rw [if_neg (by decide +kernel)]; exact ⟨rfl, rfl⟩))
    (fun os started H enc _ => lifted_FnExactCollapseOf os started H enc)
end Go.Proofs.Ytkadjimnamcjbaa
