/- The program's PlacesOf returns what the reference's returns, in memory of its own. -/
import Derived.Test.YtkadjimnamcjbaaYLawPlacesOf
import Derived.Test.YtkadjimnamcjbaaYAO
namespace Go.Proofs.Ytkadjimnamcjbaa
open Go.ChangeShapes Go.WideShapes Go.ChangeAt Go.RowKit Go.Deep Go.Eng
set_option maxRecDepth 100000
attribute [local irreducible] QV TV WL HW W CallOk Weak


theorem walk_FnExactPlacesOf {H : Type} (enc : TypeId × Value → H) (W : World) (base : Nat) (args : Array Value) (ds : List (DataW H)) (p : List MemPlace) (hval : ∀ (j : Nat) (t : TypeId) (v : Value), Try.f13.params[j]? = some t → args[j]? = some v → Value.okWide Try.prog W .any base t v) (hA : DataW.TrodAll enc Try.prog W 0 (fun _ => true) true Try.f13.params.toList args.toList ds p) (hlt : ∀ x ∈ p, x.block < W.heap.size) :
    Calls Try.prog 13 args W fun e w' => e = .returned (.bool true) ∧ Bel W w' := by
  rw [Try.params13] at hA hval
  obtain ⟨v0, vs0, t0, ds0, p0, q0, hargs, rfl, rfl, h0, r0⟩ := trodAll_cons hA
  obtain ⟨v1, vs1, t1, ds1, p1, q1, rfl, rfl, rfl, h1, r1⟩ := trodAll_cons r0
  obtain ⟨v2, vs2, t2, ds2, p2, q2, rfl, rfl, rfl, h2, r2⟩ := trodAll_cons r1
  obtain ⟨rfl, rfl, rfl⟩ := trodAll_nil r2
  obtain rfl : args = #[v0, v1, v2] := by cases args; simp_all
  obtain ⟨_, ⟨a, rfl, ba, la⟩, da⟩ := open_agg Try.underlying65 opens_Arch (hval 0 65 v0 rfl rfl) h0 (fun x hx => hlt x (by simp [hx]))
  obtain ⟨l, bl, ll, dl⟩ := open_slc Try.underlying73 opens_Loads (hval 1 73 v1 rfl rfl) h1 (fun x hx => hlt x (by simp [hx]))
  obtain ⟨_, ⟨t, rfl, bt⟩, dt⟩ := open_agg Try.underlying98 opens_Thrust (hval 2 98 v2 rfl rfl) h2 (fun x hx => hlt x (by simp [hx]))
  exact law_of_call (law_FnExactPlacesOf a l t la ll) (by simp only [dreps]; exact ⟨_, _, rfl, da, ⟨_, _, rfl, dl, ⟨_, _, rfl, dt, rfl⟩⟩⟩)

set_option maxRecDepth 100000 in
theorem lifted_FnExactPlacesOf (os : Os) (started : os.Started) (H : Type) (enc : TypeId × Value → H) :
    ReturnsInHanded {} Try.checked os 13 .any (Rows.fnExactPlacesOfSpec.pre6 enc Try.prog Try.f13 Rows.fnExactPlacesOfRow.domain false) (Rows.fnExactPlacesOfSpec.post enc Try.prog Try.f13 false true false false) :=
  law_lifted (tb := 4) started (by kernel_rfl) Try.func13
    (ChangeSpec.witness6 (enc := enc) (C := Try.checked) false ⟨#[], #[.agg #[.slice none 0 0], .slice none 0 0, .agg #[.int .i64 0, .int .i64 0, .int .i64 0, .int .i64 0]], []⟩ 8 (by kernel_rfl) (by kernel_rfl) (by kernel_rfl) (by kernel_rfl))
    rfl Try.underlying4 (by kernel_rfl) rfl (fun ds h => by match ds, h with | [d0, d1, d2], _ => rfl)
    (walk_FnExactPlacesOf enc)

/-- THE STATEMENT. -/
theorem holds_FnExactPlacesOf : Rows.FnExactPlacesOfSaid :=
  OpenClaim.holds_of_wide 13 Try.f13 rfl rfl rfl rfl rfl rfl rfl ⟨rfl, rfl, rfl, rfl, rfl⟩ rfl rfl rfl rfl rfl (by kernel_rfl) Try.func13 (by kernel_rfl)
    (of_decide_eq_true (by kernel_rfl)) (by unfold Func.isWrapper; first | (rw [if_pos (by decide +kernel)]; kernel_rfl) | (rw [if_neg (by decide +kernel)]; exact ⟨rfl, rfl⟩))
    (fun os started H enc _ => lifted_FnExactPlacesOf os started H enc)
end Go.Proofs.Ytkadjimnamcjbaa
