/- The program's FactorWidth returns what the reference's returns. -/
import Derived.Test.YtkieepmkcaipaaaGreatYELw
import Derived.Test.YtkieepmkcaipaaaGreatYAFw2
import Derived.Test.YtkieepmkcaipaaaGreatYALdLaw
import Derived.Test.YtkieepmkcaipaaaGreatYLawFactorWidth
import Derived.Conc.Holds
namespace Go.Proofs.YtkieepmkcaipaaaGreat
open Go.ChangeShapes Go.WideShapes Go.ChangeAt Go.RowKit Go.Deep Go.Eng
set_option maxRecDepth 100000
attribute [local irreducible] QV TV WL HW W CallOk CallOkA Weak

theorem walk_FnExactFactorWidth {H : Type} (enc : TypeId × Value → H) (W : World) (base : Nat) (args : Array Value) (ds : List (DataW H)) (p : List MemPlace) (hval : ∀ (j : Nat) (t : TypeId) (v : Value), Tryz.f9.params[j]? = some t → args[j]? = some v → Value.okWide Tryz.prog W .any base t v) (hA : DataW.TrodAll enc Tryz.prog W 0 (fun _ => true) true Tryz.f9.params.toList args.toList ds p) (hlt : ∀ x ∈ p, x.block < W.heap.size) :
    ∃ xs, CallOkA Tryz.prog 9 xs (fun r => r = .v (.bool true)) ∧ dreps (Old W) W xs args.toList := by
  rw [Tryz.params9] at hA hval
  obtain ⟨v0, vs0, t0, ds0, p0, q0, hargs, rfl, rfl, h0, r0⟩ := trodAll_cons hA
  obtain ⟨v1, vs1, t1, ds1, p1, q1, rfl, rfl, rfl, h1, r1⟩ := trodAll_cons r0
  obtain ⟨v2, vs2, t2, ds2, p2, q2, rfl, rfl, rfl, h2, r2⟩ := trodAll_cons r1
  obtain ⟨v3, vs3, t3, ds3, p3, q3, rfl, rfl, rfl, h3, r3⟩ := trodAll_cons r2
  obtain ⟨rfl, rfl, rfl⟩ := trodAll_nil r3
  obtain rfl : args = #[v0, v1, v2, v3] := by cases args; simp_all
  obtain ⟨_, ⟨a, rfl, ba, la⟩, da⟩ := open_agg Tryz.underlying50 opens_Arch (hval 0 50 v0 rfl rfl) h0 (fun x hx => hlt x (by simp [hx]))
  obtain ⟨l, bl, ll, dl⟩ := open_slc Tryz.underlying51 opens_Loads (hval 1 51 v1 rfl rfl) h1 (fun x hx => hlt x (by simp [hx]))
  obtain ⟨m, bm, lm, dm⟩ := open_slc Tryz.underlying51 opens_Loads (hval 2 51 v2 rfl rfl) h2 (fun x hx => hlt x (by simp [hx]))
  obtain ⟨n, rfl, rfl, _, wn⟩ := open_int Tryz.underlying3 (hval 3 3 v3 rfl rfl) h3
  have dn : drep (Old W) W (vi n) (.int .i64 n) := rfl
  have bn := ewf_i64 wn
  exact ⟨_, law_FnExactFactorWidth a l m n la ll lm, (by simp only [dreps]; exact ⟨_, _, rfl, da, ⟨_, _, rfl, dl, ⟨_, _, rfl, dm, ⟨_, _, rfl, dn, rfl⟩⟩⟩⟩)⟩

set_option maxRecDepth 100000 in
theorem lifted_FnExactFactorWidth (os : Os) (started : os.Started) (H : Type) (enc : TypeId × Value → H) :
    ReturnsInLeavingWide {} Tryz.checked os 9 .any (Rows.fnExactFactorWidthSpec.pre6 enc Tryz.prog Tryz.f9 Rows.fnExactFactorWidthRow.domain false) (Rows.fnExactFactorWidthSpec.post enc Tryz.prog Tryz.f9 false true false false) :=
  law_liftedA (tb := 4) started (by kernel_rfl) Tryz.func9
    (ChangeSpec.witness6 (enc := enc) (C := Tryz.checked) false ⟨#[], #[.agg #[.slice none 0 0], .slice none 0 0, .slice none 0 0, .int .i64 0], []⟩ 8 (by kernel_rfl) (by kernel_rfl) (by kernel_rfl) (by kernel_rfl))
    rfl Tryz.underlying4 (by kernel_rfl) rfl (fun ds h => by match ds, h with | [d0, d1, d2, d3], _ => rfl)
    (walk_FnExactFactorWidth enc)

theorem holds_FnExactFactorWidth : Rows.FnExactFactorWidthSaid :=
  OpenClaim.holds_of_wide_leaving 9 Tryz.f9 rfl rfl rfl rfl rfl rfl rfl ⟨rfl, rfl, rfl, rfl, rfl⟩ rfl rfl rfl rfl rfl (by kernel_rfl) Tryz.func9 (by kernel_rfl)
    (of_decide_eq_true (by kernel_rfl)) (by unfold Func.isWrapper; first | (rw [if_pos (by decide +kernel)]; kernel_rfl) | (rw [if_neg (by decide +kernel)]; exact ⟨rfl, rfl⟩))
    (fun os started H enc _ => lifted_FnExactFactorWidth os started H enc)
end Go.Proofs.YtkieepmkcaipaaaGreat
