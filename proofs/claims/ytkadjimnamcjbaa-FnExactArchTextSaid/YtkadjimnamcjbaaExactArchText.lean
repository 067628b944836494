/- The program's ArchText returns what the reference's returns. -/
import Derived.Test.YtkadjimnamcjbaaAJLaw
import Derived.Test.YtkadjimnamcjbaaAAtx
import Derived.Test.YtkadjimnamcjbaaAO
namespace Go.Proofs.Ytkadjimnamcjbaa
open Go.ChangeShapes Go.WideShapes Go.ChangeAt Go.RowKit Go.Deep Go.Eng
set_option maxRecDepth 100000
attribute [local irreducible] QV TV WL HW W CallOk Weak

theorem law_FnExactArchText (js : List Jt) (ljs : js.length ≤ 9223372036854775807) : CallOk Try.prog 11 [.agg [slJt js]] (fun r => r = vb true) := by
  refine callOk Try.func11 Try.ntmps11 Try.results11 rfl rfl rfl fun B w0 I0 => ?_
  have hsz0 := szArch_ok js (1048576) (by omega) ljs
  by_cases hb0 : (js.length : Int) ≤ 1048576
  · rw [if_pos hb0] at hsz0
    have njs : js.length ≤ 1048576 := by omega
    (repeat (first | refine WL_nil ?_ | (apply wl0 (hd := rfl); (first | exact qv0 | exact QV_bne Try.underlying4 rfl rfl | exact QV_beq Try.underlying4 rfl rfl | exact qv1 | exact q_callA (hsz0)); (exact gy0)) | (apply wlb (hd := rfl); (first | exact q_box rfl rfl rfl | exact q_alloc); (exact gy0); rfl) | refine wln ⟨_, rfl, rfl⟩ rfl ?_ | refine wst rfl rfl rfl List.not_mem_nil rfl rfl rfl rfl rfl rfl ?_ | refine W_seq ?_ | refine W_condT rfl ?_ | refine W_condF rfl ?_ | refine W_region ?_ | refine W_skip ?_ | refine W_ret ?_ | refine W_block ?_ | refine W_exit ?_))
    (refine W_cond rfl (fun hc => ?_) (fun hc => ?_))
    · simp at hc; omega
    · skip
      (repeat (first | refine WL_nil ?_ | (apply wl0 (hd := rfl); (first | exact q_neStr rfl rfl | exact qv0 | exact QV_bne Try.underlying4 rfl rfl | exact QV_beq Try.underlying4 rfl rfl | exact qv1 | exact q_callA (eqArch_ok js njs) | exact q_callA (archText_ok js njs) | exact q_callA (implArchText_ok js njs)); (exact gy0)) | (apply wlb (hd := rfl); (first | exact q_box rfl rfl rfl | exact q_alloc); (exact gy0); rfl) | refine wln ⟨_, rfl, rfl⟩ rfl ?_ | (apply wln1 (hd := rfl); exact q_call1A 0 7 (toArch_ok js njs); (exact gy0); rfl) | (apply wln1 (hd := rfl); exact q_call1A 10 7 (toArch_ok js njs); (exact gy0); rfl) | (apply wln1 (hd := rfl); exact q_call1A 20 7 (toArch_ok js njs); (exact gy0); rfl) | refine wst rfl rfl rfl List.not_mem_nil rfl rfl rfl rfl rfl rfl ?_ | refine W_seq ?_ | refine W_condT rfl ?_ | refine W_condF rfl ?_ | refine W_region ?_ | refine W_skip ?_ | refine W_ret ?_ | refine W_block ?_ | refine W_exit ?_ | ((first | refine wdraw 5 (by kernel_rfl) (by kernel_rfl) (by kernel_rfl) rfl ?_); (repeat (first | refine HW_nil ?_ | (apply hw0 (hd := rfl); (first | exact q_neStr rfl rfl | exact qv0 | exact QV_bne Try.underlying4 rfl rfl | exact QV_beq Try.underlying4 rfl rfl | exact qv1 | exact q_callA (eqArch_ok js njs) | exact q_callA (archText_ok js njs) | exact q_callA (implArchText_ok js njs)); (exact gy0)) | (apply hwb (hd := rfl); (first | exact q_box rfl rfl rfl | exact q_allocT rfl); (exact gy0); rfl) | refine hwn ⟨_, rfl, rfl⟩ rfl ?_ | (apply hwn1 (hd := rfl); exact q_call1A 0 7 (toArch_ok js njs); (exact gy0); rfl) | (apply hwn1 (hd := rfl); exact q_call1A 10 7 (toArch_ok js njs); (exact gy0); rfl) | (apply hwn1 (hd := rfl); exact q_call1A 20 7 (toArch_ok js njs); (exact gy0); rfl) | refine hwi rfl rfl List.not_mem_nil rfl rfl rfl rfl rfl ?_)))))
      refine Exists.intro _ ⟨Weak.refl _, Exists.intro _ ⟨resA_tmp rfl rfl, ?_, rfl⟩⟩
      rfl
  · rw [if_neg hb0] at hsz0
    (repeat (first | refine WL_nil ?_ | (apply wl0 (hd := rfl); (first | exact qv0 | exact QV_bne Try.underlying4 rfl rfl | exact QV_beq Try.underlying4 rfl rfl | exact qv1 | exact q_callA (hsz0)); (exact gy0)) | (apply wlb (hd := rfl); (first | exact q_box rfl rfl rfl | exact q_alloc); (exact gy0); rfl) | refine wln ⟨_, rfl, rfl⟩ rfl ?_ | refine wst rfl rfl rfl List.not_mem_nil rfl rfl rfl rfl rfl rfl ?_ | refine W_seq ?_ | refine W_condT rfl ?_ | refine W_condF rfl ?_ | refine W_region ?_ | refine W_skip ?_ | refine W_ret ?_ | refine W_block ?_ | refine W_exit ?_))
    refine Exists.intro _ ⟨Weak.refl _, Exists.intro _ ⟨resA_tmp rfl rfl, ?_, rfl⟩⟩
    rfl

theorem walk_FnExactArchText {H : Type} (enc : TypeId × Value → H) (W : World) (base : Nat) (args : Array Value) (ds : List (DataW H)) (p : List MemPlace) (hval : ∀ (j : Nat) (t : TypeId) (v : Value), Try.f11.params[j]? = some t → args[j]? = some v → Value.okWide Try.prog W .any base t v) (hA : DataW.TrodAll enc Try.prog W 0 (fun _ => true) true Try.f11.params.toList args.toList ds p) (hlt : ∀ x ∈ p, x.block < W.heap.size) :
    Calls Try.prog 11 args W fun e w' => e = .returned (.bool true) ∧ Bel W w' := by
  rw [Try.params11] at hA hval
  obtain ⟨v0, vs0, t0, ds0, p0, q0, hargs, rfl, rfl, h0, r0⟩ := trodAll_cons hA
  obtain ⟨rfl, rfl, rfl⟩ := trodAll_nil r0
  obtain rfl : args = #[v0] := by cases args; simp_all
  obtain ⟨_, ⟨a, rfl, ba, la⟩, da⟩ := open_agg Try.underlying65 opens_Arch (hval 0 65 v0 rfl rfl) h0 (fun x hx => hlt x (by simp [hx]))
  exact law_of_call (law_FnExactArchText a la) (by simp only [dreps]; exact ⟨_, _, rfl, da, rfl⟩)

set_option maxRecDepth 100000 in
theorem lifted_FnExactArchText (os : Os) (started : os.Started) (H : Type) (enc : TypeId × Value → H) :
    ReturnsInHanded {} Try.checked os 11 .any (Rows.fnExactArchTextSpec.pre6 enc Try.prog Try.f11 Rows.fnExactArchTextRow.domain false) (Rows.fnExactArchTextSpec.post enc Try.prog Try.f11 false true false false) :=
  law_lifted (tb := 4) started (by kernel_rfl) Try.func11
    (ChangeSpec.witness6 (enc := enc) (C := Try.checked) false ⟨#[], #[.agg #[.slice none 0 0]], []⟩ 8 (by kernel_rfl) (by kernel_rfl) (by kernel_rfl) (by kernel_rfl))
    rfl Try.underlying4 (by kernel_rfl) rfl (fun ds h => by match ds, h with | [d0], _ => rfl)
    (walk_FnExactArchText enc)

/-- THE STATEMENT. -/
theorem holds_FnExactArchText : Rows.FnExactArchTextSaid :=
  OpenClaim.holds_of_wide 11 Try.f11 rfl rfl rfl rfl rfl rfl rfl ⟨rfl, rfl, rfl, rfl, rfl⟩ rfl rfl rfl rfl rfl (by kernel_rfl) Try.func11 (by kernel_rfl)
    (of_decide_eq_true (by kernel_rfl)) (by unfold Func.isWrapper; first | (rw [if_pos (by decide +kernel)]; kernel_rfl) | (rw [if_neg (by decide +kernel)]; exact ⟨rfl, rfl⟩))
    (fun os started H enc _ => lifted_FnExactArchText os started H enc)
end Go.Proofs.Ytkadjimnamcjbaa
