/- The program's Stands returns what the reference's returns. -/
import Derived.Test.YtkieepmkcaipaaaGreatYELw
import Derived.Test.YtkieepmkcaipaaaGreatYASx
import Derived.Test.YtkieepmkcaipaaaGreatYALdLaw
import Derived.Conc.Holds
namespace Go.Proofs.YtkieepmkcaipaaaGreat
open Go.ChangeShapes Go.WideShapes Go.ChangeAt Go.RowKit Go.Deep Go.Eng
set_option maxRecDepth 100000
attribute [local irreducible] QV TV WL HW W CallOk CallOkA Weak

theorem law_FnExactStands (js : List Jt) (ls : List Ld) (ljs : js.length ≤ 9223372036854775807) (lls : ls.length ≤ 9223372036854775807) : CallOkA Tryz.prog 5 [.agg [slJt js], slLd ls] (fun r => r = vb true) := by
  refine callOkX Tryz.func5 Tryz.ntmps5 Tryz.results5 rfl rfl rfl fun B w0 M I0 V0 hal => ?_
  have hsz0 := szArch_ok js (1048576) (by omega) ljs
  by_cases hb0 : (js.length : Int) ≤ 1048576
  · rw [if_pos hb0] at hsz0
    have njs : js.length ≤ 1048576 := by omega
    have hsz1 := szLoadS_ok ls (1048576 - js.length) (by omega) lls
    by_cases hb1 : (ls.length : Int) ≤ 1048576 - js.length
    · rw [if_pos hb1] at hsz1
      have nls : ls.length ≤ 1048576 := by omega
      (repeat (first | refine WL_nil ?_ | (apply wl0 (hd := rfl); (first | exact qv0 | exact QV_bne Tryz.underlying4 rfl rfl | exact QV_beq Tryz.underlying4 rfl rfl | exact qv1 | exact q_callA (hsz0)); (exact gy0)) | (apply wlb (hd := rfl); (first | exact q_box rfl rfl rfl | exact q_alloc); (exact gy0); rfl) | refine wln ⟨_, rfl, rfl⟩ rfl ?_ | refine wlnu ⟨_, rfl, rfl⟩ rfl ?_ | refine wst rfl rfl rfl List.not_mem_nil rfl rfl rfl rfl rfl rfl ?_ | refine W_seq ?_ | refine W_condT rfl ?_ | refine W_condF rfl ?_ | refine W_region ?_ | refine W_skip ?_ | refine W_ret ?_ | refine W_block ?_ | refine W_exit ?_))
      (refine W_cond rfl (fun hc => ?_) (fun hc => ?_))
      · simp at hc; omega
      · skip
        (repeat (first | refine WL_nil ?_ | (apply wl0 (hd := rfl); (first | exact qv0 | exact QV_bne Tryz.underlying4 rfl rfl | exact QV_beq Tryz.underlying4 rfl rfl | exact qv1 | exact q_callA (hsz1)); (exact gy0)) | (apply wlb (hd := rfl); (first | exact q_box rfl rfl rfl | exact q_alloc); (exact gy0); rfl) | refine wln ⟨_, rfl, rfl⟩ rfl ?_ | refine wlnu ⟨_, rfl, rfl⟩ rfl ?_ | refine wst rfl rfl rfl List.not_mem_nil rfl rfl rfl rfl rfl rfl ?_ | refine W_seq ?_ | refine W_condT rfl ?_ | refine W_condF rfl ?_ | refine W_region ?_ | refine W_skip ?_ | refine W_ret ?_ | refine W_block ?_ | refine W_exit ?_))
        (refine W_cond rfl (fun hc => ?_) (fun hc => ?_))
        · simp at hc; omega
        · skip
          (repeat (first | refine WL_nil ?_ | (apply wl0 (hd := rfl); (first | exact q_neB Tryz.underlying4 rfl rfl rfl | exact qv0 | exact QV_bne Tryz.underlying4 rfl rfl | exact QV_beq Tryz.underlying4 rfl rfl | exact qv1 | exact q_callA (eqArch_ok js njs) | exact q_callA (eqLoadS_ok ls nls) | exact q_callA (stands_ok js ls njs nls) | exact q_callAX hal (implStands_ok js ls njs nls)); (exact gy0)) | (apply wlb (hd := rfl); (first | exact q_box rfl rfl rfl | exact q_alloc); (exact gy0); rfl) | refine wln ⟨_, rfl, rfl⟩ rfl ?_ | refine wlnu ⟨_, rfl, rfl⟩ rfl ?_ | (apply wln1 (hd := rfl); exact q_call1A 0 7 (toArch_ok js njs); (exact gy0); rfl) | (apply wln1 (hd := rfl); exact q_call1A 10 7 (toArch_ok js njs); (exact gy0); rfl) | (apply wln1 (hd := rfl); exact q_call1A 20 7 (toArch_ok js njs); (exact gy0); rfl) | (apply wln1 (hd := rfl); exact q_call1A 30 7 (toLoadS_ok ls nls); (exact gy0); rfl) | (apply wln1 (hd := rfl); exact q_call1A 40 7 (toLoadS_ok ls nls); (exact gy0); rfl) | (apply wln1 (hd := rfl); exact q_call1A 50 7 (toLoadS_ok ls nls); (exact gy0); rfl) | refine wst rfl rfl rfl List.not_mem_nil rfl rfl rfl rfl rfl rfl ?_ | refine W_seq ?_ | refine W_condT rfl ?_ | refine W_condF rfl ?_ | refine W_region ?_ | refine W_skip ?_ | refine W_ret ?_ | refine W_block ?_ | refine W_exit ?_ | ((first | refine wdraw 5 (by kernel_rfl) (by kernel_rfl) (by kernel_rfl) rfl ?_); (repeat (first | refine HW_nil ?_ | (apply hw0 (hd := rfl); (first | exact q_neB Tryz.underlying4 rfl rfl rfl | exact qv0 | exact QV_bne Tryz.underlying4 rfl rfl | exact QV_beq Tryz.underlying4 rfl rfl | exact qv1 | exact q_callA (eqArch_ok js njs) | exact q_callA (eqLoadS_ok ls nls) | exact q_callA (stands_ok js ls njs nls) | exact q_callAX hal (implStands_ok js ls njs nls)); (exact gy0)) | (apply hwb (hd := rfl); (first | exact q_box rfl rfl rfl | exact q_allocT rfl); (exact gy0); rfl) | refine hwn ⟨_, rfl, rfl⟩ rfl ?_ | refine hwnu ⟨_, rfl, rfl⟩ rfl ?_ | (apply hwn1 (hd := rfl); exact q_call1A 0 7 (toArch_ok js njs); (exact gy0); rfl) | (apply hwn1 (hd := rfl); exact q_call1A 10 7 (toArch_ok js njs); (exact gy0); rfl) | (apply hwn1 (hd := rfl); exact q_call1A 20 7 (toArch_ok js njs); (exact gy0); rfl) | (apply hwn1 (hd := rfl); exact q_call1A 30 7 (toLoadS_ok ls nls); (exact gy0); rfl) | (apply hwn1 (hd := rfl); exact q_call1A 40 7 (toLoadS_ok ls nls); (exact gy0); rfl) | (apply hwn1 (hd := rfl); exact q_call1A 50 7 (toLoadS_ok ls nls); (exact gy0); rfl) | refine hwi rfl rfl List.not_mem_nil rfl rfl rfl rfl rfl ?_)))))
          refine Exists.intro _ ⟨Weak.refl _, Exists.intro _ ⟨resA_tmp rfl rfl, ?_, rfl⟩⟩
          rfl
    · rw [if_neg hb1] at hsz1
      (repeat (first | refine WL_nil ?_ | (apply wl0 (hd := rfl); (first | exact qv0 | exact QV_bne Tryz.underlying4 rfl rfl | exact QV_beq Tryz.underlying4 rfl rfl | exact qv1 | exact q_callA (hsz0)); (exact gy0)) | (apply wlb (hd := rfl); (first | exact q_box rfl rfl rfl | exact q_alloc); (exact gy0); rfl) | refine wln ⟨_, rfl, rfl⟩ rfl ?_ | refine wlnu ⟨_, rfl, rfl⟩ rfl ?_ | refine wst rfl rfl rfl List.not_mem_nil rfl rfl rfl rfl rfl rfl ?_ | refine W_seq ?_ | refine W_condT rfl ?_ | refine W_condF rfl ?_ | refine W_region ?_ | refine W_skip ?_ | refine W_ret ?_ | refine W_block ?_ | refine W_exit ?_))
      (refine W_cond rfl (fun hc => ?_) (fun hc => ?_))
      · simp at hc; omega
      · skip
        (repeat (first | refine WL_nil ?_ | (apply wl0 (hd := rfl); (first | exact qv0 | exact QV_bne Tryz.underlying4 rfl rfl | exact QV_beq Tryz.underlying4 rfl rfl | exact qv1 | exact q_callA (hsz1)); (exact gy0)) | (apply wlb (hd := rfl); (first | exact q_box rfl rfl rfl | exact q_alloc); (exact gy0); rfl) | refine wln ⟨_, rfl, rfl⟩ rfl ?_ | refine wlnu ⟨_, rfl, rfl⟩ rfl ?_ | refine wst rfl rfl rfl List.not_mem_nil rfl rfl rfl rfl rfl rfl ?_ | refine W_seq ?_ | refine W_condT rfl ?_ | refine W_condF rfl ?_ | refine W_region ?_ | refine W_skip ?_ | refine W_ret ?_ | refine W_block ?_ | refine W_exit ?_))
        refine Exists.intro _ ⟨Weak.refl _, Exists.intro _ ⟨resA_tmp rfl rfl, ?_, rfl⟩⟩
        rfl
  · rw [if_neg hb0] at hsz0
    (repeat (first | refine WL_nil ?_ | (apply wl0 (hd := rfl); (first | exact qv0 | exact QV_bne Tryz.underlying4 rfl rfl | exact QV_beq Tryz.underlying4 rfl rfl | exact qv1 | exact q_callA (hsz0)); (exact gy0)) | (apply wlb (hd := rfl); (first | exact q_box rfl rfl rfl | exact q_alloc); (exact gy0); rfl) | refine wln ⟨_, rfl, rfl⟩ rfl ?_ | refine wlnu ⟨_, rfl, rfl⟩ rfl ?_ | refine wst rfl rfl rfl List.not_mem_nil rfl rfl rfl rfl rfl rfl ?_ | refine W_seq ?_ | refine W_condT rfl ?_ | refine W_condF rfl ?_ | refine W_region ?_ | refine W_skip ?_ | refine W_ret ?_ | refine W_block ?_ | refine W_exit ?_))
    refine Exists.intro _ ⟨Weak.refl _, Exists.intro _ ⟨resA_tmp rfl rfl, ?_, rfl⟩⟩
    rfl

theorem walk_FnExactStands {H : Type} (enc : TypeId × Value → H) (W : World) (base : Nat) (args : Array Value) (ds : List (DataW H)) (p : List MemPlace) (hval : ∀ (j : Nat) (t : TypeId) (v : Value), Tryz.f5.params[j]? = some t → args[j]? = some v → Value.okWide Tryz.prog W .any base t v) (hA : DataW.TrodAll enc Tryz.prog W 0 (fun _ => true) true Tryz.f5.params.toList args.toList ds p) (hlt : ∀ x ∈ p, x.block < W.heap.size) :
    ∃ xs, CallOkA Tryz.prog 5 xs (fun r => r = .v (.bool true)) ∧ dreps (Old W) W xs args.toList := by
  rw [Tryz.params5] at hA hval
  obtain ⟨v0, vs0, t0, ds0, p0, q0, hargs, rfl, rfl, h0, r0⟩ := trodAll_cons hA
  obtain ⟨v1, vs1, t1, ds1, p1, q1, rfl, rfl, rfl, h1, r1⟩ := trodAll_cons r0
  obtain ⟨rfl, rfl, rfl⟩ := trodAll_nil r1
  obtain rfl : args = #[v0, v1] := by cases args; simp_all
  obtain ⟨_, ⟨a, rfl, ba, la⟩, da⟩ := open_agg Tryz.underlying50 opens_Arch (hval 0 50 v0 rfl rfl) h0 (fun x hx => hlt x (by simp [hx]))
  obtain ⟨l, bl, ll, dl⟩ := open_slc Tryz.underlying51 opens_Loads (hval 1 51 v1 rfl rfl) h1 (fun x hx => hlt x (by simp [hx]))
  exact ⟨_, law_FnExactStands a l la ll, (by simp only [dreps]; exact ⟨_, _, rfl, da, ⟨_, _, rfl, dl, rfl⟩⟩)⟩

set_option maxRecDepth 100000 in
theorem lifted_FnExactStands (os : Os) (started : os.Started) (H : Type) (enc : TypeId × Value → H) :
    ReturnsInLeavingWide {} Tryz.checked os 5 .any (Rows.fnExactStandsSpec.pre6 enc Tryz.prog Tryz.f5 Rows.fnExactStandsRow.domain false) (Rows.fnExactStandsSpec.post enc Tryz.prog Tryz.f5 false true false false) :=
  law_liftedA (tb := 4) started (by kernel_rfl) Tryz.func5
    (ChangeSpec.witness6 (enc := enc) (C := Tryz.checked) false ⟨#[], #[.agg #[.slice none 0 0], .slice none 0 0], []⟩ 8 (by kernel_rfl) (by kernel_rfl) (by kernel_rfl) (by kernel_rfl))
    rfl Tryz.underlying4 (by kernel_rfl) rfl (fun ds h => by match ds, h with | [d0, d1], _ => rfl)
    (walk_FnExactStands enc)

/-- THE STATEMENT. -/
theorem holds_FnExactStands : Rows.FnExactStandsSaid :=
  OpenClaim.holds_of_wide_leaving 5 Tryz.f5 rfl rfl rfl rfl rfl rfl rfl ⟨rfl, rfl, rfl, rfl, rfl⟩ rfl rfl rfl rfl rfl (by kernel_rfl) Tryz.func5 (by kernel_rfl)
    (of_decide_eq_true (by kernel_rfl)) (by unfold Func.isWrapper; first | (rw [if_pos (by decide +kernel)]; kernel_rfl) | (rw [if_neg (by decide +kernel)]; exact ⟨rfl, rfl⟩))
    (fun os started H enc _ => lifted_FnExactStands os started H enc)
end Go.Proofs.YtkieepmkcaipaaaGreat
