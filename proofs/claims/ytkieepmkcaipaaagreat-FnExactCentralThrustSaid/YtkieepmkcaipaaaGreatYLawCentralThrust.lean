/- The walk of the law on CentralThrust. -/
import Derived.Test.YtkieepmkcaipaaaGreatYELw
import Derived.Test.YtkieepmkcaipaaaGreatYACe
import Derived.Test.YtkieepmkcaipaaaGreatYAEt
import Derived.Test.YtkieepmkcaipaaaGreatYALdLaw
namespace Go.Proofs.YtkieepmkcaipaaaGreat
open Go.ChangeShapes Go.WideShapes Go.ChangeAt Go.RowKit Go.Deep Go.Eng
set_option maxRecDepth 100000
attribute [local irreducible] QV TV WL HW W CallOk CallOkA Weak

theorem law_FnExactCentralThrust (js : List Jt) (ls : List Ld) (ljs : js.length ≤ 9223372036854775807) (lls : ls.length ≤ 9223372036854775807) : CallOkA Tryz.prog 13 [.agg [slJt js], slLd ls] (fun r => r = vb true) := by
  refine callOkX Tryz.func13 Tryz.ntmps13 Tryz.results13 rfl rfl rfl fun B w0 M I0 V0 hal => ?_
  have hsz0 := szArch_ok js (1048576) (by omega) ljs
  by_cases hb0 : (js.length : Int) ≤ 1048576
  · rw [if_pos hb0] at hsz0
    have njs : js.length ≤ 1048576 := by omega
    have hsz1 := szLoadS_ok ls (1048576 - js.length) (by omega) lls
    by_cases hb1 : (ls.length : Int) ≤ 1048576 - js.length
    · rw [if_pos hb1] at hsz1
      have nls : ls.length ≤ 1048576 := by omega
      (repeat (first | refine WL_nil ?_ | (apply wl0 (hd := rfl); (first | exact qv0 | exact QV_bne Tryz.underlying4 rfl rfl | exact QV_beq Tryz.underlying4 rfl rfl | exact qv1 | exact q_callA (hsz0)); (exact gy0)) | (apply wlb (hd := rfl); (first | exact q_box rfl rfl rfl | exact q_alloc); (exact gy0); rfl) | refine wln ⟨_, rfl, rfl⟩ rfl ?_ | refine wlnu ⟨_, rfl, rfl⟩ rfl ?_ | refine wst rfl rfl rfl List.not_mem_nil rfl rfl rfl rfl rfl rfl ?_ | refine W_seq ?_ | refine W_condT rfl ?_ | refine W_condF rfl ?_ | refine W_region ?_ | refine W_skip ?_ | refine W_ret ?_ | refine W_block ?_ | refine W_exit ?_))
      (refine W_cond rfl (fun hc => ?_) (fun hc => ?_))
      · simp at hc; omega
      · skip
        (repeat (first | refine WL_nil ?_ | (apply wl0 (hd := rfl); (first | exact qv0 | exact QV_bne Tryz.underlying4 rfl rfl | exact QV_beq Tryz.underlying4 rfl rfl | exact qv1 | exact q_callA (hsz1)); (exact gy0)) | (apply wlb (hd := rfl); (first | exact q_box rfl rfl rfl | exact q_alloc); (exact gy0); rfl) | refine wln ⟨_, rfl, rfl⟩ rfl ?_ | refine wlnu ⟨_, rfl, rfl⟩ rfl ?_ | refine wst rfl rfl rfl List.not_mem_nil rfl rfl rfl rfl rfl rfl ?_ | refine W_seq ?_ | refine W_condT rfl ?_ | refine W_condF rfl ?_ | refine W_region ?_ | refine W_skip ?_ | refine W_ret ?_ | refine W_block ?_ | refine W_exit ?_))
        (refine W_cond rfl (fun hc => ?_) (fun hc => ?_))
        · simp at hc; omega
        · skip
          (repeat (first | refine WL_nil ?_ | (apply wl0 (hd := rfl); (first | exact q_neB Tryz.underlying4 rfl rfl rfl | exact qv0 | exact QV_bne Tryz.underlying4 rfl rfl | exact QV_beq Tryz.underlying4 rfl rfl | exact qv1 | exact q_callA (eqArch_ok js njs) | exact q_callA (eqLoadS_ok ls nls) | exact q_callA (thO_call (centralThrust_ok js ls njs nls)) | exact q_callAX hal (thO_callA (implCentralThrust_ok js ls njs nls)) | exact q_callA (eqThrust_ok _)); (exact gy0)) | (apply wlb (hd := rfl); (first | exact q_box rfl rfl rfl | exact q_alloc); (exact gy0); rfl) | refine wln ⟨_, rfl, rfl⟩ rfl ?_ | refine wlnu ⟨_, rfl, rfl⟩ rfl ?_ | (apply wln1 (hd := rfl); exact q_call1A 0 7 (toArch_ok js njs); (exact gy0); rfl) | (apply wln1 (hd := rfl); exact q_call1A 10 7 (toArch_ok js njs); (exact gy0); rfl) | (apply wln1 (hd := rfl); exact q_call1A 20 7 (toArch_ok js njs); (exact gy0); rfl) | (apply wln1 (hd := rfl); exact q_call1A 30 7 (toLoadS_ok ls nls); (exact gy0); rfl) | (apply wln1 (hd := rfl); exact q_call1A 40 7 (toLoadS_ok ls nls); (exact gy0); rfl) | (apply wln1 (hd := rfl); exact q_call1A 50 7 (toLoadS_ok ls nls); (exact gy0); rfl) | refine wst rfl rfl rfl List.not_mem_nil rfl rfl rfl rfl rfl rfl ?_ | refine W_seq ?_ | refine W_condT rfl ?_ | refine W_condF rfl ?_ | refine W_region ?_ | refine W_skip ?_ | refine W_ret ?_ | refine W_block ?_ | refine W_exit ?_ | ((first | refine wdraw 5 (by kernel_rfl) (by kernel_rfl) (by kernel_rfl) rfl ?_); (repeat (first | refine HW_nil ?_ | (apply hw0 (hd := rfl); (first | exact q_neB Tryz.underlying4 rfl rfl rfl | exact qv0 | exact QV_bne Tryz.underlying4 rfl rfl | exact QV_beq Tryz.underlying4 rfl rfl | exact qv1 | exact q_callA (eqArch_ok js njs) | exact q_callA (eqLoadS_ok ls nls) | exact q_callA (thO_call (centralThrust_ok js ls njs nls)) | exact q_callAX hal (thO_callA (implCentralThrust_ok js ls njs nls)) | exact q_callA (eqThrust_ok _)); (exact gy0)) | (apply hwb (hd := rfl); (first | exact q_box rfl rfl rfl | exact q_allocT rfl); (exact gy0); rfl) | refine hwn ⟨_, rfl, rfl⟩ rfl ?_ | refine hwnu ⟨_, rfl, rfl⟩ rfl ?_ | (apply hwn1 (hd := rfl); exact q_call1A 0 7 (toArch_ok js njs); (exact gy0); rfl) | (apply hwn1 (hd := rfl); exact q_call1A 10 7 (toArch_ok js njs); (exact gy0); rfl) | (apply hwn1 (hd := rfl); exact q_call1A 20 7 (toArch_ok js njs); (exact gy0); rfl) | (apply hwn1 (hd := rfl); exact q_call1A 30 7 (toLoadS_ok ls nls); (exact gy0); rfl) | (apply hwn1 (hd := rfl); exact q_call1A 40 7 (toLoadS_ok ls nls); (exact gy0); rfl) | (apply hwn1 (hd := rfl); exact q_call1A 50 7 (toLoadS_ok ls nls); (exact gy0); rfl) | refine hwi rfl rfl List.not_mem_nil rfl rfl rfl rfl rfl ?_)))))
          refine Exists.intro _ ⟨Weak.refl _, Exists.intro _ ⟨resA_tmp rfl rfl, ?_, rfl⟩⟩
          rfl
    · rw [if_neg hb1] at hsz1
      (repeat (first | refine WL_nil ?_ | (apply wl0 (hd := rfl); (first | exact qv0 | exact QV_bne Tryz.underlying4 rfl rfl | exact QV_beq Tryz.underlying4 rfl rfl | exact qv1 | exact q_callA (hsz0)); (exact gy0)) | (apply wlb (hd := rfl); (first | exact q_box rfl rfl rfl | exact q_alloc); (exact gy0); rfl) | refine wln ⟨_, rfl, rfl⟩ rfl ?_ | refine wlnu ⟨_, rfl, rfl⟩ rfl ?_ | refine wst rfl rfl rfl List.not_mem_nil rfl rfl rfl rfl rfl rfl ?_ | refine W_seq ?_ | refine W_condT rfl ?_ | refine W_condF rfl ?_ | refine W_region ?_ | refine W_skip ?_ | refine W_ret ?_ | refine W_block ?_ | refine W_exit ?_))
      (refine W_cond rfl (fun hc => ?_) (fun hc => ?_))
      · simp at hc; omega
      · skip
        (repeat (first | refine WL_nil ?_ | (apply wl0 (hd := rfl); (first | exact qv0 | exact QV_bne Tryz.underlying4 rfl rfl | exact QV_beq Tryz.underlying4 rfl rfl | exact qv1 | exact q_callA (hsz1)); (exact gy0)) | (apply wlb (hd := rfl); (first | exact q_box rfl rfl rfl | exact q_alloc); (exact gy0); rfl) | refine wln ⟨_, rfl, rfl⟩ rfl ?_ | refine wlnu ⟨_, rfl, rfl⟩ rfl ?_ | refine wst rfl rfl rfl List.not_mem_nil rfl rfl rfl rfl rfl rfl ?_ | refine W_seq ?_ | refine W_condT rfl ?_ | refine W_condF rfl ?_ | refine W_region ?_ | refine W_skip ?_ | refine W_ret ?_ | refine W_block ?_ | refine W_exit ?_))
        refine Exists.intro _ ⟨Weak.refl _, Exists.intro _ ⟨resA_tmp rfl rfl, ?_, rfl⟩⟩
        rfl
  · rw [if_neg hb0] at hsz0
    (repeat (first | refine WL_nil ?_ | (apply wl0 (hd := rfl); (first | exact qv0 | exact QV_bne Tryz.underlying4 rfl rfl | exact QV_beq Tryz.underlying4 rfl rfl | exact qv1 | exact q_callA (hsz0)); (exact gy0)) | (apply wlb (hd := rfl); (first | exact q_box rfl rfl rfl | exact q_alloc); (exact gy0); rfl) | refine wln ⟨_, rfl, rfl⟩ rfl ?_ | refine wlnu ⟨_, rfl, rfl⟩ rfl ?_ | refine wst rfl rfl rfl List.not_mem_nil rfl rfl rfl rfl rfl rfl ?_ | refine W_seq ?_ | refine W_condT rfl ?_ | refine W_condF rfl ?_ | refine W_region ?_ | refine W_skip ?_ | refine W_ret ?_ | refine W_block ?_ | refine W_exit ?_))
    refine Exists.intro _ ⟨Weak.refl _, Exists.intro _ ⟨resA_tmp rfl rfl, ?_, rfl⟩⟩
    rfl

end Go.Proofs.YtkieepmkcaipaaaGreat
