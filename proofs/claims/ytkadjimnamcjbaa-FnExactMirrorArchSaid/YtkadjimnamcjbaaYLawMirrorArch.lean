/- The walk of the law on MirrorArch. -/
import Derived.Test.YtkadjimnamcjbaaYAMa
import Derived.Test.YtkadjimnamcjbaaYAPn
import Derived.Test.YtkadjimnamcjbaaYAMp
import Derived.Test.YtkadjimnamcjbaaYAO
namespace Go.Proofs.Ytkadjimnamcjbaa
open Go.ChangeShapes Go.WideShapes Go.ChangeAt Go.RowKit Go.Deep Go.Eng
set_option maxRecDepth 100000
attribute [local irreducible] QV TV WL HW W CallOk Weak

set_option maxHeartbeats 4000000 in
theorem law_MirrorArch_no (js : List Jt) (x : Int) (ljs : js.length ≤ 9223372036854775807) (hb0 : (js.length : Int) ≤ 1048576) (hst : marB x js = false) : CallOk Try.prog 7 [.agg [slJt js], vi x] (fun r => r = vb true) := by
  have hsz0 := szArch_ok js (1048576) (by omega) ljs
  rw [if_pos hb0] at hsz0
  have njs : js.length ≤ 1048576 := by omega
  have hdjs := callOk_dat (toArch_ok js njs) rfl
  have hqjs := eqArch_ok js njs
  have hmjs := markArch_ok js (1) njs (by omega)
  have h1 := mirrorArch_no js x njs hst
  have h2 := implMirrorArch_no js x njs hst
  have hq := eqArch_ok [] (by simp)
  have hmr := markArch_no 1
  have hhr := heldArch_ok 0 1 (by omega) (by omega)
  have hk0 : abin .lss .i64 (1 + 4 * js.length) 0 = some (.bool false) := by simp [abin]; omega
  refine callOk Try.func7 Try.ntmps7 Try.results7 rfl rfl rfl fun B w0 I0 => ?_
  (repeat (first | refine WL_nil ?_ | (apply wl0 (hd := rfl); (first | exact qv0 | exact qv1 | exact q_callA (hsz0)); (exact gy0)) | (apply wlb (hd := rfl); (first | exact q_box rfl rfl rfl | exact q_alloc); (exact gy0); rfl) | refine wln ⟨_, rfl, rfl⟩ rfl ?_ | refine wlnu ⟨_, rfl, rfl⟩ rfl ?_ | refine wst rfl rfl rfl List.not_mem_nil rfl rfl rfl rfl rfl rfl ?_ | refine W_seq ?_ | refine W_condT rfl ?_ | refine W_condF rfl ?_ | refine W_region ?_ | refine W_skip ?_ | refine W_ret ?_ | refine W_block ?_ | refine W_exit ?_))
  (refine W_cond rfl (fun hc => ?_) (fun hc => ?_))
  · simp at hc; omega
  · skip
    (repeat (first | refine WL_nil ?_ | (apply wl0 (hd := rfl); (first | exact qv0 | exact qv1 | exact q_callA (hdjs)); (exact gy0)) | (apply wlb (hd := rfl); (first | exact q_box rfl rfl rfl | exact q_alloc); (exact gy0); rfl) | refine wln ⟨_, rfl, rfl⟩ rfl ?_ | refine wlnu ⟨_, rfl, rfl⟩ rfl ?_ | refine wst rfl rfl rfl List.not_mem_nil rfl rfl rfl rfl rfl rfl ?_ | refine W_seq ?_ | refine W_condT rfl ?_ | refine W_condF rfl ?_ | refine W_region ?_ | refine W_skip ?_ | refine W_ret ?_ | refine W_block ?_ | refine W_exit ?_))
    (repeat (first | refine WL_nil ?_ | (apply wl0 (hd := rfl); (first | exact qv0 | exact qv1 | exact q_callA (h1) | exact q_callSA (h2) | exact q_callSA (hq) | exact q_callA (hmr) | exact q_callSA (hhr) | exact q_callA (h2)); (exact gy0)) | (apply wlb (hd := rfl); (first | exact q_box rfl rfl rfl | exact q_alloc); (exact gy0); rfl) | refine wln ⟨_, rfl, rfl⟩ rfl ?_ | refine wlnu ⟨_, rfl, rfl⟩ rfl ?_ | refine wst rfl rfl rfl List.not_mem_nil rfl rfl rfl rfl rfl rfl ?_ | refine wlnew [(2000007, 3000007)] (toArch_new js njs) rfl rfl rfl rfl (by (repeat' (first | exact AllPl.nil | refine AllPl.cons (map_plainB (fun _ => rfl)) ?_)); first | done | fail "open") rfl (by (repeat' (first | exact LeS.nil | refine LeS.v ?_ | refine LeS.sl ?_ | refine LeS.own ?_ | refine LeS.arr rfl (by first | exact len_map | exact len_mks) (map_lens (fun _ => rfl)) (map_plainB (fun _ => rfl)) ?_ | refine LeS.nilS ?_ | refine LeS.agg ?_ ?_)); first | done | fail "open") rfl rfl ?_ | refine W_seq ?_ | refine W_condT rfl ?_ | refine W_condF rfl ?_ | refine W_region ?_ | refine W_skip ?_ | refine W_ret ?_ | refine W_block ?_ | refine W_exit ?_))
    (repeat (first | refine WL_nil ?_ | (apply wl0 (hd := rfl); (first | exact QV_bin rfl rfl hk0 | exact q_neS rfl rfl rfl | exact q_neB Try.underlying4 rfl rfl rfl | exact qv0 | exact qv1 | exact q_callA (hdjs) | exact q_callSA (hqjs) | exact q_callA (h1) | exact q_callSA (h2) | exact q_callSA (hq) | exact q_callA (hmr) | exact q_callSA (hhr) | exact q_callA (h2)); (exact gy0)) | (apply wlb (hd := rfl); (first | exact q_box rfl rfl rfl | exact q_alloc); (exact gy0); rfl) | refine wln ⟨_, rfl, rfl⟩ rfl ?_ | refine wlnu ⟨_, rfl, rfl⟩ rfl ?_ | refine wst rfl rfl rfl List.not_mem_nil rfl rfl rfl rfl rfl rfl ?_ | refine wlmk (n := 3000007) (hmjs) moreNil rfl (by (repeat' (first | exact MkN.nil | refine MkN.v ?_ | refine MkN.arr ?_ | refine MkN.agg ?_ ?_)); first | done | fail "open") rfl rfl (map_plainB (fun _ => rfl)) (map_plainB (fun _ => rfl)) rfl List.not_mem_nil rfl ?_ | refine W_seq ?_ | refine W_condT rfl ?_ | refine W_condF rfl ?_ | refine W_region ?_ | refine W_skip ?_ | refine W_ret ?_ | refine W_block ?_ | refine W_exit ?_ | ((first | refine wdraw 5 (by kernel_rfl) (by kernel_rfl) (by kernel_rfl) rfl ?_); (repeat (first | refine HW_nil ?_ | (apply hw0 (hd := rfl); (first | exact QV_bin rfl rfl hk0 | exact q_neS rfl rfl rfl | exact q_neB Try.underlying4 rfl rfl rfl | exact qv0 | exact qv1 | exact q_callA (hdjs) | exact q_callSA (hqjs) | exact q_callA (h1) | exact q_callSA (h2) | exact q_callSA (hq) | exact q_callA (hmr) | exact q_callSA (hhr) | exact q_callA (h2)); (exact gy0)) | (apply hwb (hd := rfl); (first | exact q_box rfl rfl rfl | exact q_allocT rfl); (exact gy0); rfl) | refine hwn ⟨_, rfl, rfl⟩ rfl ?_ | refine hwnu ⟨_, rfl, rfl⟩ rfl ?_ | refine hwi rfl rfl List.not_mem_nil rfl rfl rfl rfl rfl ?_)))))
    refine Exists.intro _ ⟨Weak.refl _, Exists.intro _ ⟨resA_tmp rfl rfl, ?_, rfl⟩⟩
    rfl
set_option maxHeartbeats 4000000 in
theorem law_MirrorArch_yes (js : List Jt) (x : Int) (ljs : js.length ≤ 9223372036854775807) (hb0 : (js.length : Int) ≤ 1048576) (hst : marB x js = true) : CallOk Try.prog 7 [.agg [slJt js], vi x] (fun r => r = vb true) := by
  have hsz0 := szArch_ok js (1048576) (by omega) ljs
  rw [if_pos hb0] at hsz0
  have njs : js.length ≤ 1048576 := by omega
  have hdjs := callOk_dat (toArch_ok js njs) rfl
  have hqjs := eqArch_ok js njs
  have hmjs := markArch_ok js (1) njs (by omega)
  have h1 := callOk_dat (mirrorArch_yes js x hst) rfl
  have h2 := implMirrorArch_yes js x hst
  have h2d := callOk_dat h2 rfl
  have hnr := marB_len hst
  have hr8 : 0 < ((mirV x js 0).map Jt.row).length := by simpa using hnr.1
  have hq := eqArch_ok (mirV x js 0) (by omega)
  have hmr := markArch_ok (mirV x js 0) 1 (by omega) (by omega)
  have hhr := heldArch_ok (mirV x js 0).length 1 (by omega) (by omega)
  have hk1 : abin .lss .i64 (1 + 4 * ((mirV x js 0).length : Int)) 0 = some (.bool false) := by simp [abin]; omega
  have hk0 : abin .lss .i64 (1 + 4 * js.length) 0 = some (.bool false) := by simp [abin]; omega
  refine callOk Try.func7 Try.ntmps7 Try.results7 rfl rfl rfl fun B w0 I0 => ?_
  (repeat (first | refine WL_nil ?_ | (apply wl0 (hd := rfl); (first | exact qv0 | exact qv1 | exact q_callA (hsz0)); (exact gy0)) | (apply wlb (hd := rfl); (first | exact q_box rfl rfl rfl | exact q_alloc); (exact gy0); rfl) | refine wln ⟨_, rfl, rfl⟩ rfl ?_ | refine wlnu ⟨_, rfl, rfl⟩ rfl ?_ | refine wst rfl rfl rfl List.not_mem_nil rfl rfl rfl rfl rfl rfl ?_ | refine W_seq ?_ | refine W_condT rfl ?_ | refine W_condF rfl ?_ | refine W_region ?_ | refine W_skip ?_ | refine W_ret ?_ | refine W_block ?_ | refine W_exit ?_))
  (refine W_cond rfl (fun hc => ?_) (fun hc => ?_))
  · simp at hc; omega
  · skip
    (repeat (first | refine WL_nil ?_ | (apply wl0 (hd := rfl); (first | exact qv0 | exact qv1 | exact q_callA (hdjs)); (exact gy0)) | (apply wlb (hd := rfl); (first | exact q_box rfl rfl rfl | exact q_alloc); (exact gy0); rfl) | refine wln ⟨_, rfl, rfl⟩ rfl ?_ | refine wlnu ⟨_, rfl, rfl⟩ rfl ?_ | refine wst rfl rfl rfl List.not_mem_nil rfl rfl rfl rfl rfl rfl ?_ | refine W_seq ?_ | refine W_condT rfl ?_ | refine W_condF rfl ?_ | refine W_region ?_ | refine W_skip ?_ | refine W_ret ?_ | refine W_block ?_ | refine W_exit ?_))
    (repeat (first | refine WL_nil ?_ | (apply wl0 (hd := rfl); (first | exact QV_bin rfl rfl hk1 | exact qv0 | exact qv1 | exact q_callA (h1) | exact q_callA (h2d) | exact q_callSA (hq) | exact q_callSA (hhr)); (exact gy0)) | (apply wlb (hd := rfl); (first | exact q_box rfl rfl rfl | exact q_alloc); (exact gy0); rfl) | refine wln ⟨_, rfl, rfl⟩ rfl ?_ | refine wlnu ⟨_, rfl, rfl⟩ rfl ?_ | refine wst rfl rfl rfl List.not_mem_nil rfl rfl rfl rfl rfl rfl ?_ | refine wlnew [(2000007, 3000007)] (toArch_new js njs) rfl rfl rfl rfl (by (repeat' (first | exact AllPl.nil | refine AllPl.cons (map_plainB (fun _ => rfl)) ?_)); first | done | fail "open") rfl (by (repeat' (first | exact LeS.nil | refine LeS.v ?_ | refine LeS.sl ?_ | refine LeS.own ?_ | refine LeS.arr rfl (by first | exact len_map | exact len_mks) (map_lens (fun _ => rfl)) (map_plainB (fun _ => rfl)) ?_ | refine LeS.nilS ?_ | refine LeS.agg ?_ ?_)); first | done | fail "open") rfl rfl ?_ | refine wlmu (n := 20) (N := 3000920) (h2) rfl hr8 (map_plainB (fun _ => rfl)) rfl (by (repeat' (first | exact LeS.nil | refine LeS.v ?_ | refine LeS.sl ?_ | refine LeS.own ?_ | refine LeS.arr rfl (by first | exact len_map | exact len_mks) (map_lens (fun _ => rfl)) (map_plainB (fun _ => rfl)) ?_ | refine LeS.nilS ?_ | refine LeS.agg ?_ ?_)); first | done | fail "open") (by first | exact MutA.own | exact MutA.agg | exact MutA.tup | exact MutA.tupS) (List.length_map _) rfl rfl (fun more3000920 hmore3000920 => ?_) | refine wlmk (n := 3000920) (hmr) hmore3000920 rfl (by (repeat' (first | exact MkN.nil | refine MkN.v ?_ | refine MkN.arr ?_ | refine MkN.agg ?_ ?_)); first | done | fail "open") rfl rfl (map_plainB (fun _ => rfl)) (map_plainB (fun _ => rfl)) rfl List.not_mem_nil rfl ?_ | refine W_seq ?_ | refine W_condT rfl ?_ | refine W_condF rfl ?_ | refine W_region ?_ | refine W_skip ?_ | refine W_ret ?_ | refine W_block ?_ | refine W_exit ?_))
    (repeat (first | refine WL_nil ?_ | (apply wl0 (hd := rfl); (first | exact QV_bin rfl rfl hk0 | exact QV_bin rfl rfl hk1 | exact q_neS rfl rfl rfl | exact q_neB Try.underlying4 rfl rfl rfl | exact qv0 | exact qv1 | exact q_callA (hdjs) | exact q_callSA (hqjs) | exact q_callA (h1) | exact q_callA (h2d) | exact q_callSA (hq) | exact q_callSA (hhr)); (exact gy0)) | (apply wlb (hd := rfl); (first | exact q_box rfl rfl rfl | exact q_alloc); (exact gy0); rfl) | refine wln ⟨_, rfl, rfl⟩ rfl ?_ | refine wlnu ⟨_, rfl, rfl⟩ rfl ?_ | refine wst rfl rfl rfl List.not_mem_nil rfl rfl rfl rfl rfl rfl ?_ | refine wlmk (n := 3000007) (hmjs) moreNil rfl (by (repeat' (first | exact MkN.nil | refine MkN.v ?_ | refine MkN.arr ?_ | refine MkN.agg ?_ ?_)); first | done | fail "open") rfl rfl (map_plainB (fun _ => rfl)) (map_plainB (fun _ => rfl)) rfl List.not_mem_nil rfl ?_ | refine wlmu (n := 20) (N := 3000920) (h2) rfl hr8 (map_plainB (fun _ => rfl)) rfl (by (repeat' (first | exact LeS.nil | refine LeS.v ?_ | refine LeS.sl ?_ | refine LeS.own ?_ | refine LeS.arr rfl (by first | exact len_map | exact len_mks) (map_lens (fun _ => rfl)) (map_plainB (fun _ => rfl)) ?_ | refine LeS.nilS ?_ | refine LeS.agg ?_ ?_)); first | done | fail "open") (by first | exact MutA.own | exact MutA.agg | exact MutA.tup | exact MutA.tupS) (List.length_map _) rfl rfl (fun more3000920 hmore3000920 => ?_) | refine wlmk (n := 3000920) (hmr) hmore3000920 rfl (by (repeat' (first | exact MkN.nil | refine MkN.v ?_ | refine MkN.arr ?_ | refine MkN.agg ?_ ?_)); first | done | fail "open") rfl rfl (map_plainB (fun _ => rfl)) (map_plainB (fun _ => rfl)) rfl List.not_mem_nil rfl ?_ | refine W_seq ?_ | refine W_condT rfl ?_ | refine W_condF rfl ?_ | refine W_region ?_ | refine W_skip ?_ | refine W_ret ?_ | refine W_block ?_ | refine W_exit ?_ | ((first | refine wdraw 5 (by kernel_rfl) (by kernel_rfl) (by kernel_rfl) rfl ?_); (repeat (first | refine HW_nil ?_ | (apply hw0 (hd := rfl); (first | exact QV_bin rfl rfl hk0 | exact QV_bin rfl rfl hk1 | exact q_neS rfl rfl rfl | exact q_neB Try.underlying4 rfl rfl rfl | exact qv0 | exact qv1 | exact q_callA (hdjs) | exact q_callSA (hqjs) | exact q_callA (h1) | exact q_callA (h2d) | exact q_callSA (hq) | exact q_callSA (hhr)); (exact gy0)) | (apply hwb (hd := rfl); (first | exact q_box rfl rfl rfl | exact q_allocT rfl); (exact gy0); rfl) | refine hwn ⟨_, rfl, rfl⟩ rfl ?_ | refine hwnu ⟨_, rfl, rfl⟩ rfl ?_ | refine hwi rfl rfl List.not_mem_nil rfl rfl rfl rfl rfl ?_)))))
    refine Exists.intro _ ⟨Weak.refl _, Exists.intro _ ⟨resA_tmp rfl rfl, ?_, rfl⟩⟩
    rfl
theorem law_FnExactMirrorArch (js : List Jt) (x : Int) (ljs : js.length ≤ 9223372036854775807) : CallOk Try.prog 7 [.agg [slJt js], vi x] (fun r => r = vb true) := by
  have hsz0 := szArch_ok js
  by_cases hb0 : (js.length : Int) ≤ 1048576
  · skip
    rcases Bool.eq_false_or_eq_true (marB x js) |>.symm with hst | hst
    · exact law_MirrorArch_no js x ljs hb0 hst
    · exact law_MirrorArch_yes js x ljs hb0 hst
  · replace hsz0 := hsz0 (1048576) (by omega) ljs
    rw [if_neg hb0] at hsz0
    refine callOk Try.func7 Try.ntmps7 Try.results7 rfl rfl rfl fun B w0 I0 => ?_
    (repeat (first | refine WL_nil ?_ | (apply wl0 (hd := rfl); (first | exact qv0 | exact qv1 | exact q_callA (hsz0)); (exact gy0)) | (apply wlb (hd := rfl); (first | exact q_box rfl rfl rfl | exact q_alloc); (exact gy0); rfl) | refine wln ⟨_, rfl, rfl⟩ rfl ?_ | refine wlnu ⟨_, rfl, rfl⟩ rfl ?_ | refine wst rfl rfl rfl List.not_mem_nil rfl rfl rfl rfl rfl rfl ?_ | refine W_seq ?_ | refine W_condT rfl ?_ | refine W_condF rfl ?_ | refine W_region ?_ | refine W_skip ?_ | refine W_ret ?_ | refine W_block ?_ | refine W_exit ?_))
    refine Exists.intro _ ⟨Weak.refl _, Exists.intro _ ⟨resA_tmp rfl rfl, ?_, rfl⟩⟩
    rfl
end Go.Proofs.Ytkadjimnamcjbaa
