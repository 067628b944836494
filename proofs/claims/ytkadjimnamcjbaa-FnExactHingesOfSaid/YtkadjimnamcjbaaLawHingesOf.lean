/- The walk of the law on HingesOf. -/
import Derived.Test.YtkadjimnamcjbaaAHo
import Derived.Test.YtkadjimnamcjbaaAPm
import Derived.Test.YtkadjimnamcjbaaAHm
import Derived.Test.YtkadjimnamcjbaaAO
namespace Go.Proofs.Ytkadjimnamcjbaa
open Go.ChangeShapes Go.WideShapes Go.ChangeAt Go.RowKit Go.Deep Go.Eng
set_option maxRecDepth 100000
attribute [local irreducible] QV TV WL HW W CallOk Weak

set_option maxHeartbeats 4000000 in
theorem law_HingesOf_no (js : List Jt) (p : Pf) (ljs : js.length ≤ 9223372036854775807) (lp : p.rows.length ≤ 9223372036854775807 ∧ p.facs.length ≤ 9223372036854775807) (hb0 : (js.length : Int) ≤ 1048576) (hb1 : (p.len : Int) ≤ 1048576 - js.length) (hst : hgsB js p.rows = false ∨ hgL (2 * js.length) p.rows = []) : CallOk Try.prog 10 [.agg [slJt js], p.av] (fun r => r = vb true) := by
  have hsz0 := szArch_ok js (1048576) (by omega) ljs
  rw [if_pos hb0] at hsz0
  have njs : js.length ≤ 1048576 := by omega
  have hsz1 := szProof_ok p (1048576 - js.length) (by omega) lp
  rw [if_pos hb1] at hsz1
  have np : p.rows.length ≤ 1048576 ∧ p.facs.length ≤ 1048576 := by unfold Pf.len at hb1; omega
  have hlenp : p.len = p.rows.length + p.facs.length := rfl
  have hdjs := callOk_dat (toArch_ok js njs) rfl
  have hqjs := eqArch_ok js njs
  have hmjs := markArch_ok js (1) njs (by omega)
  have hdp := toProof_ok p np.1 np.2
  have hqp := eqProof_ok p np.1 np.2
  have hmp := markProof_ok p (1 + 4 * js.length) np.1 np.2 (by omega)
  have h1 := hingesOf_ok js p.rows p.facs njs np.1
  have hA : hgA js p.rows = [] := by unfold hgA; rcases hst with h | h <;> simp [h]
  have h2 : CallOk Try.prog 65 [.agg [slJt js], .agg [slI p.rows, slI p.facs]] (fun r => r = slHg []) := by have := implHingesOf_ok js p.rows p.facs njs np.1; rwa [hA] at this
  rw [hA] at h1
  have hq := eqHingeS_ok [] (by simp)
  have hmr := markHingeS_no 1
  have hhr := heldHingeS_ok 0 1 (by omega) (by omega)
  have hk0 : abin .lss .i64 (1 + 4 * js.length + 1 * p.rows.length + 1 * p.facs.length) 0 = some (.bool false) := by simp [abin]; omega
  refine callOk Try.func10 Try.ntmps10 Try.results10 rfl rfl rfl fun B w0 I0 => ?_
  (repeat (first | refine WL_nil ?_ | (apply wl0 (hd := rfl); (first | exact qv0 | exact qv1 | exact q_callA (hsz0) | exact q_callA (hsz1)); (exact gy0)) | (apply wlb (hd := rfl); (first | exact q_box rfl rfl rfl | exact q_alloc); (exact gy0); rfl) | refine wln ⟨_, rfl, rfl⟩ rfl ?_ | refine wst rfl rfl rfl List.not_mem_nil rfl rfl rfl rfl rfl rfl ?_ | refine W_seq ?_ | refine W_condT rfl ?_ | refine W_condF rfl ?_ | refine W_region ?_ | refine W_skip ?_ | refine W_ret ?_ | refine W_block ?_ | refine W_exit ?_))
  (refine W_cond rfl (fun hc => ?_) (fun hc => ?_))
  · simp at hc; omega
  · skip
    (repeat (first | refine WL_nil ?_ | (apply wl0 (hd := rfl); (first | exact qv0 | exact qv1 | exact q_callA (hsz0) | exact q_callA (hsz1)); (exact gy0)) | (apply wlb (hd := rfl); (first | exact q_box rfl rfl rfl | exact q_alloc); (exact gy0); rfl) | refine wln ⟨_, rfl, rfl⟩ rfl ?_ | refine wst rfl rfl rfl List.not_mem_nil rfl rfl rfl rfl rfl rfl ?_ | refine W_seq ?_ | refine W_condT rfl ?_ | refine W_condF rfl ?_ | refine W_region ?_ | refine W_skip ?_ | refine W_ret ?_ | refine W_block ?_ | refine W_exit ?_))
    (refine W_cond rfl (fun hc => ?_) (fun hc => ?_))
    · simp at hc; omega
    · skip
      (repeat (first | refine WL_nil ?_ | (apply wl0 (hd := rfl); (first | exact qv0 | exact qv1); (exact gy0)) | (apply wlb (hd := rfl); (first | exact q_box rfl rfl rfl | exact q_alloc); (exact gy0); rfl) | refine wln ⟨_, rfl, rfl⟩ rfl ?_ | refine wst rfl rfl rfl List.not_mem_nil rfl rfl rfl rfl rfl rfl ?_ | refine W_seq ?_ | refine W_condT rfl ?_ | refine W_condF rfl ?_ | refine W_region ?_ | refine W_skip ?_ | refine W_ret ?_ | refine W_block ?_ | refine W_exit ?_))
      refine wdraw 6 (by kernel_rfl) (by kernel_rfl) (by kernel_rfl) rfl ?_
      (repeat (first | refine HW_nil ?_ | (apply hw0 (hd := rfl); (first | exact qv0 | exact qv1 | exact q_callA (hdjs) | exact q_callA (hdp) | exact q_callA (h1) | exact q_callSA (h2) | exact q_callSA (hq) | exact q_callA (hmr) | exact q_callSA (hhr) | exact q_callA (h2)); (exact gy0)) | (apply hwb (hd := rfl); (first | exact q_box rfl rfl rfl | exact q_allocT rfl); (exact gy0); rfl) | refine hwn ⟨_, rfl, rfl⟩ rfl ?_ | refine hwi rfl rfl List.not_mem_nil rfl rfl rfl rfl rfl ?_))
      (repeat (first | refine WL_nil ?_ | (apply wl0 (hd := rfl); (first | exact qv0 | exact qv1 | exact q_callA (h1) | exact q_callSA (h2) | exact q_callSA (hq) | exact q_callA (hmr) | exact q_callSA (hhr) | exact q_callA (h2)); (exact gy0)) | (apply wlb (hd := rfl); (first | exact q_box rfl rfl rfl | exact q_alloc); (exact gy0); rfl) | refine wln ⟨_, rfl, rfl⟩ rfl ?_ | refine wst rfl rfl rfl List.not_mem_nil rfl rfl rfl rfl rfl rfl ?_ | refine wlnew [(2000007, 3000007)] (toArch_new js njs) rfl rfl rfl rfl (by (repeat' (first | exact AllPl.nil | refine AllPl.cons (map_plainB (fun _ => rfl)) ?_)); first | done | fail "open") rfl (by (repeat' (first | exact LeS.nil | refine LeS.v ?_ | refine LeS.sl ?_ | refine LeS.own ?_ | refine LeS.arr rfl (by first | exact len_map | exact len_mks) (map_lens (fun _ => rfl)) (map_plainB (fun _ => rfl)) ?_ | refine LeS.nilS ?_ | refine LeS.agg ?_ ?_)); first | done | fail "open") rfl rfl ?_ | refine wlnew [(2000007, 3000207), (2000017, 3000217)] (toProof_new p np.1 np.2) rfl rfl rfl rfl (by (repeat' (first | exact AllPl.nil | refine AllPl.cons (map_plainB (fun _ => rfl)) ?_)); first | done | fail "open") rfl (by (repeat' (first | exact LeS.nil | refine LeS.v ?_ | refine LeS.sl ?_ | refine LeS.own ?_ | refine LeS.arr rfl (by first | exact len_map | exact len_mks) (map_lens (fun _ => rfl)) (map_plainB (fun _ => rfl)) ?_ | refine LeS.nilS ?_ | refine LeS.agg ?_ ?_)); first | done | fail "open") rfl rfl ?_ | refine W_seq ?_ | refine W_condT rfl ?_ | refine W_condF rfl ?_ | refine W_region ?_ | refine W_skip ?_ | refine W_ret ?_ | refine W_block ?_ | refine W_exit ?_))
      (repeat (first | refine WL_nil ?_ | (apply wl0 (hd := rfl); (first | exact QV_bin rfl rfl hk0 | exact q_neS rfl rfl rfl | exact q_neB Try.underlying4 rfl rfl rfl | exact qv0 | exact qv1 | exact q_callA (hdjs) | exact q_callSA (hqjs) | exact q_callA (hdp) | exact q_callSA (hqp) | exact q_callA (h1) | exact q_callSA (h2) | exact q_callSA (hq) | exact q_callA (hmr) | exact q_callSA (hhr) | exact q_callA (h2)); (exact gy0)) | (apply wlb (hd := rfl); (first | exact q_box rfl rfl rfl | exact q_alloc); (exact gy0); rfl) | refine wln ⟨_, rfl, rfl⟩ rfl ?_ | refine wst rfl rfl rfl List.not_mem_nil rfl rfl rfl rfl rfl rfl ?_ | refine wlmk (n := 3000007) (hmjs) moreNil rfl (by (repeat' (first | exact MkN.nil | refine MkN.v ?_ | refine MkN.arr ?_ | refine MkN.agg ?_ ?_)); first | done | fail "open") rfl rfl (map_plainB (fun _ => rfl)) (map_plainB (fun _ => rfl)) rfl List.not_mem_nil rfl ?_ | refine wlmk2 (n := 3000207) (m := 3000217) (hmp) moreNil moreNil rfl (by (repeat' (first | exact MkN2.nil | refine MkN2.v ?_ | refine MkN2.arr ?_ | refine MkN2.arr2 ?_ | refine MkN2.agg ?_ ?_)); first | done | fail "open") rfl rfl rfl rfl rfl (map_plainB (fun _ => rfl)) (map_plainB (fun _ => rfl)) (map_plainB (fun _ => rfl)) (map_plainB (fun _ => rfl)) rfl rfl List.not_mem_nil List.not_mem_nil rfl ?_ | refine W_seq ?_ | refine W_condT rfl ?_ | refine W_condF rfl ?_ | refine W_region ?_ | refine W_skip ?_ | refine W_ret ?_ | refine W_block ?_ | refine W_exit ?_ | ((first | refine wdraw 5 (by kernel_rfl) (by kernel_rfl) (by kernel_rfl) rfl ?_ | refine wdraw 6 (by kernel_rfl) (by kernel_rfl) (by kernel_rfl) rfl ?_); (repeat (first | refine HW_nil ?_ | (apply hw0 (hd := rfl); (first | exact QV_bin rfl rfl hk0 | exact q_neS rfl rfl rfl | exact q_neB Try.underlying4 rfl rfl rfl | exact qv0 | exact qv1 | exact q_callA (hdjs) | exact q_callSA (hqjs) | exact q_callA (hdp) | exact q_callSA (hqp) | exact q_callA (h1) | exact q_callSA (h2) | exact q_callSA (hq) | exact q_callA (hmr) | exact q_callSA (hhr) | exact q_callA (h2)); (exact gy0)) | (apply hwb (hd := rfl); (first | exact q_box rfl rfl rfl | exact q_allocT rfl); (exact gy0); rfl) | refine hwn ⟨_, rfl, rfl⟩ rfl ?_ | refine hwi rfl rfl List.not_mem_nil rfl rfl rfl rfl rfl ?_)))))
      refine Exists.intro _ ⟨Weak.refl _, Exists.intro _ ⟨resA_tmp rfl rfl, ?_, rfl⟩⟩
      rfl
set_option maxHeartbeats 4000000 in
theorem law_HingesOf_yes (js : List Jt) (p : Pf) (ljs : js.length ≤ 9223372036854775807) (lp : p.rows.length ≤ 9223372036854775807 ∧ p.facs.length ≤ 9223372036854775807) (hb0 : (js.length : Int) ≤ 1048576) (hb1 : (p.len : Int) ≤ 1048576 - js.length) (hst : hgsB js p.rows = true ∧ 0 < (hgL (2 * js.length) p.rows).length) : CallOk Try.prog 10 [.agg [slJt js], p.av] (fun r => r = vb true) := by
  have hsz0 := szArch_ok js (1048576) (by omega) ljs
  rw [if_pos hb0] at hsz0
  have njs : js.length ≤ 1048576 := by omega
  have hsz1 := szProof_ok p (1048576 - js.length) (by omega) lp
  rw [if_pos hb1] at hsz1
  have np : p.rows.length ≤ 1048576 ∧ p.facs.length ≤ 1048576 := by unfold Pf.len at hb1; omega
  have hlenp : p.len = p.rows.length + p.facs.length := rfl
  have hdjs := callOk_dat (toArch_ok js njs) rfl
  have hqjs := eqArch_ok js njs
  have hmjs := markArch_ok js (1) njs (by omega)
  have hdp := toProof_ok p np.1 np.2
  have hqp := eqProof_ok p np.1 np.2
  have hmp := markProof_ok p (1 + 4 * js.length) np.1 np.2 (by omega)
  have h1 := hingesOf_ok js p.rows p.facs njs np.1
  have h2 := implHingesOf_yes js p.rows p.facs njs np.1
  rw [hgA, hst.1, cond_true] at h1
  rw [hst.1, cond_true] at h2
  have h2d := callOk_dat h2 rfl
  have hnr : (hgL (2 * js.length) p.rows).length ≤ 1048576 := Nat.le_trans (hgL_len _ _) np.1
  have hr8 : 0 < ((hgL (2 * js.length) p.rows).map Hg.row).length := by simpa using hst.2
  have hq := eqHingeS_ok (hgL (2 * js.length) p.rows) hnr
  have hmr := markHingeS_ok (hgL (2 * js.length) p.rows) 1 hnr (by omega)
  have hhr := heldHingeS_ok (hgL (2 * js.length) p.rows).length 1 hnr (by omega)
  have hk1 : abin .lss .i64 (1 + 2 * ((hgL (2 * js.length) p.rows).length : Int)) 0 = some (.bool false) := by simp [abin]; omega
  have hk0 : abin .lss .i64 (1 + 4 * js.length + 1 * p.rows.length + 1 * p.facs.length) 0 = some (.bool false) := by simp [abin]; omega
  refine callOk Try.func10 Try.ntmps10 Try.results10 rfl rfl rfl fun B w0 I0 => ?_
  (repeat (first | refine WL_nil ?_ | (apply wl0 (hd := rfl); (first | exact qv0 | exact qv1 | exact q_callA (hsz0) | exact q_callA (hsz1)); (exact gy0)) | (apply wlb (hd := rfl); (first | exact q_box rfl rfl rfl | exact q_alloc); (exact gy0); rfl) | refine wln ⟨_, rfl, rfl⟩ rfl ?_ | refine wst rfl rfl rfl List.not_mem_nil rfl rfl rfl rfl rfl rfl ?_ | refine W_seq ?_ | refine W_condT rfl ?_ | refine W_condF rfl ?_ | refine W_region ?_ | refine W_skip ?_ | refine W_ret ?_ | refine W_block ?_ | refine W_exit ?_))
  (refine W_cond rfl (fun hc => ?_) (fun hc => ?_))
  · simp at hc; omega
  · skip
    (repeat (first | refine WL_nil ?_ | (apply wl0 (hd := rfl); (first | exact qv0 | exact qv1 | exact q_callA (hsz0) | exact q_callA (hsz1)); (exact gy0)) | (apply wlb (hd := rfl); (first | exact q_box rfl rfl rfl | exact q_alloc); (exact gy0); rfl) | refine wln ⟨_, rfl, rfl⟩ rfl ?_ | refine wst rfl rfl rfl List.not_mem_nil rfl rfl rfl rfl rfl rfl ?_ | refine W_seq ?_ | refine W_condT rfl ?_ | refine W_condF rfl ?_ | refine W_region ?_ | refine W_skip ?_ | refine W_ret ?_ | refine W_block ?_ | refine W_exit ?_))
    (refine W_cond rfl (fun hc => ?_) (fun hc => ?_))
    · simp at hc; omega
    · skip
      (repeat (first | refine WL_nil ?_ | (apply wl0 (hd := rfl); (first | exact qv0 | exact qv1); (exact gy0)) | (apply wlb (hd := rfl); (first | exact q_box rfl rfl rfl | exact q_alloc); (exact gy0); rfl) | refine wln ⟨_, rfl, rfl⟩ rfl ?_ | refine wst rfl rfl rfl List.not_mem_nil rfl rfl rfl rfl rfl rfl ?_ | refine W_seq ?_ | refine W_condT rfl ?_ | refine W_condF rfl ?_ | refine W_region ?_ | refine W_skip ?_ | refine W_ret ?_ | refine W_block ?_ | refine W_exit ?_))
      refine wdraw 6 (by kernel_rfl) (by kernel_rfl) (by kernel_rfl) rfl ?_
      (repeat (first | refine HW_nil ?_ | (apply hw0 (hd := rfl); (first | exact QV_bin rfl rfl hk1 | exact qv0 | exact qv1 | exact q_callA (hdjs) | exact q_callA (hdp) | exact q_callA (h1) | exact q_callSA (hq) | exact q_callSA (hhr) | exact q_callA (h2d)); (exact gy0)) | (apply hwb (hd := rfl); (first | exact q_box rfl rfl rfl | exact q_allocT rfl); (exact gy0); rfl) | refine hwn ⟨_, rfl, rfl⟩ rfl ?_ | refine hwi rfl rfl List.not_mem_nil rfl rfl rfl rfl rfl ?_))
      (repeat (first | refine WL_nil ?_ | (apply wl0 (hd := rfl); (first | exact QV_bin rfl rfl hk1 | exact qv0 | exact qv1 | exact q_callA (h1) | exact q_callSA (hq) | exact q_callSA (hhr) | exact q_callA (h2d)); (exact gy0)) | (apply wlb (hd := rfl); (first | exact q_box rfl rfl rfl | exact q_alloc); (exact gy0); rfl) | refine wln ⟨_, rfl, rfl⟩ rfl ?_ | refine wst rfl rfl rfl List.not_mem_nil rfl rfl rfl rfl rfl rfl ?_ | refine wlnew [(2000007, 3000007)] (toArch_new js njs) rfl rfl rfl rfl (by (repeat' (first | exact AllPl.nil | refine AllPl.cons (map_plainB (fun _ => rfl)) ?_)); first | done | fail "open") rfl (by (repeat' (first | exact LeS.nil | refine LeS.v ?_ | refine LeS.sl ?_ | refine LeS.own ?_ | refine LeS.arr rfl (by first | exact len_map | exact len_mks) (map_lens (fun _ => rfl)) (map_plainB (fun _ => rfl)) ?_ | refine LeS.nilS ?_ | refine LeS.agg ?_ ?_)); first | done | fail "open") rfl rfl ?_ | refine wlnew [(2000007, 3000207), (2000017, 3000217)] (toProof_new p np.1 np.2) rfl rfl rfl rfl (by (repeat' (first | exact AllPl.nil | refine AllPl.cons (map_plainB (fun _ => rfl)) ?_)); first | done | fail "open") rfl (by (repeat' (first | exact LeS.nil | refine LeS.v ?_ | refine LeS.sl ?_ | refine LeS.own ?_ | refine LeS.arr rfl (by first | exact len_map | exact len_mks) (map_lens (fun _ => rfl)) (map_plainB (fun _ => rfl)) ?_ | refine LeS.nilS ?_ | refine LeS.agg ?_ ?_)); first | done | fail "open") rfl rfl ?_ | refine wlmu (n := 6) (N := 3000906) (h2) rfl hr8 (map_plainB (fun _ => rfl)) rfl (by (repeat' (first | exact LeS.nil | refine LeS.v ?_ | refine LeS.sl ?_ | refine LeS.own ?_ | refine LeS.arr rfl (by first | exact len_map | exact len_mks) (map_lens (fun _ => rfl)) (map_plainB (fun _ => rfl)) ?_ | refine LeS.nilS ?_ | refine LeS.agg ?_ ?_)); first | done | fail "open") (by first | exact MutA.own | exact MutA.agg | exact MutA.tup | exact MutA.tupS) (List.length_map _) rfl rfl (fun more3000906 hmore3000906 => ?_) | refine wlmk (n := 3000906) (hmr) hmore3000906 rfl (by (repeat' (first | exact MkN.nil | refine MkN.v ?_ | refine MkN.arr ?_ | refine MkN.agg ?_ ?_)); first | done | fail "open") rfl rfl (map_plainB (fun _ => rfl)) (map_plainB (fun _ => rfl)) rfl List.not_mem_nil rfl ?_ | refine W_seq ?_ | refine W_condT rfl ?_ | refine W_condF rfl ?_ | refine W_region ?_ | refine W_skip ?_ | refine W_ret ?_ | refine W_block ?_ | refine W_exit ?_))
      (repeat (first | refine WL_nil ?_ | (apply wl0 (hd := rfl); (first | exact QV_bin rfl rfl hk0 | exact QV_bin rfl rfl hk1 | exact q_neS rfl rfl rfl | exact q_neB Try.underlying4 rfl rfl rfl | exact qv0 | exact qv1 | exact q_callA (hdjs) | exact q_callSA (hqjs) | exact q_callA (hdp) | exact q_callSA (hqp) | exact q_callA (h1) | exact q_callSA (hq) | exact q_callSA (hhr) | exact q_callA (h2d)); (exact gy0)) | (apply wlb (hd := rfl); (first | exact q_box rfl rfl rfl | exact q_alloc); (exact gy0); rfl) | refine wln ⟨_, rfl, rfl⟩ rfl ?_ | refine wst rfl rfl rfl List.not_mem_nil rfl rfl rfl rfl rfl rfl ?_ | refine wlmk (n := 3000007) (hmjs) moreNil rfl (by (repeat' (first | exact MkN.nil | refine MkN.v ?_ | refine MkN.arr ?_ | refine MkN.agg ?_ ?_)); first | done | fail "open") rfl rfl (map_plainB (fun _ => rfl)) (map_plainB (fun _ => rfl)) rfl List.not_mem_nil rfl ?_ | refine wlmk2 (n := 3000207) (m := 3000217) (hmp) moreNil moreNil rfl (by (repeat' (first | exact MkN2.nil | refine MkN2.v ?_ | refine MkN2.arr ?_ | refine MkN2.arr2 ?_ | refine MkN2.agg ?_ ?_)); first | done | fail "open") rfl rfl rfl rfl rfl (map_plainB (fun _ => rfl)) (map_plainB (fun _ => rfl)) (map_plainB (fun _ => rfl)) (map_plainB (fun _ => rfl)) rfl rfl List.not_mem_nil List.not_mem_nil rfl ?_ | refine wlmu (n := 6) (N := 3000906) (h2) rfl hr8 (map_plainB (fun _ => rfl)) rfl (by (repeat' (first | exact LeS.nil | refine LeS.v ?_ | refine LeS.sl ?_ | refine LeS.own ?_ | refine LeS.arr rfl (by first | exact len_map | exact len_mks) (map_lens (fun _ => rfl)) (map_plainB (fun _ => rfl)) ?_ | refine LeS.nilS ?_ | refine LeS.agg ?_ ?_)); first | done | fail "open") (by first | exact MutA.own | exact MutA.agg | exact MutA.tup | exact MutA.tupS) (List.length_map _) rfl rfl (fun more3000906 hmore3000906 => ?_) | refine wlmk (n := 3000906) (hmr) hmore3000906 rfl (by (repeat' (first | exact MkN.nil | refine MkN.v ?_ | refine MkN.arr ?_ | refine MkN.agg ?_ ?_)); first | done | fail "open") rfl rfl (map_plainB (fun _ => rfl)) (map_plainB (fun _ => rfl)) rfl List.not_mem_nil rfl ?_ | refine W_seq ?_ | refine W_condT rfl ?_ | refine W_condF rfl ?_ | refine W_region ?_ | refine W_skip ?_ | refine W_ret ?_ | refine W_block ?_ | refine W_exit ?_ | ((first | refine wdraw 5 (by kernel_rfl) (by kernel_rfl) (by kernel_rfl) rfl ?_ | refine wdraw 6 (by kernel_rfl) (by kernel_rfl) (by kernel_rfl) rfl ?_); (repeat (first | refine HW_nil ?_ | (apply hw0 (hd := rfl); (first | exact QV_bin rfl rfl hk0 | exact QV_bin rfl rfl hk1 | exact q_neS rfl rfl rfl | exact q_neB Try.underlying4 rfl rfl rfl | exact qv0 | exact qv1 | exact q_callA (hdjs) | exact q_callSA (hqjs) | exact q_callA (hdp) | exact q_callSA (hqp) | exact q_callA (h1) | exact q_callSA (hq) | exact q_callSA (hhr) | exact q_callA (h2d)); (exact gy0)) | (apply hwb (hd := rfl); (first | exact q_box rfl rfl rfl | exact q_allocT rfl); (exact gy0); rfl) | refine hwn ⟨_, rfl, rfl⟩ rfl ?_ | refine hwi rfl rfl List.not_mem_nil rfl rfl rfl rfl rfl ?_)))))
      refine Exists.intro _ ⟨Weak.refl _, Exists.intro _ ⟨resA_tmp rfl rfl, ?_, rfl⟩⟩
      rfl
theorem law_FnExactHingesOf (js : List Jt) (p : Pf) (ljs : js.length ≤ 9223372036854775807) (lp : p.rows.length ≤ 9223372036854775807 ∧ p.facs.length ≤ 9223372036854775807) : CallOk Try.prog 10 [.agg [slJt js], p.av] (fun r => r = vb true) := by
  have hsz0 := szArch_ok js
  have hsz1 := szProof_ok p
  by_cases hb0 : (js.length : Int) ≤ 1048576
  · skip
    by_cases hb1 : (p.len : Int) ≤ 1048576 - js.length
    · skip
      rcases hg_or js p.rows with hst | hst
      · exact law_HingesOf_no js p ljs lp hb0 hb1 hst
      · exact law_HingesOf_yes js p ljs lp hb0 hb1 hst
    · replace hsz1 := hsz1 (1048576 - js.length) (by omega) lp
      rw [if_neg hb1] at hsz1
      replace hsz0 := hsz0 (1048576) (by omega) ljs
      rw [if_pos hb0] at hsz0
      refine callOk Try.func10 Try.ntmps10 Try.results10 rfl rfl rfl fun B w0 I0 => ?_
      (repeat (first | refine WL_nil ?_ | (apply wl0 (hd := rfl); (first | exact qv0 | exact qv1 | exact q_callA (hsz0)); (exact gy0)) | (apply wlb (hd := rfl); (first | exact q_box rfl rfl rfl | exact q_alloc); (exact gy0); rfl) | refine wln ⟨_, rfl, rfl⟩ rfl ?_ | refine wst rfl rfl rfl List.not_mem_nil rfl rfl rfl rfl rfl rfl ?_ | refine W_seq ?_ | refine W_condT rfl ?_ | refine W_condF rfl ?_ | refine W_region ?_ | refine W_skip ?_ | refine W_ret ?_ | refine W_block ?_ | refine W_exit ?_))
      (refine W_cond rfl (fun hc => ?_) (fun hc => ?_))
      · simp at hc; omega
      · skip
        (repeat (first | refine WL_nil ?_ | (apply wl0 (hd := rfl); (first | exact qv0 | exact qv1 | exact q_callA (hsz1)); (exact gy0)) | (apply wlb (hd := rfl); (first | exact q_box rfl rfl rfl | exact q_alloc); (exact gy0); rfl) | refine wln ⟨_, rfl, rfl⟩ rfl ?_ | refine wst rfl rfl rfl List.not_mem_nil rfl rfl rfl rfl rfl rfl ?_ | refine W_seq ?_ | refine W_condT rfl ?_ | refine W_condF rfl ?_ | refine W_region ?_ | refine W_skip ?_ | refine W_ret ?_ | refine W_block ?_ | refine W_exit ?_))
        refine Exists.intro _ ⟨Weak.refl _, Exists.intro _ ⟨resA_tmp rfl rfl, ?_, rfl⟩⟩
        rfl
  · replace hsz0 := hsz0 (1048576) (by omega) ljs
    rw [if_neg hb0] at hsz0
    refine callOk Try.func10 Try.ntmps10 Try.results10 rfl rfl rfl fun B w0 I0 => ?_
    (repeat (first | refine WL_nil ?_ | (apply wl0 (hd := rfl); (first | exact qv0 | exact qv1 | exact q_callA (hsz0)); (exact gy0)) | (apply wlb (hd := rfl); (first | exact q_box rfl rfl rfl | exact q_alloc); (exact gy0); rfl) | refine wln ⟨_, rfl, rfl⟩ rfl ?_ | refine wst rfl rfl rfl List.not_mem_nil rfl rfl rfl rfl rfl rfl ?_ | refine W_seq ?_ | refine W_condT rfl ?_ | refine W_condF rfl ?_ | refine W_region ?_ | refine W_skip ?_ | refine W_ret ?_ | refine W_block ?_ | refine W_exit ?_))
    refine Exists.intro _ ⟨Weak.refl _, Exists.intro _ ⟨resA_tmp rfl rfl, ?_, rfl⟩⟩
    rfl
end Go.Proofs.Ytkadjimnamcjbaa
