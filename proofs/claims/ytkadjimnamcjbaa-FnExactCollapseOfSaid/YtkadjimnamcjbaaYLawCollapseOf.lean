/- The walk of the law on CollapseOf. -/
import Derived.Test.YtkadjimnamcjbaaYACi
import Derived.Test.YtkadjimnamcjbaaYAO
namespace Go.Proofs.Ytkadjimnamcjbaa
open Go.ChangeShapes Go.WideShapes Go.ChangeAt Go.RowKit Go.Deep Go.Eng
set_option maxRecDepth 100000
attribute [local irreducible] QV TV WL HW W CallOk Weak

set_option maxHeartbeats 4000000 in
theorem law_CollapseOf_no (js : List Jt) (ls : List Ld) (ljs : js.length ≤ 9223372036854775807) (lls : ls.length ≤ 9223372036854775807) (hb0 : (js.length : Int) ≤ 1048576) (hb1 : (ls.length : Int) ≤ 1048576 - js.length) (hst : pfind (rowsA js ls) = none) : CallOk Try.prog 14 [.agg [slJt js], slLd ls] (fun r => r = vb true) := by
  have hsz0 := szArch_ok js (1048576) (by omega) ljs
  rw [if_pos hb0] at hsz0
  have njs : js.length ≤ 1048576 := by omega
  have hsz1 := szLoadS_ok ls (1048576 - js.length) (by omega) lls
  rw [if_pos hb1] at hsz1
  have nls : ls.length ≤ 1048576 := by omega
  have hdjs := callOk_dat (toArch_ok js njs) rfl
  have hqjs := eqArch_ok js njs
  have hmjs := markArch_ok js (1) njs (by omega)
  have hdls := callOk_dat (toLoadS_ok ls nls) rfl
  have hqls := eqLoadS_ok ls nls
  have hmls := markLoadS_ok ls (1 + 4 * js.length) nls (by omega)
  have h1 := collapseOf_ok js ls njs nls
  rw [hst] at h1
  have h2 := implCollapseOf_ok js ls njs nls
  rw [hst] at h2
  have hq : CallOk Try.prog 67 [.agg [.sl 1 [], .sl 1 []], .agg [.sl 1 [], .sl 1 []]] (fun r => r = vb true) := eqProof_ok ⟨[], []⟩ (by simp) (by simp)
  have hmr := markProof_no 1
  have hhr : CallOk Try.prog 86 [.agg [.sl 1 [], .sl 1 []], vi 1] (fun r => r = vi 1) := heldProof_ok 0 0 1 (by omega) (by omega) (by omega)
  have hk0 : abin .lss .i64 (1 + 4 * js.length + 3 * ls.length) 0 = some (.bool false) := by simp [abin]; omega
  refine callOk Try.func14 Try.ntmps14 Try.results14 rfl rfl rfl fun B w0 I0 => ?_
  (repeat (first | refine WL_nil ?_ | (apply wl0 (hd := rfl); (first | exact qv0 | exact qv1 | exact q_callA (hsz0) | exact q_callA (hsz1)); (exact gy0)) | (apply wlb (hd := rfl); (first | exact q_box rfl rfl rfl | exact q_alloc); (exact gy0); rfl) | refine wln ⟨_, rfl, rfl⟩ rfl ?_ | refine wlnu ⟨_, rfl, rfl⟩ rfl ?_ | refine wst rfl rfl rfl List.not_mem_nil rfl rfl rfl rfl rfl rfl ?_ | refine W_seq ?_ | refine W_condT rfl ?_ | refine W_condF rfl ?_ | refine W_region ?_ | refine W_skip ?_ | refine W_ret ?_ | refine W_block ?_ | refine W_exit ?_))
  (refine W_cond rfl (fun hc => ?_) (fun hc => ?_))
  · simp at hc; omega
  · skip
    (repeat (first | refine WL_nil ?_ | (apply wl0 (hd := rfl); (first | exact qv0 | exact qv1 | exact q_callA (hsz0) | exact q_callA (hsz1)); (exact gy0)) | (apply wlb (hd := rfl); (first | exact q_box rfl rfl rfl | exact q_alloc); (exact gy0); rfl) | refine wln ⟨_, rfl, rfl⟩ rfl ?_ | refine wlnu ⟨_, rfl, rfl⟩ rfl ?_ | refine wst rfl rfl rfl List.not_mem_nil rfl rfl rfl rfl rfl rfl ?_ | refine W_seq ?_ | refine W_condT rfl ?_ | refine W_condF rfl ?_ | refine W_region ?_ | refine W_skip ?_ | refine W_ret ?_ | refine W_block ?_ | refine W_exit ?_))
    (refine W_cond rfl (fun hc => ?_) (fun hc => ?_))
    · simp at hc; omega
    · skip
      (repeat (first | refine WL_nil ?_ | (apply wl0 (hd := rfl); (first | exact qv0 | exact qv1 | exact q_callA (hdjs) | exact q_callA (hdls)); (exact gy0)) | (apply wlb (hd := rfl); (first | exact q_box rfl rfl rfl | exact q_alloc); (exact gy0); rfl) | refine wln ⟨_, rfl, rfl⟩ rfl ?_ | refine wlnu ⟨_, rfl, rfl⟩ rfl ?_ | refine wst rfl rfl rfl List.not_mem_nil rfl rfl rfl rfl rfl rfl ?_ | refine W_seq ?_ | refine W_condT rfl ?_ | refine W_condF rfl ?_ | refine W_region ?_ | refine W_skip ?_ | refine W_ret ?_ | refine W_block ?_ | refine W_exit ?_))
      (repeat (first | refine WL_nil ?_ | (apply wl0 (hd := rfl); (first | exact qv0 | exact qv1 | exact q_callA (h1) | exact q_callSA (h2) | exact q_callSA (hq) | exact q_callA (hmr) | exact q_callSA (hhr) | exact q_callA (h2)); (exact gy0)) | (apply wlb (hd := rfl); (first | exact q_box rfl rfl rfl | exact q_alloc); (exact gy0); rfl) | refine wln ⟨_, rfl, rfl⟩ rfl ?_ | refine wlnu ⟨_, rfl, rfl⟩ rfl ?_ | refine wst rfl rfl rfl List.not_mem_nil rfl rfl rfl rfl rfl rfl ?_ | refine wlnew [(2000007, 3000007)] (toArch_new js njs) rfl rfl rfl rfl (by (repeat' (first | exact AllPl.nil | refine AllPl.cons (map_plainB (fun _ => rfl)) ?_)); first | done | fail "open") rfl (by (repeat' (first | exact LeS.nil | refine LeS.v ?_ | refine LeS.sl ?_ | refine LeS.own ?_ | refine LeS.arr rfl (by first | exact len_map | exact len_mks) (map_lens (fun _ => rfl)) (map_plainB (fun _ => rfl)) ?_ | refine LeS.nilS ?_ | refine LeS.agg ?_ ?_)); first | done | fail "open") rfl rfl ?_ | refine wlnew [(7, 3000107)] (toLoadS_new ls nls) rfl rfl rfl rfl (by (repeat' (first | exact AllPl.nil | refine AllPl.cons (map_plainB (fun _ => rfl)) ?_)); first | done | fail "open") rfl (by (repeat' (first | exact LeS.nil | refine LeS.v ?_ | refine LeS.sl ?_ | refine LeS.own ?_ | refine LeS.arr rfl (by first | exact len_map | exact len_mks) (map_lens (fun _ => rfl)) (map_plainB (fun _ => rfl)) ?_ | refine LeS.nilS ?_ | refine LeS.agg ?_ ?_)); first | done | fail "open") rfl rfl ?_ | refine W_seq ?_ | refine W_condT rfl ?_ | refine W_condF rfl ?_ | refine W_region ?_ | refine W_skip ?_ | refine W_ret ?_ | refine W_block ?_ | refine W_exit ?_))
      (repeat (first | refine WL_nil ?_ | (apply wl0 (hd := rfl); (first | exact QV_bin rfl rfl hk0 | exact q_neS rfl rfl rfl | exact q_neB Try.underlying4 rfl rfl rfl | exact qv0 | exact qv1 | exact q_callA (hdjs) | exact q_callSA (hqjs) | exact q_callA (hdls) | exact q_callSA (hqls) | exact q_callA (h1) | exact q_callSA (h2) | exact q_callSA (hq) | exact q_callA (hmr) | exact q_callSA (hhr) | exact q_callA (h2)); (exact gy0)) | (apply wlb (hd := rfl); (first | exact q_box rfl rfl rfl | exact q_alloc); (exact gy0); rfl) | refine wln ⟨_, rfl, rfl⟩ rfl ?_ | refine wlnu ⟨_, rfl, rfl⟩ rfl ?_ | refine wst rfl rfl rfl List.not_mem_nil rfl rfl rfl rfl rfl rfl ?_ | refine wlmk (n := 3000007) (hmjs) moreNil rfl (by (repeat' (first | exact MkN.nil | refine MkN.v ?_ | refine MkN.arr ?_ | refine MkN.agg ?_ ?_)); first | done | fail "open") rfl rfl (map_plainB (fun _ => rfl)) (map_plainB (fun _ => rfl)) rfl List.not_mem_nil rfl ?_ | refine wlmk (n := 3000107) (hmls) moreNil rfl (by (repeat' (first | exact MkN.nil | refine MkN.v ?_ | refine MkN.arr ?_ | refine MkN.agg ?_ ?_)); first | done | fail "open") rfl rfl (map_plainB (fun _ => rfl)) (map_plainB (fun _ => rfl)) rfl List.not_mem_nil rfl ?_ | refine W_seq ?_ | refine W_condT rfl ?_ | refine W_condF rfl ?_ | refine W_region ?_ | refine W_skip ?_ | refine W_ret ?_ | refine W_block ?_ | refine W_exit ?_ | ((first | refine wdraw 5 (by kernel_rfl) (by kernel_rfl) (by kernel_rfl) rfl ?_); (repeat (first | refine HW_nil ?_ | (apply hw0 (hd := rfl); (first | exact QV_bin rfl rfl hk0 | exact q_neS rfl rfl rfl | exact q_neB Try.underlying4 rfl rfl rfl | exact qv0 | exact qv1 | exact q_callA (hdjs) | exact q_callSA (hqjs) | exact q_callA (hdls) | exact q_callSA (hqls) | exact q_callA (h1) | exact q_callSA (h2) | exact q_callSA (hq) | exact q_callA (hmr) | exact q_callSA (hhr) | exact q_callA (h2)); (exact gy0)) | (apply hwb (hd := rfl); (first | exact q_box rfl rfl rfl | exact q_allocT rfl); (exact gy0); rfl) | refine hwn ⟨_, rfl, rfl⟩ rfl ?_ | refine hwnu ⟨_, rfl, rfl⟩ rfl ?_ | refine hwi rfl rfl List.not_mem_nil rfl rfl rfl rfl rfl ?_)))))
      refine Exists.intro _ ⟨Weak.refl _, Exists.intro _ ⟨resA_tmp rfl rfl, ?_, rfl⟩⟩
      rfl
set_option maxHeartbeats 4000000 in
theorem law_CollapseOf_yes (js : List Jt) (ls : List Ld) (ljs : js.length ≤ 9223372036854775807) (lls : ls.length ≤ 9223372036854775807) (hb0 : (js.length : Int) ≤ 1048576) (hb1 : (ls.length : Int) ≤ 1048576 - js.length) (hst : ∃ p, pfind (rowsA js ls) = some p) : CallOk Try.prog 14 [.agg [slJt js], slLd ls] (fun r => r = vb true) := by
  have hsz0 := szArch_ok js (1048576) (by omega) ljs
  rw [if_pos hb0] at hsz0
  have njs : js.length ≤ 1048576 := by omega
  have hsz1 := szLoadS_ok ls (1048576 - js.length) (by omega) lls
  rw [if_pos hb1] at hsz1
  have nls : ls.length ≤ 1048576 := by omega
  have hdjs := callOk_dat (toArch_ok js njs) rfl
  have hqjs := eqArch_ok js njs
  have hmjs := markArch_ok js (1) njs (by omega)
  have hdls := callOk_dat (toLoadS_ok ls nls) rfl
  have hqls := eqLoadS_ok ls nls
  have hmls := markLoadS_ok ls (1 + 4 * js.length) nls (by omega)
  obtain ⟨⟨ks, fs⟩, hst⟩ := hst
  have h1 := collapseOf_ok js ls njs nls
  rw [hst] at h1
  have h2 := implCollapseOf_ok js ls njs nls
  rw [hst] at h2
  have hnr := pfind_len hst
  have h2d := callOk_dat h2 rfl
  have hr8 : 0 < (ks.map iRow).length := by simpa using hnr.1
  have hr9 : 0 < (fs.map iRow).length := by simpa using hnr.2.2.1
  have hq : CallOk Try.prog 67 [.agg [slI ks, slI fs], .agg [slI ks, slI fs]] (fun r => r = vb true) := eqProof_ok ⟨ks, fs⟩ (by simp only; omega) (by simp only; omega)
  have hmr := markProof_ok ⟨ks, fs⟩ 1 (by simp only; omega) (by simp only; omega) (by omega)
  have hhr := heldProof_ok ks.length fs.length 1 (by omega) (by omega) (by omega)
  have hk1 : abin .lss .i64 (1 + 1 * (ks.length : Int) + 1 * (fs.length : Int)) 0 = some (.bool false) := by simp [abin]; omega
  have hk0 : abin .lss .i64 (1 + 4 * js.length + 3 * ls.length) 0 = some (.bool false) := by simp [abin]; omega
  refine callOk Try.func14 Try.ntmps14 Try.results14 rfl rfl rfl fun B w0 I0 => ?_
  (repeat (first | refine WL_nil ?_ | (apply wl0 (hd := rfl); (first | exact qv0 | exact qv1 | exact q_callA (hsz0) | exact q_callA (hsz1)); (exact gy0)) | (apply wlb (hd := rfl); (first | exact q_box rfl rfl rfl | exact q_alloc); (exact gy0); rfl) | refine wln ⟨_, rfl, rfl⟩ rfl ?_ | refine wlnu ⟨_, rfl, rfl⟩ rfl ?_ | refine wst rfl rfl rfl List.not_mem_nil rfl rfl rfl rfl rfl rfl ?_ | refine W_seq ?_ | refine W_condT rfl ?_ | refine W_condF rfl ?_ | refine W_region ?_ | refine W_skip ?_ | refine W_ret ?_ | refine W_block ?_ | refine W_exit ?_))
  (refine W_cond rfl (fun hc => ?_) (fun hc => ?_))
  · simp at hc; omega
  · skip
    (repeat (first | refine WL_nil ?_ | (apply wl0 (hd := rfl); (first | exact qv0 | exact qv1 | exact q_callA (hsz0) | exact q_callA (hsz1)); (exact gy0)) | (apply wlb (hd := rfl); (first | exact q_box rfl rfl rfl | exact q_alloc); (exact gy0); rfl) | refine wln ⟨_, rfl, rfl⟩ rfl ?_ | refine wlnu ⟨_, rfl, rfl⟩ rfl ?_ | refine wst rfl rfl rfl List.not_mem_nil rfl rfl rfl rfl rfl rfl ?_ | refine W_seq ?_ | refine W_condT rfl ?_ | refine W_condF rfl ?_ | refine W_region ?_ | refine W_skip ?_ | refine W_ret ?_ | refine W_block ?_ | refine W_exit ?_))
    (refine W_cond rfl (fun hc => ?_) (fun hc => ?_))
    · simp at hc; omega
    · skip
      (repeat (first | refine WL_nil ?_ | (apply wl0 (hd := rfl); (first | exact qv0 | exact qv1 | exact q_callA (hdjs) | exact q_callA (hdls)); (exact gy0)) | (apply wlb (hd := rfl); (first | exact q_box rfl rfl rfl | exact q_alloc); (exact gy0); rfl) | refine wln ⟨_, rfl, rfl⟩ rfl ?_ | refine wlnu ⟨_, rfl, rfl⟩ rfl ?_ | refine wst rfl rfl rfl List.not_mem_nil rfl rfl rfl rfl rfl rfl ?_ | refine W_seq ?_ | refine W_condT rfl ?_ | refine W_condF rfl ?_ | refine W_region ?_ | refine W_skip ?_ | refine W_ret ?_ | refine W_block ?_ | refine W_exit ?_))
      (repeat (first | refine WL_nil ?_ | (apply wl0 (hd := rfl); (first | exact QV_bin rfl rfl hk1 | exact qv0 | exact qv1 | exact q_callA (h1) | exact q_callA (h2d) | exact q_callSA (hq) | exact q_callSA (hhr)); (exact gy0)) | (apply wlb (hd := rfl); (first | exact q_box rfl rfl rfl | exact q_alloc); (exact gy0); rfl) | refine wln ⟨_, rfl, rfl⟩ rfl ?_ | refine wlnu ⟨_, rfl, rfl⟩ rfl ?_ | refine wst rfl rfl rfl List.not_mem_nil rfl rfl rfl rfl rfl rfl ?_ | refine wlnew [(2000007, 3000007)] (toArch_new js njs) rfl rfl rfl rfl (by (repeat' (first | exact AllPl.nil | refine AllPl.cons (map_plainB (fun _ => rfl)) ?_)); first | done | fail "open") rfl (by (repeat' (first | exact LeS.nil | refine LeS.v ?_ | refine LeS.sl ?_ | refine LeS.own ?_ | refine LeS.arr rfl (by first | exact len_map | exact len_mks) (map_lens (fun _ => rfl)) (map_plainB (fun _ => rfl)) ?_ | refine LeS.nilS ?_ | refine LeS.agg ?_ ?_)); first | done | fail "open") rfl rfl ?_ | refine wlnew [(7, 3000107)] (toLoadS_new ls nls) rfl rfl rfl rfl (by (repeat' (first | exact AllPl.nil | refine AllPl.cons (map_plainB (fun _ => rfl)) ?_)); first | done | fail "open") rfl (by (repeat' (first | exact LeS.nil | refine LeS.v ?_ | refine LeS.sl ?_ | refine LeS.own ?_ | refine LeS.arr rfl (by first | exact len_map | exact len_mks) (map_lens (fun _ => rfl)) (map_plainB (fun _ => rfl)) ?_ | refine LeS.nilS ?_ | refine LeS.agg ?_ ?_)); first | done | fail "open") rfl rfl ?_ | refine wlmu2 (N := 3000920) (N' := 3000921) h2 rfl rfl rfl rfl hr8 hr9 (map_plainB (fun _ => rfl)) (map_plainB (fun _ => rfl)) rfl (by (repeat' (first | exact LeS.nil | refine LeS.v ?_ | refine LeS.sl ?_ | refine LeS.own ?_ | refine LeS.arr rfl (by first | exact len_map | exact len_mks) (map_lens (fun _ => rfl)) (map_plainB (fun _ => rfl)) ?_ | refine LeS.nilS ?_ | refine LeS.agg ?_ ?_)); first | done | fail "open") (List.length_map _) (List.length_map _) rfl rfl (fun moreA moreB hmoreA hmoreB => ?_) | refine wlmk2 (n := 3000920) (m := 3000921) hmr hmoreA hmoreB rfl (by (repeat' (first | exact MkN2.nil | refine MkN2.v ?_ | refine MkN2.arr ?_ | refine MkN2.arr2 ?_ | refine MkN2.agg ?_ ?_)); first | done | fail "open") rfl rfl rfl rfl rfl (map_plainB (fun _ => rfl)) (map_plainB (fun _ => rfl)) (map_plainB (fun _ => rfl)) (map_plainB (fun _ => rfl)) rfl rfl List.not_mem_nil List.not_mem_nil rfl ?_ | refine W_seq ?_ | refine W_condT rfl ?_ | refine W_condF rfl ?_ | refine W_region ?_ | refine W_skip ?_ | refine W_ret ?_ | refine W_block ?_ | refine W_exit ?_))
      (repeat (first | refine WL_nil ?_ | (apply wl0 (hd := rfl); (first | exact QV_bin rfl rfl hk0 | exact QV_bin rfl rfl hk1 | exact q_neS rfl rfl rfl | exact q_neB Try.underlying4 rfl rfl rfl | exact qv0 | exact qv1 | exact q_callA (hdjs) | exact q_callSA (hqjs) | exact q_callA (hdls) | exact q_callSA (hqls) | exact q_callA (h1) | exact q_callA (h2d) | exact q_callSA (hq) | exact q_callSA (hhr)); (exact gy0)) | (apply wlb (hd := rfl); (first | exact q_box rfl rfl rfl | exact q_alloc); (exact gy0); rfl) | refine wln ⟨_, rfl, rfl⟩ rfl ?_ | refine wlnu ⟨_, rfl, rfl⟩ rfl ?_ | refine wst rfl rfl rfl List.not_mem_nil rfl rfl rfl rfl rfl rfl ?_ | refine wlmk (n := 3000007) (hmjs) moreNil rfl (by (repeat' (first | exact MkN.nil | refine MkN.v ?_ | refine MkN.arr ?_ | refine MkN.agg ?_ ?_)); first | done | fail "open") rfl rfl (map_plainB (fun _ => rfl)) (map_plainB (fun _ => rfl)) rfl List.not_mem_nil rfl ?_ | refine wlmk (n := 3000107) (hmls) moreNil rfl (by (repeat' (first | exact MkN.nil | refine MkN.v ?_ | refine MkN.arr ?_ | refine MkN.agg ?_ ?_)); first | done | fail "open") rfl rfl (map_plainB (fun _ => rfl)) (map_plainB (fun _ => rfl)) rfl List.not_mem_nil rfl ?_ | refine wlmu2 (N := 3000920) (N' := 3000921) h2 rfl rfl rfl rfl hr8 hr9 (map_plainB (fun _ => rfl)) (map_plainB (fun _ => rfl)) rfl (by (repeat' (first | exact LeS.nil | refine LeS.v ?_ | refine LeS.sl ?_ | refine LeS.own ?_ | refine LeS.arr rfl (by first | exact len_map | exact len_mks) (map_lens (fun _ => rfl)) (map_plainB (fun _ => rfl)) ?_ | refine LeS.nilS ?_ | refine LeS.agg ?_ ?_)); first | done | fail "open") (List.length_map _) (List.length_map _) rfl rfl (fun moreA moreB hmoreA hmoreB => ?_) | refine wlmk2 (n := 3000920) (m := 3000921) hmr hmoreA hmoreB rfl (by (repeat' (first | exact MkN2.nil | refine MkN2.v ?_ | refine MkN2.arr ?_ | refine MkN2.arr2 ?_ | refine MkN2.agg ?_ ?_)); first | done | fail "open") rfl rfl rfl rfl rfl (map_plainB (fun _ => rfl)) (map_plainB (fun _ => rfl)) (map_plainB (fun _ => rfl)) (map_plainB (fun _ => rfl)) rfl rfl List.not_mem_nil List.not_mem_nil rfl ?_ | refine W_seq ?_ | refine W_condT rfl ?_ | refine W_condF rfl ?_ | refine W_region ?_ | refine W_skip ?_ | refine W_ret ?_ | refine W_block ?_ | refine W_exit ?_ | ((first | refine wdraw 5 (by kernel_rfl) (by kernel_rfl) (by kernel_rfl) rfl ?_); (repeat (first | refine HW_nil ?_ | (apply hw0 (hd := rfl); (first | exact QV_bin rfl rfl hk0 | exact QV_bin rfl rfl hk1 | exact q_neS rfl rfl rfl | exact q_neB Try.underlying4 rfl rfl rfl | exact qv0 | exact qv1 | exact q_callA (hdjs) | exact q_callSA (hqjs) | exact q_callA (hdls) | exact q_callSA (hqls) | exact q_callA (h1) | exact q_callA (h2d) | exact q_callSA (hq) | exact q_callSA (hhr)); (exact gy0)) | (apply hwb (hd := rfl); (first | exact q_box rfl rfl rfl | exact q_allocT rfl); (exact gy0); rfl) | refine hwn ⟨_, rfl, rfl⟩ rfl ?_ | refine hwnu ⟨_, rfl, rfl⟩ rfl ?_ | refine hwi rfl rfl List.not_mem_nil rfl rfl rfl rfl rfl ?_)))))
      refine Exists.intro _ ⟨Weak.refl _, Exists.intro _ ⟨resA_tmp rfl rfl, ?_, rfl⟩⟩
      rfl
theorem law_FnExactCollapseOf (js : List Jt) (ls : List Ld) (ljs : js.length ≤ 9223372036854775807) (lls : ls.length ≤ 9223372036854775807) : CallOk Try.prog 14 [.agg [slJt js], slLd ls] (fun r => r = vb true) := by
  have hsz0 := szArch_ok js
  have hsz1 := szLoadS_ok ls
  by_cases hb0 : (js.length : Int) ≤ 1048576
  · skip
    by_cases hb1 : (ls.length : Int) ≤ 1048576 - js.length
    · skip
      rcases pfind_or (rowsA js ls) with hst | hst
      · exact law_CollapseOf_no js ls ljs lls hb0 hb1 hst
      · exact law_CollapseOf_yes js ls ljs lls hb0 hb1 hst
    · replace hsz1 := hsz1 (1048576 - js.length) (by omega) lls
      rw [if_neg hb1] at hsz1
      replace hsz0 := hsz0 (1048576) (by omega) ljs
      rw [if_pos hb0] at hsz0
      refine callOk Try.func14 Try.ntmps14 Try.results14 rfl rfl rfl fun B w0 I0 => ?_
      (repeat (first | refine WL_nil ?_ | (apply wl0 (hd := rfl); (first | exact qv0 | exact qv1 | exact q_callA (hsz0)); (exact gy0)) | (apply wlb (hd := rfl); (first | exact q_box rfl rfl rfl | exact q_alloc); (exact gy0); rfl) | refine wln ⟨_, rfl, rfl⟩ rfl ?_ | refine wlnu ⟨_, rfl, rfl⟩ rfl ?_ | refine wst rfl rfl rfl List.not_mem_nil rfl rfl rfl rfl rfl rfl ?_ | refine W_seq ?_ | refine W_condT rfl ?_ | refine W_condF rfl ?_ | refine W_region ?_ | refine W_skip ?_ | refine W_ret ?_ | refine W_block ?_ | refine W_exit ?_))
      (refine W_cond rfl (fun hc => ?_) (fun hc => ?_))
      · simp at hc; omega
      · skip
        (repeat (first | refine WL_nil ?_ | (apply wl0 (hd := rfl); (first | exact qv0 | exact qv1 | exact q_callA (hsz1)); (exact gy0)) | (apply wlb (hd := rfl); (first | exact q_box rfl rfl rfl | exact q_alloc); (exact gy0); rfl) | refine wln ⟨_, rfl, rfl⟩ rfl ?_ | refine wlnu ⟨_, rfl, rfl⟩ rfl ?_ | refine wst rfl rfl rfl List.not_mem_nil rfl rfl rfl rfl rfl rfl ?_ | refine W_seq ?_ | refine W_condT rfl ?_ | refine W_condF rfl ?_ | refine W_region ?_ | refine W_skip ?_ | refine W_ret ?_ | refine W_block ?_ | refine W_exit ?_))
        refine Exists.intro _ ⟨Weak.refl _, Exists.intro _ ⟨resA_tmp rfl rfl, ?_, rfl⟩⟩
        rfl
  · replace hsz0 := hsz0 (1048576) (by omega) ljs
    rw [if_neg hb0] at hsz0
    refine callOk Try.func14 Try.ntmps14 Try.results14 rfl rfl rfl fun B w0 I0 => ?_
    (repeat (first | refine WL_nil ?_ | (apply wl0 (hd := rfl); (first | exact qv0 | exact qv1 | exact q_callA (hsz0)); (exact gy0)) | (apply wlb (hd := rfl); (first | exact q_box rfl rfl rfl | exact q_alloc); (exact gy0); rfl) | refine wln ⟨_, rfl, rfl⟩ rfl ?_ | refine wlnu ⟨_, rfl, rfl⟩ rfl ?_ | refine wst rfl rfl rfl List.not_mem_nil rfl rfl rfl rfl rfl rfl ?_ | refine W_seq ?_ | refine W_condT rfl ?_ | refine W_condF rfl ?_ | refine W_region ?_ | refine W_skip ?_ | refine W_ret ?_ | refine W_block ?_ | refine W_exit ?_))
    refine Exists.intro _ ⟨Weak.refl _, Exists.intro _ ⟨resA_tmp rfl rfl, ?_, rfl⟩⟩
    rfl
end Go.Proofs.Ytkadjimnamcjbaa
