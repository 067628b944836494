/- The walk of the law on ThrustsOf. -/
import Derived.Test.YtkieepmkcaipaaaGreatYASx
import Derived.Test.YtkieepmkcaipaaaGreatZ9
import Derived.Test.YtkieepmkcaipaaaGreatYAMt
import Derived.Test.YtkieepmkcaipaaaGreatYALdLaw
import Derived.Test.YtkieepmkcaipaaaGreatYAO
namespace Go.Proofs.YtkieepmkcaipaaaGreat
open Go.ChangeShapes Go.WideShapes Go.ChangeAt Go.RowKit Go.Deep Go.Eng
set_option maxRecDepth 100000
attribute [local irreducible] QV TV WL HW W CallOk CallOkA Weak

theorem thr_or (js : List Jt) (ls : List Ld) : thrL js ls = [] ∨ 0 < (thrL js ls).length := by
  cases thrL js ls <;> simp

set_option maxHeartbeats 4000000 in
theorem law_ThrustsOf_noFF (js : List Jt) (ls : List Ld) (ljs : js.length ≤ 9223372036854775807) (lls : ls.length ≤ 9223372036854775807) (hb0 : (js.length : Int) ≤ 1048576) (hb1 : (ls.length : Int) ≤ 1048576 - js.length) (hejs : 0 < js.length) (hels : 0 < ls.length) (hst : thrL js ls = []) : CallOkA Tryz.prog 10 [.agg [slJt js], slLd ls] (fun r => r = vb true) := by
  have hsz0 := szArch_ok js (1048576) (by omega) ljs
  rw [if_pos hb0] at hsz0
  have njs : js.length ≤ 1048576 := by omega
  have hsz1 := szLoadS_ok ls (1048576 - js.length) (by omega) lls
  rw [if_pos hb1] at hsz1
  have nls : ls.length ≤ 1048576 := by omega
  have h1 := thrustsOf_ok js ls njs nls
  have h2 := implThrustsOf_ok js ls njs nls
  rw [hst] at h1 h2
  have hq := eqThrustS_ok [] (by simp)
  have hmr := markThrustS_no 1
  have hhr := heldThrustS_ok 0 1 (by omega) (by omega)
  have hnejs : 0 < (js.map Jt.row).length := by simpa using hejs
  have hmjs := markArch_ok js (1) njs (by omega)
  have hnels : 0 < (ls.map Ld.row).length := by simpa using hels
  have hmls := markLoadS_ok ls (1 + 4 * js.length) nls (by omega)
  have hk0 : abin .lss .i64 (1 + 4 * js.length + 3 * ls.length) 0 = some (.bool false) := by simp [abin]; omega
  refine callOkX Tryz.func10 Tryz.ntmps10 Tryz.results10 rfl rfl rfl fun B w0 M I0 V0 hal => ?_
  (repeat (first | refine WL_nil ?_ | (apply wl0 (hd := rfl); (first | exact qv0 | exact QV_bne Tryz.underlying4 rfl rfl | exact QV_beq Tryz.underlying4 rfl rfl | exact qv1 | exact q_callA (hsz0)); (exact gy0)) | (apply wlb (hd := rfl); (first | exact q_box rfl rfl rfl | exact q_alloc); (exact gy0); rfl) | refine wln ⟨_, rfl, rfl⟩ rfl ?_ | refine wlnu ⟨_, rfl, rfl⟩ rfl ?_ | refine wst rfl rfl rfl List.not_mem_nil rfl rfl rfl rfl rfl rfl ?_ | refine W_seq ?_ | refine W_condT rfl ?_ | refine W_condF rfl ?_ | refine W_region ?_ | refine W_skip ?_ | refine W_ret ?_ | refine W_block ?_ | refine W_exit ?_))
  (refine W_cond rfl (fun hc => ?_) (fun hc => ?_))
  · simp at hc; omega
  · skip
    (repeat (first | refine WL_nil ?_ | (apply wl0 (hd := rfl); (first | exact qv0 | exact QV_bne Tryz.underlying4 rfl rfl | exact QV_beq Tryz.underlying4 rfl rfl | exact qv1 | exact q_callA (hsz1)); (exact gy0)) | (apply wlb (hd := rfl); (first | exact q_box rfl rfl rfl | exact q_alloc); (exact gy0); rfl) | refine wln ⟨_, rfl, rfl⟩ rfl ?_ | refine wlnu ⟨_, rfl, rfl⟩ rfl ?_ | refine wst rfl rfl rfl List.not_mem_nil rfl rfl rfl rfl rfl rfl ?_ | refine W_seq ?_ | refine W_condT rfl ?_ | refine W_condF rfl ?_ | refine W_region ?_ | refine W_skip ?_ | refine W_ret ?_ | refine W_block ?_ | refine W_exit ?_))
    (refine W_cond rfl (fun hc => ?_) (fun hc => ?_))
    · simp at hc; omega
    · skip
      (repeat (first | refine WL_nil ?_ | (apply wl0 (hd := rfl); (first | exact qv0 | exact QV_bne Tryz.underlying4 rfl rfl | exact QV_beq Tryz.underlying4 rfl rfl | exact qv1 | exact q_callA (h1) | exact q_callSAX hal (h2) | exact q_callSA (hq)); (exact gy0)) | (apply wlb (hd := rfl); (first | exact q_box rfl rfl rfl | exact q_alloc); (exact gy0); rfl) | refine wln ⟨_, rfl, rfl⟩ rfl ?_ | refine wlnu ⟨_, rfl, rfl⟩ rfl ?_ | (apply wln1 (hd := rfl); exact q_call1A 0 7 (toArch_ok js njs); (exact gy0); rfl) | (apply wln1 (hd := rfl); exact q_call1A 100 7 (toLoadS_ok ls nls); (exact gy0); rfl) | refine wst rfl rfl rfl List.not_mem_nil rfl rfl rfl rfl rfl rfl ?_ | refine wlmu (n := 7) (N := 2000007) (toArch_ok js njs) rfl hnejs (map_plainB (fun _ => rfl)) rfl (by (repeat' (first | exact LeS.nil | refine LeS.v ?_ | refine LeS.sl ?_ | refine LeS.own ?_ | refine LeS.arr rfl (by first | exact len_map | exact len_mks) (map_lens (fun _ => rfl)) (map_plainB (fun _ => rfl)) ?_ | refine LeS.nilS ?_ | refine LeS.agg ?_ ?_)); first | done | fail "open") (by first | exact MutA.own | exact MutA.agg | exact MutA.tup | exact MutA.tupS) (List.length_map _) rfl rfl (fun more2000007 hmore2000007 => ?_) | refine wlmu (n := 7) (N := 2000107) (toLoadS_ok ls nls) rfl hnels (map_plainB (fun _ => rfl)) rfl (by (repeat' (first | exact LeS.nil | refine LeS.v ?_ | refine LeS.sl ?_ | refine LeS.own ?_ | refine LeS.arr rfl (by first | exact len_map | exact len_mks) (map_lens (fun _ => rfl)) (map_plainB (fun _ => rfl)) ?_ | refine LeS.nilS ?_ | refine LeS.agg ?_ ?_)); first | done | fail "open") (by first | exact MutA.own | exact MutA.agg | exact MutA.tup | exact MutA.tupS) (List.length_map _) rfl rfl (fun more2000107 hmore2000107 => ?_) | refine W_seq ?_ | refine W_condT rfl ?_ | refine W_condF rfl ?_ | refine W_region ?_ | refine W_skip ?_ | refine W_ret ?_ | refine W_block ?_ | refine W_exit ?_))
      refine wdraw 5 (by kernel_rfl) (by kernel_rfl) (by kernel_rfl) rfl ?_
      (repeat (first | refine HW_nil ?_ | (apply hw0 (hd := rfl); (first | exact qv0 | exact QV_bne Tryz.underlying4 rfl rfl | exact QV_beq Tryz.underlying4 rfl rfl | exact qv1 | exact q_callSA (eqArch_ok js njs) | exact q_callSA (eqLoadS_ok ls nls)); (exact gy0)) | (apply hwb (hd := rfl); (first | exact q_box rfl rfl rfl | exact q_allocT rfl); (exact gy0); rfl) | refine hwn ⟨_, rfl, rfl⟩ rfl ?_ | refine hwnu ⟨_, rfl, rfl⟩ rfl ?_ | (apply hwn1 (hd := rfl); exact q_call1A 10 7 (toArch_ok js njs); (exact gy0); rfl) | (apply hwn1 (hd := rfl); exact q_call1A 110 7 (toLoadS_ok ls nls); (exact gy0); rfl) | refine hwi rfl rfl List.not_mem_nil rfl rfl rfl rfl rfl ?_))
      (repeat (first | refine WL_nil ?_ | (apply wl0 (hd := rfl); (first | exact QV_bin rfl rfl hk0 | exact q_neS rfl rfl rfl | exact q_neB Tryz.underlying4 rfl rfl rfl | exact qv0 | exact QV_bne Tryz.underlying4 rfl rfl | exact QV_beq Tryz.underlying4 rfl rfl | exact qv1 | exact q_callSA (eqArch_ok js njs) | exact q_callSA (eqLoadS_ok ls nls) | exact q_callA (hmr) | exact q_callSA (hq) | exact q_callSA (hhr) | exact q_callAX hal (h2)); (exact gy0)) | (apply wlb (hd := rfl); (first | exact q_box rfl rfl rfl | exact q_alloc); (exact gy0); rfl) | refine wln ⟨_, rfl, rfl⟩ rfl ?_ | refine wlnu ⟨_, rfl, rfl⟩ rfl ?_ | (apply wln1 (hd := rfl); exact q_call1A 20 7 (toArch_ok js njs); (exact gy0); rfl) | (apply wln1 (hd := rfl); exact q_call1A 30 7 (toArch_ok js njs); (exact gy0); rfl) | (apply wln1 (hd := rfl); exact q_call1A 120 7 (toLoadS_ok ls nls); (exact gy0); rfl) | (apply wln1 (hd := rfl); exact q_call1A 130 7 (toLoadS_ok ls nls); (exact gy0); rfl) | refine wst rfl rfl rfl List.not_mem_nil rfl rfl rfl rfl rfl rfl ?_ | refine wlmk (n := 2000007) (hmjs) hmore2000007 rfl (by (repeat' (first | exact MkN.nil | refine MkN.v ?_ | refine MkN.arr ?_ | refine MkN.agg ?_ ?_)); first | done | fail "open") rfl rfl (map_plainB (fun _ => rfl)) (map_plainB (fun _ => rfl)) rfl List.not_mem_nil rfl ?_ | refine wlmk (n := 2000107) (hmls) hmore2000107 rfl (by (repeat' (first | exact MkN.nil | refine MkN.v ?_ | refine MkN.arr ?_ | refine MkN.agg ?_ ?_)); first | done | fail "open") rfl rfl (map_plainB (fun _ => rfl)) (map_plainB (fun _ => rfl)) rfl List.not_mem_nil rfl ?_ | refine W_seq ?_ | refine W_condT rfl ?_ | refine W_condF rfl ?_ | refine W_region ?_ | refine W_skip ?_ | refine W_ret ?_ | refine W_block ?_ | refine W_exit ?_))
      refine Exists.intro _ ⟨Weak.refl _, Exists.intro _ ⟨resA_tmp rfl rfl, ?_, rfl⟩⟩
      rfl
set_option maxHeartbeats 4000000 in
theorem law_ThrustsOf_noFE (js : List Jt) (ls : List Ld) (ljs : js.length ≤ 9223372036854775807) (lls : ls.length ≤ 9223372036854775807) (hb0 : (js.length : Int) ≤ 1048576) (hb1 : (ls.length : Int) ≤ 1048576 - js.length) (hejs : 0 < js.length) (hels : ls = []) (hst : thrL js ls = []) : CallOkA Tryz.prog 10 [.agg [slJt js], slLd ls] (fun r => r = vb true) := by
  have hsz0 := szArch_ok js (1048576) (by omega) ljs
  rw [if_pos hb0] at hsz0
  have njs : js.length ≤ 1048576 := by omega
  have hsz1 := szLoadS_ok ls (1048576 - js.length) (by omega) lls
  rw [if_pos hb1] at hsz1
  have nls : ls.length ≤ 1048576 := by omega
  have h1 := thrustsOf_ok js ls njs nls
  have h2 := implThrustsOf_ok js ls njs nls
  rw [hst] at h1 h2
  have hq := eqThrustS_ok [] (by simp)
  have hmr := markThrustS_no 1
  have hhr := heldThrustS_ok 0 1 (by omega) (by omega)
  have hnejs : 0 < (js.map Jt.row).length := by simpa using hejs
  have hmjs := markArch_ok js (1) njs (by omega)
  have hdls := callOk_dat (toLoadS_ok [] (by simp)) rfl
  have hxls := eqLoadS_ok [] (by simp)
  have hmls := markLoadS_no (1 + 4 * js.length)
  have hk0 : abin .lss .i64 (1 + 4 * js.length) 0 = some (.bool false) := by simp [abin]; omega
  subst hels
  refine callOkX Tryz.func10 Tryz.ntmps10 Tryz.results10 rfl rfl rfl fun B w0 M I0 V0 hal => ?_
  (repeat (first | refine WL_nil ?_ | (apply wl0 (hd := rfl); (first | exact qv0 | exact QV_bne Tryz.underlying4 rfl rfl | exact QV_beq Tryz.underlying4 rfl rfl | exact qv1 | exact q_callA (hsz0)); (exact gy0)) | (apply wlb (hd := rfl); (first | exact q_box rfl rfl rfl | exact q_alloc); (exact gy0); rfl) | refine wln ⟨_, rfl, rfl⟩ rfl ?_ | refine wlnu ⟨_, rfl, rfl⟩ rfl ?_ | refine wst rfl rfl rfl List.not_mem_nil rfl rfl rfl rfl rfl rfl ?_ | refine W_seq ?_ | refine W_condT rfl ?_ | refine W_condF rfl ?_ | refine W_region ?_ | refine W_skip ?_ | refine W_ret ?_ | refine W_block ?_ | refine W_exit ?_))
  (refine W_cond rfl (fun hc => ?_) (fun hc => ?_))
  · simp at hc; omega
  · skip
    (repeat (first | refine WL_nil ?_ | (apply wl0 (hd := rfl); (first | exact qv0 | exact QV_bne Tryz.underlying4 rfl rfl | exact QV_beq Tryz.underlying4 rfl rfl | exact qv1 | exact q_callA (hsz1)); (exact gy0)) | (apply wlb (hd := rfl); (first | exact q_box rfl rfl rfl | exact q_alloc); (exact gy0); rfl) | refine wln ⟨_, rfl, rfl⟩ rfl ?_ | refine wlnu ⟨_, rfl, rfl⟩ rfl ?_ | refine wst rfl rfl rfl List.not_mem_nil rfl rfl rfl rfl rfl rfl ?_ | refine W_seq ?_ | refine W_condT rfl ?_ | refine W_condF rfl ?_ | refine W_region ?_ | refine W_skip ?_ | refine W_ret ?_ | refine W_block ?_ | refine W_exit ?_))
    (refine W_cond rfl (fun hc => ?_) (fun hc => ?_))
    · simp at hc; omega
    · skip
      (repeat (first | refine WL_nil ?_ | (apply wl0 (hd := rfl); (first | exact qv0 | exact QV_bne Tryz.underlying4 rfl rfl | exact QV_beq Tryz.underlying4 rfl rfl | exact qv1 | exact q_callA (hdls) | exact q_callA (h1) | exact q_callSAX hal (h2) | exact q_callSA (hq)); (exact gy0)) | (apply wlb (hd := rfl); (first | exact q_box rfl rfl rfl | exact q_alloc); (exact gy0); rfl) | refine wln ⟨_, rfl, rfl⟩ rfl ?_ | refine wlnu ⟨_, rfl, rfl⟩ rfl ?_ | (apply wln1 (hd := rfl); exact q_call1A 0 7 (toArch_ok js njs); (exact gy0); rfl) | refine wst rfl rfl rfl List.not_mem_nil rfl rfl rfl rfl rfl rfl ?_ | refine wlmu (n := 7) (N := 2000007) (toArch_ok js njs) rfl hnejs (map_plainB (fun _ => rfl)) rfl (by (repeat' (first | exact LeS.nil | refine LeS.v ?_ | refine LeS.sl ?_ | refine LeS.own ?_ | refine LeS.arr rfl (by first | exact len_map | exact len_mks) (map_lens (fun _ => rfl)) (map_plainB (fun _ => rfl)) ?_ | refine LeS.nilS ?_ | refine LeS.agg ?_ ?_)); first | done | fail "open") (by first | exact MutA.own | exact MutA.agg | exact MutA.tup | exact MutA.tupS) (List.length_map _) rfl rfl (fun more2000007 hmore2000007 => ?_) | refine W_seq ?_ | refine W_condT rfl ?_ | refine W_condF rfl ?_ | refine W_region ?_ | refine W_skip ?_ | refine W_ret ?_ | refine W_block ?_ | refine W_exit ?_))
      refine wdraw 5 (by kernel_rfl) (by kernel_rfl) (by kernel_rfl) rfl ?_
      (repeat (first | refine HW_nil ?_ | (apply hw0 (hd := rfl); (first | exact qv0 | exact QV_bne Tryz.underlying4 rfl rfl | exact QV_beq Tryz.underlying4 rfl rfl | exact qv1 | exact q_callSA (eqArch_ok js njs) | exact q_callA (hdls) | exact q_callA (hxls)); (exact gy0)) | (apply hwb (hd := rfl); (first | exact q_box rfl rfl rfl | exact q_allocT rfl); (exact gy0); rfl) | refine hwn ⟨_, rfl, rfl⟩ rfl ?_ | refine hwnu ⟨_, rfl, rfl⟩ rfl ?_ | (apply hwn1 (hd := rfl); exact q_call1A 10 7 (toArch_ok js njs); (exact gy0); rfl) | refine hwi rfl rfl List.not_mem_nil rfl rfl rfl rfl rfl ?_))
      (repeat (first | refine WL_nil ?_ | (apply wl0 (hd := rfl); (first | exact QV_bin rfl rfl hk0 | exact q_neS rfl rfl rfl | exact q_neB Tryz.underlying4 rfl rfl rfl | exact qv0 | exact QV_bne Tryz.underlying4 rfl rfl | exact QV_beq Tryz.underlying4 rfl rfl | exact qv1 | exact q_callA (hmls) | exact q_callSA (eqArch_ok js njs) | exact q_callA (hdls) | exact q_callA (hxls) | exact q_callA (hmr) | exact q_callSA (hq) | exact q_callSA (hhr) | exact q_callAX hal (h2)); (exact gy0)) | (apply wlb (hd := rfl); (first | exact q_box rfl rfl rfl | exact q_alloc); (exact gy0); rfl) | refine wln ⟨_, rfl, rfl⟩ rfl ?_ | refine wlnu ⟨_, rfl, rfl⟩ rfl ?_ | (apply wln1 (hd := rfl); exact q_call1A 20 7 (toArch_ok js njs); (exact gy0); rfl) | (apply wln1 (hd := rfl); exact q_call1A 30 7 (toArch_ok js njs); (exact gy0); rfl) | refine wst rfl rfl rfl List.not_mem_nil rfl rfl rfl rfl rfl rfl ?_ | refine wlmk (n := 2000007) (hmjs) hmore2000007 rfl (by (repeat' (first | exact MkN.nil | refine MkN.v ?_ | refine MkN.arr ?_ | refine MkN.agg ?_ ?_)); first | done | fail "open") rfl rfl (map_plainB (fun _ => rfl)) (map_plainB (fun _ => rfl)) rfl List.not_mem_nil rfl ?_ | refine W_seq ?_ | refine W_condT rfl ?_ | refine W_condF rfl ?_ | refine W_region ?_ | refine W_skip ?_ | refine W_ret ?_ | refine W_block ?_ | refine W_exit ?_))
      refine Exists.intro _ ⟨Weak.refl _, Exists.intro _ ⟨resA_tmp rfl rfl, ?_, rfl⟩⟩
      rfl
set_option maxHeartbeats 4000000 in
theorem law_ThrustsOf_noEF (js : List Jt) (ls : List Ld) (ljs : js.length ≤ 9223372036854775807) (lls : ls.length ≤ 9223372036854775807) (hb0 : (js.length : Int) ≤ 1048576) (hb1 : (ls.length : Int) ≤ 1048576 - js.length) (hejs : js = []) (hels : 0 < ls.length) (hst : thrL js ls = []) : CallOkA Tryz.prog 10 [.agg [slJt js], slLd ls] (fun r => r = vb true) := by
  have hsz0 := szArch_ok js (1048576) (by omega) ljs
  rw [if_pos hb0] at hsz0
  have njs : js.length ≤ 1048576 := by omega
  have hsz1 := szLoadS_ok ls (1048576 - js.length) (by omega) lls
  rw [if_pos hb1] at hsz1
  have nls : ls.length ≤ 1048576 := by omega
  have h1 := thrustsOf_ok js ls njs nls
  have h2 := implThrustsOf_ok js ls njs nls
  rw [hst] at h1 h2
  have hq := eqThrustS_ok [] (by simp)
  have hmr := markThrustS_no 1
  have hhr := heldThrustS_ok 0 1 (by omega) (by omega)
  have hdjs := callOk_dat (toArch_ok [] (by simp)) rfl
  have hxjs := eqArch_ok [] (by simp)
  have hmjs := markArch_no (1)
  have hnels : 0 < (ls.map Ld.row).length := by simpa using hels
  have hmls := markLoadS_ok ls (1) nls (by omega)
  have hk0 : abin .lss .i64 (1 + 3 * ls.length) 0 = some (.bool false) := by simp [abin]; omega
  subst hejs
  refine callOkX Tryz.func10 Tryz.ntmps10 Tryz.results10 rfl rfl rfl fun B w0 M I0 V0 hal => ?_
  (repeat (first | refine WL_nil ?_ | (apply wl0 (hd := rfl); (first | exact qv0 | exact QV_bne Tryz.underlying4 rfl rfl | exact QV_beq Tryz.underlying4 rfl rfl | exact qv1 | exact q_callA (hsz0) | exact q_callA (hsz1)); (exact gy0)) | (apply wlb (hd := rfl); (first | exact q_box rfl rfl rfl | exact q_alloc); (exact gy0); rfl) | refine wln ⟨_, rfl, rfl⟩ rfl ?_ | refine wlnu ⟨_, rfl, rfl⟩ rfl ?_ | refine wst rfl rfl rfl List.not_mem_nil rfl rfl rfl rfl rfl rfl ?_ | refine W_seq ?_ | refine W_condT rfl ?_ | refine W_condF rfl ?_ | refine W_region ?_ | refine W_skip ?_ | refine W_ret ?_ | refine W_block ?_ | refine W_exit ?_))
  (refine W_cond rfl (fun hc => ?_) (fun hc => ?_))
  · simp at hc; omega
  · skip
    (repeat (first | refine WL_nil ?_ | (apply wl0 (hd := rfl); (first | exact qv0 | exact QV_bne Tryz.underlying4 rfl rfl | exact QV_beq Tryz.underlying4 rfl rfl | exact qv1 | exact q_callA (hdjs) | exact q_callA (h1) | exact q_callSAX hal (h2) | exact q_callSA (hq)); (exact gy0)) | (apply wlb (hd := rfl); (first | exact q_box rfl rfl rfl | exact q_alloc); (exact gy0); rfl) | refine wln ⟨_, rfl, rfl⟩ rfl ?_ | refine wlnu ⟨_, rfl, rfl⟩ rfl ?_ | (apply wln1 (hd := rfl); exact q_call1A 100 7 (toLoadS_ok ls nls); (exact gy0); rfl) | refine wst rfl rfl rfl List.not_mem_nil rfl rfl rfl rfl rfl rfl ?_ | refine wlmu (n := 7) (N := 2000107) (toLoadS_ok ls nls) rfl hnels (map_plainB (fun _ => rfl)) rfl (by (repeat' (first | exact LeS.nil | refine LeS.v ?_ | refine LeS.sl ?_ | refine LeS.own ?_ | refine LeS.arr rfl (by first | exact len_map | exact len_mks) (map_lens (fun _ => rfl)) (map_plainB (fun _ => rfl)) ?_ | refine LeS.nilS ?_ | refine LeS.agg ?_ ?_)); first | done | fail "open") (by first | exact MutA.own | exact MutA.agg | exact MutA.tup | exact MutA.tupS) (List.length_map _) rfl rfl (fun more2000107 hmore2000107 => ?_) | refine W_seq ?_ | refine W_condT rfl ?_ | refine W_condF rfl ?_ | refine W_region ?_ | refine W_skip ?_ | refine W_ret ?_ | refine W_block ?_ | refine W_exit ?_))
    refine wdraw 5 (by kernel_rfl) (by kernel_rfl) (by kernel_rfl) rfl ?_
    (repeat (first | refine HW_nil ?_ | (apply hw0 (hd := rfl); (first | exact qv0 | exact QV_bne Tryz.underlying4 rfl rfl | exact QV_beq Tryz.underlying4 rfl rfl | exact qv1 | exact q_callA (hdjs) | exact q_callA (hxjs) | exact q_callSA (eqLoadS_ok ls nls)); (exact gy0)) | (apply hwb (hd := rfl); (first | exact q_box rfl rfl rfl | exact q_allocT rfl); (exact gy0); rfl) | refine hwn ⟨_, rfl, rfl⟩ rfl ?_ | refine hwnu ⟨_, rfl, rfl⟩ rfl ?_ | (apply hwn1 (hd := rfl); exact q_call1A 110 7 (toLoadS_ok ls nls); (exact gy0); rfl) | refine hwi rfl rfl List.not_mem_nil rfl rfl rfl rfl rfl ?_))
    (repeat (first | refine WL_nil ?_ | (apply wl0 (hd := rfl); (first | exact QV_bin rfl rfl hk0 | exact q_neS rfl rfl rfl | exact q_neB Tryz.underlying4 rfl rfl rfl | exact qv0 | exact QV_bne Tryz.underlying4 rfl rfl | exact QV_beq Tryz.underlying4 rfl rfl | exact qv1 | exact q_callA (hmjs) | exact q_callA (hdjs) | exact q_callA (hxjs) | exact q_callSA (eqLoadS_ok ls nls) | exact q_callA (hmr) | exact q_callSA (hq) | exact q_callSA (hhr) | exact q_callAX hal (h2)); (exact gy0)) | (apply wlb (hd := rfl); (first | exact q_box rfl rfl rfl | exact q_alloc); (exact gy0); rfl) | refine wln ⟨_, rfl, rfl⟩ rfl ?_ | refine wlnu ⟨_, rfl, rfl⟩ rfl ?_ | (apply wln1 (hd := rfl); exact q_call1A 120 7 (toLoadS_ok ls nls); (exact gy0); rfl) | (apply wln1 (hd := rfl); exact q_call1A 130 7 (toLoadS_ok ls nls); (exact gy0); rfl) | refine wst rfl rfl rfl List.not_mem_nil rfl rfl rfl rfl rfl rfl ?_ | refine wlmk (n := 2000107) (hmls) hmore2000107 rfl (by (repeat' (first | exact MkN.nil | refine MkN.v ?_ | refine MkN.arr ?_ | refine MkN.agg ?_ ?_)); first | done | fail "open") rfl rfl (map_plainB (fun _ => rfl)) (map_plainB (fun _ => rfl)) rfl List.not_mem_nil rfl ?_ | refine W_seq ?_ | refine W_condT rfl ?_ | refine W_condF rfl ?_ | refine W_region ?_ | refine W_skip ?_ | refine W_ret ?_ | refine W_block ?_ | refine W_exit ?_))
    refine Exists.intro _ ⟨Weak.refl _, Exists.intro _ ⟨resA_tmp rfl rfl, ?_, rfl⟩⟩
    rfl
set_option maxHeartbeats 4000000 in
theorem law_ThrustsOf_noEE (js : List Jt) (ls : List Ld) (ljs : js.length ≤ 9223372036854775807) (lls : ls.length ≤ 9223372036854775807) (hb0 : (js.length : Int) ≤ 1048576) (hb1 : (ls.length : Int) ≤ 1048576 - js.length) (hejs : js = []) (hels : ls = []) (hst : thrL js ls = []) : CallOkA Tryz.prog 10 [.agg [slJt js], slLd ls] (fun r => r = vb true) := by
  have hsz0 := szArch_ok js (1048576) (by omega) ljs
  rw [if_pos hb0] at hsz0
  have njs : js.length ≤ 1048576 := by omega
  have hsz1 := szLoadS_ok ls (1048576 - js.length) (by omega) lls
  rw [if_pos hb1] at hsz1
  have nls : ls.length ≤ 1048576 := by omega
  have h1 := thrustsOf_ok js ls njs nls
  have h2 := implThrustsOf_ok js ls njs nls
  rw [hst] at h1 h2
  have hq := eqThrustS_ok [] (by simp)
  have hmr := markThrustS_no 1
  have hhr := heldThrustS_ok 0 1 (by omega) (by omega)
  have hdjs := callOk_dat (toArch_ok [] (by simp)) rfl
  have hxjs := eqArch_ok [] (by simp)
  have hmjs := markArch_no (1)
  have hdls := callOk_dat (toLoadS_ok [] (by simp)) rfl
  have hxls := eqLoadS_ok [] (by simp)
  have hmls := markLoadS_no (1)
  subst hejs
  subst hels
  refine callOkX Tryz.func10 Tryz.ntmps10 Tryz.results10 rfl rfl rfl fun B w0 M I0 V0 hal => ?_
  (repeat (first | refine WL_nil ?_ | (apply wl0 (hd := rfl); (first | exact qv0 | exact QV_bne Tryz.underlying4 rfl rfl | exact QV_beq Tryz.underlying4 rfl rfl | exact qv1 | exact q_callA (hsz0) | exact q_callA (hsz1) | exact q_callA (hdjs) | exact q_callA (hdls) | exact q_callA (h1) | exact q_callSAX hal (h2) | exact q_callSA (hq)); (exact gy0)) | (apply wlb (hd := rfl); (first | exact q_box rfl rfl rfl | exact q_alloc); (exact gy0); rfl) | refine wln ⟨_, rfl, rfl⟩ rfl ?_ | refine wlnu ⟨_, rfl, rfl⟩ rfl ?_ | refine wst rfl rfl rfl List.not_mem_nil rfl rfl rfl rfl rfl rfl ?_ | refine W_seq ?_ | refine W_condT rfl ?_ | refine W_condF rfl ?_ | refine W_region ?_ | refine W_skip ?_ | refine W_ret ?_ | refine W_block ?_ | refine W_exit ?_))
  refine wdraw 5 (by kernel_rfl) (by kernel_rfl) (by kernel_rfl) rfl ?_
  (repeat (first | refine HW_nil ?_ | (apply hw0 (hd := rfl); (first | exact qv0 | exact QV_bne Tryz.underlying4 rfl rfl | exact QV_beq Tryz.underlying4 rfl rfl | exact qv1 | exact q_callA (hdjs) | exact q_callA (hxjs) | exact q_callA (hdls) | exact q_callA (hxls)); (exact gy0)) | (apply hwb (hd := rfl); (first | exact q_box rfl rfl rfl | exact q_allocT rfl); (exact gy0); rfl) | refine hwn ⟨_, rfl, rfl⟩ rfl ?_ | refine hwnu ⟨_, rfl, rfl⟩ rfl ?_ | refine hwi rfl rfl List.not_mem_nil rfl rfl rfl rfl rfl ?_))
  (repeat (first | refine WL_nil ?_ | (apply wl0 (hd := rfl); (first | exact q_neS rfl rfl rfl | exact q_neB Tryz.underlying4 rfl rfl rfl | exact qv0 | exact QV_bne Tryz.underlying4 rfl rfl | exact QV_beq Tryz.underlying4 rfl rfl | exact qv1 | exact q_callA (hmjs) | exact q_callA (hmls) | exact q_callA (hdjs) | exact q_callA (hxjs) | exact q_callA (hdls) | exact q_callA (hxls) | exact q_callA (hmr) | exact q_callSA (hq) | exact q_callSA (hhr) | exact q_callAX hal (h2)); (exact gy0)) | (apply wlb (hd := rfl); (first | exact q_box rfl rfl rfl | exact q_alloc); (exact gy0); rfl) | refine wln ⟨_, rfl, rfl⟩ rfl ?_ | refine wlnu ⟨_, rfl, rfl⟩ rfl ?_ | refine wst rfl rfl rfl List.not_mem_nil rfl rfl rfl rfl rfl rfl ?_ | refine W_seq ?_ | refine W_condT rfl ?_ | refine W_condF rfl ?_ | refine W_region ?_ | refine W_skip ?_ | refine W_ret ?_ | refine W_block ?_ | refine W_exit ?_))
  refine Exists.intro _ ⟨Weak.refl _, Exists.intro _ ⟨resA_tmp rfl rfl, ?_, rfl⟩⟩
  rfl
set_option maxHeartbeats 4000000 in
theorem law_ThrustsOf_yesFF (js : List Jt) (ls : List Ld) (ljs : js.length ≤ 9223372036854775807) (lls : ls.length ≤ 9223372036854775807) (hb0 : (js.length : Int) ≤ 1048576) (hb1 : (ls.length : Int) ≤ 1048576 - js.length) (hejs : 0 < js.length) (hels : 0 < ls.length) (hst : 0 < (thrL js ls).length) : CallOkA Tryz.prog 10 [.agg [slJt js], slLd ls] (fun r => r = vb true) := by
  have hsz0 := szArch_ok js (1048576) (by omega) ljs
  rw [if_pos hb0] at hsz0
  have njs : js.length ≤ 1048576 := by omega
  have hsz1 := szLoadS_ok ls (1048576 - js.length) (by omega) lls
  rw [if_pos hb1] at hsz1
  have nls : ls.length ≤ 1048576 := by omega
  have h1 := thrustsOf_ok js ls njs nls
  have h2 := implThrustsOf_own js ls njs nls
  have hnr : (thrL js ls).length ≤ 1048576 := by have := thrL_len js ls; omega
  have hr8 : 0 < ((thrL js ls).map Th.row).length := by simpa using hst
  have hq := eqThrustS_ok (thrL js ls) hnr
  have hmr := markThrustS_ok (thrL js ls) 1 hnr (by omega)
  have hhr := heldThrustS_ok (thrL js ls).length 1 hnr (by omega)
  have hk1 : abin .lss .i64 (1 + 4 * ((thrL js ls).length : Int)) 0 = some (.bool false) := by simp [abin]; omega
  have hnejs : 0 < (js.map Jt.row).length := by simpa using hejs
  have hmjs := markArch_ok js (1) njs (by omega)
  have hnels : 0 < (ls.map Ld.row).length := by simpa using hels
  have hmls := markLoadS_ok ls (1 + 4 * js.length) nls (by omega)
  have hk0 : abin .lss .i64 (1 + 4 * js.length + 3 * ls.length) 0 = some (.bool false) := by simp [abin]; omega
  refine callOkX Tryz.func10 Tryz.ntmps10 Tryz.results10 rfl rfl rfl fun B w0 M I0 V0 hal => ?_
  (repeat (first | refine WL_nil ?_ | (apply wl0 (hd := rfl); (first | exact qv0 | exact QV_bne Tryz.underlying4 rfl rfl | exact QV_beq Tryz.underlying4 rfl rfl | exact qv1 | exact q_callA (hsz0)); (exact gy0)) | (apply wlb (hd := rfl); (first | exact q_box rfl rfl rfl | exact q_alloc); (exact gy0); rfl) | refine wln ⟨_, rfl, rfl⟩ rfl ?_ | refine wlnu ⟨_, rfl, rfl⟩ rfl ?_ | refine wst rfl rfl rfl List.not_mem_nil rfl rfl rfl rfl rfl rfl ?_ | refine W_seq ?_ | refine W_condT rfl ?_ | refine W_condF rfl ?_ | refine W_region ?_ | refine W_skip ?_ | refine W_ret ?_ | refine W_block ?_ | refine W_exit ?_))
  (refine W_cond rfl (fun hc => ?_) (fun hc => ?_))
  · simp at hc; omega
  · skip
    (repeat (first | refine WL_nil ?_ | (apply wl0 (hd := rfl); (first | exact qv0 | exact QV_bne Tryz.underlying4 rfl rfl | exact QV_beq Tryz.underlying4 rfl rfl | exact qv1 | exact q_callA (hsz1)); (exact gy0)) | (apply wlb (hd := rfl); (first | exact q_box rfl rfl rfl | exact q_alloc); (exact gy0); rfl) | refine wln ⟨_, rfl, rfl⟩ rfl ?_ | refine wlnu ⟨_, rfl, rfl⟩ rfl ?_ | refine wst rfl rfl rfl List.not_mem_nil rfl rfl rfl rfl rfl rfl ?_ | refine W_seq ?_ | refine W_condT rfl ?_ | refine W_condF rfl ?_ | refine W_region ?_ | refine W_skip ?_ | refine W_ret ?_ | refine W_block ?_ | refine W_exit ?_))
    (refine W_cond rfl (fun hc => ?_) (fun hc => ?_))
    · simp at hc; omega
    · skip
      (repeat (first | refine WL_nil ?_ | (apply wl0 (hd := rfl); (first | exact qv0 | exact QV_bne Tryz.underlying4 rfl rfl | exact QV_beq Tryz.underlying4 rfl rfl | exact qv1 | exact q_callA (h1) | exact q_callSA (hq)); (exact gy0)) | (apply wlb (hd := rfl); (first | exact q_box rfl rfl rfl | exact q_alloc); (exact gy0); rfl) | refine wln ⟨_, rfl, rfl⟩ rfl ?_ | refine wlnu ⟨_, rfl, rfl⟩ rfl ?_ | (apply wln1 (hd := rfl); exact q_call1A 0 7 (toArch_ok js njs); (exact gy0); rfl) | (apply wln1 (hd := rfl); exact q_call1A 100 7 (toLoadS_ok ls nls); (exact gy0); rfl) | refine wst rfl rfl rfl List.not_mem_nil rfl rfl rfl rfl rfl rfl ?_ | refine wlmu (n := 7) (N := 2000007) (toArch_ok js njs) rfl hnejs (map_plainB (fun _ => rfl)) rfl (by (repeat' (first | exact LeS.nil | refine LeS.v ?_ | refine LeS.sl ?_ | refine LeS.own ?_ | refine LeS.arr rfl (by first | exact len_map | exact len_mks) (map_lens (fun _ => rfl)) (map_plainB (fun _ => rfl)) ?_ | refine LeS.nilS ?_ | refine LeS.agg ?_ ?_)); first | done | fail "open") (by first | exact MutA.own | exact MutA.agg | exact MutA.tup | exact MutA.tupS) (List.length_map _) rfl rfl (fun more2000007 hmore2000007 => ?_) | refine wlmu (n := 7) (N := 2000107) (toLoadS_ok ls nls) rfl hnels (map_plainB (fun _ => rfl)) rfl (by (repeat' (first | exact LeS.nil | refine LeS.v ?_ | refine LeS.sl ?_ | refine LeS.own ?_ | refine LeS.arr rfl (by first | exact len_map | exact len_mks) (map_lens (fun _ => rfl)) (map_plainB (fun _ => rfl)) ?_ | refine LeS.nilS ?_ | refine LeS.agg ?_ ?_)); first | done | fail "open") (by first | exact MutA.own | exact MutA.agg | exact MutA.tup | exact MutA.tupS) (List.length_map _) rfl rfl (fun more2000107 hmore2000107 => ?_) | refine wlmuX hal (n := 6) (N := 2000906) (h2) rfl hr8 (map_plainB (fun _ => rfl)) rfl (by (repeat' (first | exact LeS.nil | refine LeS.v ?_ | refine LeS.sl ?_ | refine LeS.own ?_ | refine LeS.arr rfl (by first | exact len_map | exact len_mks) (map_lens (fun _ => rfl)) (map_plainB (fun _ => rfl)) ?_ | refine LeS.nilS ?_ | refine LeS.agg ?_ ?_)); first | done | fail "open") (by first | exact MutA.own | exact MutA.agg | exact MutA.tup | exact MutA.tupS) (List.length_map _) rfl rfl (fun more2000906 hmore2000906 => ?_) | refine W_seq ?_ | refine W_condT rfl ?_ | refine W_condF rfl ?_ | refine W_region ?_ | refine W_skip ?_ | refine W_ret ?_ | refine W_block ?_ | refine W_exit ?_))
      refine wdraw 5 (by kernel_rfl) (by kernel_rfl) (by kernel_rfl) rfl ?_
      (repeat (first | refine HW_nil ?_ | (apply hw0 (hd := rfl); (first | exact qv0 | exact QV_bne Tryz.underlying4 rfl rfl | exact QV_beq Tryz.underlying4 rfl rfl | exact qv1 | exact q_callSA (eqArch_ok js njs) | exact q_callSA (eqLoadS_ok ls nls)); (exact gy0)) | (apply hwb (hd := rfl); (first | exact q_box rfl rfl rfl | exact q_allocT rfl); (exact gy0); rfl) | refine hwn ⟨_, rfl, rfl⟩ rfl ?_ | refine hwnu ⟨_, rfl, rfl⟩ rfl ?_ | (apply hwn1 (hd := rfl); exact q_call1A 10 7 (toArch_ok js njs); (exact gy0); rfl) | (apply hwn1 (hd := rfl); exact q_call1A 110 7 (toLoadS_ok ls nls); (exact gy0); rfl) | refine hwi rfl rfl List.not_mem_nil rfl rfl rfl rfl rfl ?_))
      (repeat (first | refine WL_nil ?_ | (apply wl0 (hd := rfl); (first | exact QV_bin rfl rfl hk0 | exact QV_bin rfl rfl hk1 | exact q_neS rfl rfl rfl | exact q_neB Tryz.underlying4 rfl rfl rfl | exact qv0 | exact QV_bne Tryz.underlying4 rfl rfl | exact QV_beq Tryz.underlying4 rfl rfl | exact qv1 | exact q_callSA (eqArch_ok js njs) | exact q_callSA (eqLoadS_ok ls nls) | exact q_callSA (hq) | exact q_callSA (hhr)); (exact gy0)) | (apply wlb (hd := rfl); (first | exact q_box rfl rfl rfl | exact q_alloc); (exact gy0); rfl) | refine wln ⟨_, rfl, rfl⟩ rfl ?_ | refine wlnu ⟨_, rfl, rfl⟩ rfl ?_ | (apply wln1 (hd := rfl); exact q_call1A 20 7 (toArch_ok js njs); (exact gy0); rfl) | (apply wln1 (hd := rfl); exact q_call1A 30 7 (toArch_ok js njs); (exact gy0); rfl) | (apply wln1 (hd := rfl); exact q_call1A 120 7 (toLoadS_ok ls nls); (exact gy0); rfl) | (apply wln1 (hd := rfl); exact q_call1A 130 7 (toLoadS_ok ls nls); (exact gy0); rfl) | (apply wln1 (hd := rfl); exact q_call1AX hal 900 6 (h2); (exact gy0); rfl) | refine wst rfl rfl rfl List.not_mem_nil rfl rfl rfl rfl rfl rfl ?_ | refine wlmk (n := 2000007) (hmjs) hmore2000007 rfl (by (repeat' (first | exact MkN.nil | refine MkN.v ?_ | refine MkN.arr ?_ | refine MkN.agg ?_ ?_)); first | done | fail "open") rfl rfl (map_plainB (fun _ => rfl)) (map_plainB (fun _ => rfl)) rfl List.not_mem_nil rfl ?_ | refine wlmk (n := 2000107) (hmls) hmore2000107 rfl (by (repeat' (first | exact MkN.nil | refine MkN.v ?_ | refine MkN.arr ?_ | refine MkN.agg ?_ ?_)); first | done | fail "open") rfl rfl (map_plainB (fun _ => rfl)) (map_plainB (fun _ => rfl)) rfl List.not_mem_nil rfl ?_ | refine wlmk (n := 2000906) (hmr) hmore2000906 rfl (by (repeat' (first | exact MkN.nil | refine MkN.v ?_ | refine MkN.arr ?_ | refine MkN.agg ?_ ?_)); first | done | fail "open") rfl rfl (map_plainB (fun _ => rfl)) (map_plainB (fun _ => rfl)) rfl List.not_mem_nil rfl ?_ | refine W_seq ?_ | refine W_condT rfl ?_ | refine W_condF rfl ?_ | refine W_region ?_ | refine W_skip ?_ | refine W_ret ?_ | refine W_block ?_ | refine W_exit ?_))
      refine Exists.intro _ ⟨Weak.refl _, Exists.intro _ ⟨resA_tmp rfl rfl, ?_, rfl⟩⟩
      rfl
set_option maxHeartbeats 4000000 in
theorem law_ThrustsOf_yesFE (js : List Jt) (ls : List Ld) (ljs : js.length ≤ 9223372036854775807) (lls : ls.length ≤ 9223372036854775807) (hb0 : (js.length : Int) ≤ 1048576) (hb1 : (ls.length : Int) ≤ 1048576 - js.length) (hejs : 0 < js.length) (hels : ls = []) (hst : 0 < (thrL js ls).length) : CallOkA Tryz.prog 10 [.agg [slJt js], slLd ls] (fun r => r = vb true) := by
  have hsz0 := szArch_ok js (1048576) (by omega) ljs
  rw [if_pos hb0] at hsz0
  have njs : js.length ≤ 1048576 := by omega
  have hsz1 := szLoadS_ok ls (1048576 - js.length) (by omega) lls
  rw [if_pos hb1] at hsz1
  have nls : ls.length ≤ 1048576 := by omega
  have h1 := thrustsOf_ok js ls njs nls
  have h2 := implThrustsOf_own js ls njs nls
  have hnr : (thrL js ls).length ≤ 1048576 := by have := thrL_len js ls; omega
  have hr8 : 0 < ((thrL js ls).map Th.row).length := by simpa using hst
  have hq := eqThrustS_ok (thrL js ls) hnr
  have hmr := markThrustS_ok (thrL js ls) 1 hnr (by omega)
  have hhr := heldThrustS_ok (thrL js ls).length 1 hnr (by omega)
  have hk1 : abin .lss .i64 (1 + 4 * ((thrL js ls).length : Int)) 0 = some (.bool false) := by simp [abin]; omega
  have hnejs : 0 < (js.map Jt.row).length := by simpa using hejs
  have hmjs := markArch_ok js (1) njs (by omega)
  have hdls := callOk_dat (toLoadS_ok [] (by simp)) rfl
  have hxls := eqLoadS_ok [] (by simp)
  have hmls := markLoadS_no (1 + 4 * js.length)
  have hk0 : abin .lss .i64 (1 + 4 * js.length) 0 = some (.bool false) := by simp [abin]; omega
  subst hels
  refine callOkX Tryz.func10 Tryz.ntmps10 Tryz.results10 rfl rfl rfl fun B w0 M I0 V0 hal => ?_
  (repeat (first | refine WL_nil ?_ | (apply wl0 (hd := rfl); (first | exact qv0 | exact QV_bne Tryz.underlying4 rfl rfl | exact QV_beq Tryz.underlying4 rfl rfl | exact qv1 | exact q_callA (hsz0)); (exact gy0)) | (apply wlb (hd := rfl); (first | exact q_box rfl rfl rfl | exact q_alloc); (exact gy0); rfl) | refine wln ⟨_, rfl, rfl⟩ rfl ?_ | refine wlnu ⟨_, rfl, rfl⟩ rfl ?_ | refine wst rfl rfl rfl List.not_mem_nil rfl rfl rfl rfl rfl rfl ?_ | refine W_seq ?_ | refine W_condT rfl ?_ | refine W_condF rfl ?_ | refine W_region ?_ | refine W_skip ?_ | refine W_ret ?_ | refine W_block ?_ | refine W_exit ?_))
  (refine W_cond rfl (fun hc => ?_) (fun hc => ?_))
  · simp at hc; omega
  · skip
    (repeat (first | refine WL_nil ?_ | (apply wl0 (hd := rfl); (first | exact qv0 | exact QV_bne Tryz.underlying4 rfl rfl | exact QV_beq Tryz.underlying4 rfl rfl | exact qv1 | exact q_callA (hsz1)); (exact gy0)) | (apply wlb (hd := rfl); (first | exact q_box rfl rfl rfl | exact q_alloc); (exact gy0); rfl) | refine wln ⟨_, rfl, rfl⟩ rfl ?_ | refine wlnu ⟨_, rfl, rfl⟩ rfl ?_ | refine wst rfl rfl rfl List.not_mem_nil rfl rfl rfl rfl rfl rfl ?_ | refine W_seq ?_ | refine W_condT rfl ?_ | refine W_condF rfl ?_ | refine W_region ?_ | refine W_skip ?_ | refine W_ret ?_ | refine W_block ?_ | refine W_exit ?_))
    (refine W_cond rfl (fun hc => ?_) (fun hc => ?_))
    · simp at hc; omega
    · skip
      (repeat (first | refine WL_nil ?_ | (apply wl0 (hd := rfl); (first | exact qv0 | exact QV_bne Tryz.underlying4 rfl rfl | exact QV_beq Tryz.underlying4 rfl rfl | exact qv1 | exact q_callA (hdls) | exact q_callA (h1) | exact q_callSA (hq)); (exact gy0)) | (apply wlb (hd := rfl); (first | exact q_box rfl rfl rfl | exact q_alloc); (exact gy0); rfl) | refine wln ⟨_, rfl, rfl⟩ rfl ?_ | refine wlnu ⟨_, rfl, rfl⟩ rfl ?_ | (apply wln1 (hd := rfl); exact q_call1A 0 7 (toArch_ok js njs); (exact gy0); rfl) | refine wst rfl rfl rfl List.not_mem_nil rfl rfl rfl rfl rfl rfl ?_ | refine wlmu (n := 7) (N := 2000007) (toArch_ok js njs) rfl hnejs (map_plainB (fun _ => rfl)) rfl (by (repeat' (first | exact LeS.nil | refine LeS.v ?_ | refine LeS.sl ?_ | refine LeS.own ?_ | refine LeS.arr rfl (by first | exact len_map | exact len_mks) (map_lens (fun _ => rfl)) (map_plainB (fun _ => rfl)) ?_ | refine LeS.nilS ?_ | refine LeS.agg ?_ ?_)); first | done | fail "open") (by first | exact MutA.own | exact MutA.agg | exact MutA.tup | exact MutA.tupS) (List.length_map _) rfl rfl (fun more2000007 hmore2000007 => ?_) | refine wlmuX hal (n := 6) (N := 2000906) (h2) rfl hr8 (map_plainB (fun _ => rfl)) rfl (by (repeat' (first | exact LeS.nil | refine LeS.v ?_ | refine LeS.sl ?_ | refine LeS.own ?_ | refine LeS.arr rfl (by first | exact len_map | exact len_mks) (map_lens (fun _ => rfl)) (map_plainB (fun _ => rfl)) ?_ | refine LeS.nilS ?_ | refine LeS.agg ?_ ?_)); first | done | fail "open") (by first | exact MutA.own | exact MutA.agg | exact MutA.tup | exact MutA.tupS) (List.length_map _) rfl rfl (fun more2000906 hmore2000906 => ?_) | refine W_seq ?_ | refine W_condT rfl ?_ | refine W_condF rfl ?_ | refine W_region ?_ | refine W_skip ?_ | refine W_ret ?_ | refine W_block ?_ | refine W_exit ?_))
      refine wdraw 5 (by kernel_rfl) (by kernel_rfl) (by kernel_rfl) rfl ?_
      (repeat (first | refine HW_nil ?_ | (apply hw0 (hd := rfl); (first | exact qv0 | exact QV_bne Tryz.underlying4 rfl rfl | exact QV_beq Tryz.underlying4 rfl rfl | exact qv1 | exact q_callSA (eqArch_ok js njs) | exact q_callA (hdls) | exact q_callA (hxls)); (exact gy0)) | (apply hwb (hd := rfl); (first | exact q_box rfl rfl rfl | exact q_allocT rfl); (exact gy0); rfl) | refine hwn ⟨_, rfl, rfl⟩ rfl ?_ | refine hwnu ⟨_, rfl, rfl⟩ rfl ?_ | (apply hwn1 (hd := rfl); exact q_call1A 10 7 (toArch_ok js njs); (exact gy0); rfl) | refine hwi rfl rfl List.not_mem_nil rfl rfl rfl rfl rfl ?_))
      (repeat (first | refine WL_nil ?_ | (apply wl0 (hd := rfl); (first | exact QV_bin rfl rfl hk0 | exact QV_bin rfl rfl hk1 | exact q_neS rfl rfl rfl | exact q_neB Tryz.underlying4 rfl rfl rfl | exact qv0 | exact QV_bne Tryz.underlying4 rfl rfl | exact QV_beq Tryz.underlying4 rfl rfl | exact qv1 | exact q_callA (hmls) | exact q_callSA (eqArch_ok js njs) | exact q_callA (hdls) | exact q_callA (hxls) | exact q_callSA (hq) | exact q_callSA (hhr)); (exact gy0)) | (apply wlb (hd := rfl); (first | exact q_box rfl rfl rfl | exact q_alloc); (exact gy0); rfl) | refine wln ⟨_, rfl, rfl⟩ rfl ?_ | refine wlnu ⟨_, rfl, rfl⟩ rfl ?_ | (apply wln1 (hd := rfl); exact q_call1A 20 7 (toArch_ok js njs); (exact gy0); rfl) | (apply wln1 (hd := rfl); exact q_call1A 30 7 (toArch_ok js njs); (exact gy0); rfl) | (apply wln1 (hd := rfl); exact q_call1AX hal 900 6 (h2); (exact gy0); rfl) | refine wst rfl rfl rfl List.not_mem_nil rfl rfl rfl rfl rfl rfl ?_ | refine wlmk (n := 2000007) (hmjs) hmore2000007 rfl (by (repeat' (first | exact MkN.nil | refine MkN.v ?_ | refine MkN.arr ?_ | refine MkN.agg ?_ ?_)); first | done | fail "open") rfl rfl (map_plainB (fun _ => rfl)) (map_plainB (fun _ => rfl)) rfl List.not_mem_nil rfl ?_ | refine wlmk (n := 2000906) (hmr) hmore2000906 rfl (by (repeat' (first | exact MkN.nil | refine MkN.v ?_ | refine MkN.arr ?_ | refine MkN.agg ?_ ?_)); first | done | fail "open") rfl rfl (map_plainB (fun _ => rfl)) (map_plainB (fun _ => rfl)) rfl List.not_mem_nil rfl ?_ | refine W_seq ?_ | refine W_condT rfl ?_ | refine W_condF rfl ?_ | refine W_region ?_ | refine W_skip ?_ | refine W_ret ?_ | refine W_block ?_ | refine W_exit ?_))
      refine Exists.intro _ ⟨Weak.refl _, Exists.intro _ ⟨resA_tmp rfl rfl, ?_, rfl⟩⟩
      rfl
set_option maxHeartbeats 4000000 in
theorem law_ThrustsOf_yesEF (js : List Jt) (ls : List Ld) (ljs : js.length ≤ 9223372036854775807) (lls : ls.length ≤ 9223372036854775807) (hb0 : (js.length : Int) ≤ 1048576) (hb1 : (ls.length : Int) ≤ 1048576 - js.length) (hejs : js = []) (hels : 0 < ls.length) (hst : 0 < (thrL js ls).length) : CallOkA Tryz.prog 10 [.agg [slJt js], slLd ls] (fun r => r = vb true) := by
  have hsz0 := szArch_ok js (1048576) (by omega) ljs
  rw [if_pos hb0] at hsz0
  have njs : js.length ≤ 1048576 := by omega
  have hsz1 := szLoadS_ok ls (1048576 - js.length) (by omega) lls
  rw [if_pos hb1] at hsz1
  have nls : ls.length ≤ 1048576 := by omega
  have h1 := thrustsOf_ok js ls njs nls
  have h2 := implThrustsOf_own js ls njs nls
  have hnr : (thrL js ls).length ≤ 1048576 := by have := thrL_len js ls; omega
  have hr8 : 0 < ((thrL js ls).map Th.row).length := by simpa using hst
  have hq := eqThrustS_ok (thrL js ls) hnr
  have hmr := markThrustS_ok (thrL js ls) 1 hnr (by omega)
  have hhr := heldThrustS_ok (thrL js ls).length 1 hnr (by omega)
  have hk1 : abin .lss .i64 (1 + 4 * ((thrL js ls).length : Int)) 0 = some (.bool false) := by simp [abin]; omega
  have hdjs := callOk_dat (toArch_ok [] (by simp)) rfl
  have hxjs := eqArch_ok [] (by simp)
  have hmjs := markArch_no (1)
  have hnels : 0 < (ls.map Ld.row).length := by simpa using hels
  have hmls := markLoadS_ok ls (1) nls (by omega)
  have hk0 : abin .lss .i64 (1 + 3 * ls.length) 0 = some (.bool false) := by simp [abin]; omega
  subst hejs
  refine callOkX Tryz.func10 Tryz.ntmps10 Tryz.results10 rfl rfl rfl fun B w0 M I0 V0 hal => ?_
  (repeat (first | refine WL_nil ?_ | (apply wl0 (hd := rfl); (first | exact qv0 | exact QV_bne Tryz.underlying4 rfl rfl | exact QV_beq Tryz.underlying4 rfl rfl | exact qv1 | exact q_callA (hsz0) | exact q_callA (hsz1)); (exact gy0)) | (apply wlb (hd := rfl); (first | exact q_box rfl rfl rfl | exact q_alloc); (exact gy0); rfl) | refine wln ⟨_, rfl, rfl⟩ rfl ?_ | refine wlnu ⟨_, rfl, rfl⟩ rfl ?_ | refine wst rfl rfl rfl List.not_mem_nil rfl rfl rfl rfl rfl rfl ?_ | refine W_seq ?_ | refine W_condT rfl ?_ | refine W_condF rfl ?_ | refine W_region ?_ | refine W_skip ?_ | refine W_ret ?_ | refine W_block ?_ | refine W_exit ?_))
  (refine W_cond rfl (fun hc => ?_) (fun hc => ?_))
  · simp at hc; omega
  · skip
    (repeat (first | refine WL_nil ?_ | (apply wl0 (hd := rfl); (first | exact qv0 | exact QV_bne Tryz.underlying4 rfl rfl | exact QV_beq Tryz.underlying4 rfl rfl | exact qv1 | exact q_callA (hdjs) | exact q_callA (h1) | exact q_callSA (hq)); (exact gy0)) | (apply wlb (hd := rfl); (first | exact q_box rfl rfl rfl | exact q_alloc); (exact gy0); rfl) | refine wln ⟨_, rfl, rfl⟩ rfl ?_ | refine wlnu ⟨_, rfl, rfl⟩ rfl ?_ | (apply wln1 (hd := rfl); exact q_call1A 100 7 (toLoadS_ok ls nls); (exact gy0); rfl) | refine wst rfl rfl rfl List.not_mem_nil rfl rfl rfl rfl rfl rfl ?_ | refine wlmu (n := 7) (N := 2000107) (toLoadS_ok ls nls) rfl hnels (map_plainB (fun _ => rfl)) rfl (by (repeat' (first | exact LeS.nil | refine LeS.v ?_ | refine LeS.sl ?_ | refine LeS.own ?_ | refine LeS.arr rfl (by first | exact len_map | exact len_mks) (map_lens (fun _ => rfl)) (map_plainB (fun _ => rfl)) ?_ | refine LeS.nilS ?_ | refine LeS.agg ?_ ?_)); first | done | fail "open") (by first | exact MutA.own | exact MutA.agg | exact MutA.tup | exact MutA.tupS) (List.length_map _) rfl rfl (fun more2000107 hmore2000107 => ?_) | refine wlmuX hal (n := 6) (N := 2000906) (h2) rfl hr8 (map_plainB (fun _ => rfl)) rfl (by (repeat' (first | exact LeS.nil | refine LeS.v ?_ | refine LeS.sl ?_ | refine LeS.own ?_ | refine LeS.arr rfl (by first | exact len_map | exact len_mks) (map_lens (fun _ => rfl)) (map_plainB (fun _ => rfl)) ?_ | refine LeS.nilS ?_ | refine LeS.agg ?_ ?_)); first | done | fail "open") (by first | exact MutA.own | exact MutA.agg | exact MutA.tup | exact MutA.tupS) (List.length_map _) rfl rfl (fun more2000906 hmore2000906 => ?_) | refine W_seq ?_ | refine W_condT rfl ?_ | refine W_condF rfl ?_ | refine W_region ?_ | refine W_skip ?_ | refine W_ret ?_ | refine W_block ?_ | refine W_exit ?_))
    refine wdraw 5 (by kernel_rfl) (by kernel_rfl) (by kernel_rfl) rfl ?_
    (repeat (first | refine HW_nil ?_ | (apply hw0 (hd := rfl); (first | exact qv0 | exact QV_bne Tryz.underlying4 rfl rfl | exact QV_beq Tryz.underlying4 rfl rfl | exact qv1 | exact q_callA (hdjs) | exact q_callA (hxjs) | exact q_callSA (eqLoadS_ok ls nls)); (exact gy0)) | (apply hwb (hd := rfl); (first | exact q_box rfl rfl rfl | exact q_allocT rfl); (exact gy0); rfl) | refine hwn ⟨_, rfl, rfl⟩ rfl ?_ | refine hwnu ⟨_, rfl, rfl⟩ rfl ?_ | (apply hwn1 (hd := rfl); exact q_call1A 110 7 (toLoadS_ok ls nls); (exact gy0); rfl) | refine hwi rfl rfl List.not_mem_nil rfl rfl rfl rfl rfl ?_))
    (repeat (first | refine WL_nil ?_ | (apply wl0 (hd := rfl); (first | exact QV_bin rfl rfl hk0 | exact QV_bin rfl rfl hk1 | exact q_neS rfl rfl rfl | exact q_neB Tryz.underlying4 rfl rfl rfl | exact qv0 | exact QV_bne Tryz.underlying4 rfl rfl | exact QV_beq Tryz.underlying4 rfl rfl | exact qv1 | exact q_callA (hmjs) | exact q_callA (hdjs) | exact q_callA (hxjs) | exact q_callSA (eqLoadS_ok ls nls) | exact q_callSA (hq) | exact q_callSA (hhr)); (exact gy0)) | (apply wlb (hd := rfl); (first | exact q_box rfl rfl rfl | exact q_alloc); (exact gy0); rfl) | refine wln ⟨_, rfl, rfl⟩ rfl ?_ | refine wlnu ⟨_, rfl, rfl⟩ rfl ?_ | (apply wln1 (hd := rfl); exact q_call1A 120 7 (toLoadS_ok ls nls); (exact gy0); rfl) | (apply wln1 (hd := rfl); exact q_call1A 130 7 (toLoadS_ok ls nls); (exact gy0); rfl) | (apply wln1 (hd := rfl); exact q_call1AX hal 900 6 (h2); (exact gy0); rfl) | refine wst rfl rfl rfl List.not_mem_nil rfl rfl rfl rfl rfl rfl ?_ | refine wlmk (n := 2000107) (hmls) hmore2000107 rfl (by (repeat' (first | exact MkN.nil | refine MkN.v ?_ | refine MkN.arr ?_ | refine MkN.agg ?_ ?_)); first | done | fail "open") rfl rfl (map_plainB (fun _ => rfl)) (map_plainB (fun _ => rfl)) rfl List.not_mem_nil rfl ?_ | refine wlmk (n := 2000906) (hmr) hmore2000906 rfl (by (repeat' (first | exact MkN.nil | refine MkN.v ?_ | refine MkN.arr ?_ | refine MkN.agg ?_ ?_)); first | done | fail "open") rfl rfl (map_plainB (fun _ => rfl)) (map_plainB (fun _ => rfl)) rfl List.not_mem_nil rfl ?_ | refine W_seq ?_ | refine W_condT rfl ?_ | refine W_condF rfl ?_ | refine W_region ?_ | refine W_skip ?_ | refine W_ret ?_ | refine W_block ?_ | refine W_exit ?_))
    refine Exists.intro _ ⟨Weak.refl _, Exists.intro _ ⟨resA_tmp rfl rfl, ?_, rfl⟩⟩
    rfl
set_option maxHeartbeats 4000000 in
theorem law_ThrustsOf_yesEE (js : List Jt) (ls : List Ld) (ljs : js.length ≤ 9223372036854775807) (lls : ls.length ≤ 9223372036854775807) (hb0 : (js.length : Int) ≤ 1048576) (hb1 : (ls.length : Int) ≤ 1048576 - js.length) (hejs : js = []) (hels : ls = []) (hst : 0 < (thrL js ls).length) : CallOkA Tryz.prog 10 [.agg [slJt js], slLd ls] (fun r => r = vb true) := by
  have hsz0 := szArch_ok js (1048576) (by omega) ljs
  rw [if_pos hb0] at hsz0
  have njs : js.length ≤ 1048576 := by omega
  have hsz1 := szLoadS_ok ls (1048576 - js.length) (by omega) lls
  rw [if_pos hb1] at hsz1
  have nls : ls.length ≤ 1048576 := by omega
  have h1 := thrustsOf_ok js ls njs nls
  have h2 := implThrustsOf_own js ls njs nls
  have hnr : (thrL js ls).length ≤ 1048576 := by have := thrL_len js ls; omega
  have hr8 : 0 < ((thrL js ls).map Th.row).length := by simpa using hst
  have hq := eqThrustS_ok (thrL js ls) hnr
  have hmr := markThrustS_ok (thrL js ls) 1 hnr (by omega)
  have hhr := heldThrustS_ok (thrL js ls).length 1 hnr (by omega)
  have hk1 : abin .lss .i64 (1 + 4 * ((thrL js ls).length : Int)) 0 = some (.bool false) := by simp [abin]; omega
  have hdjs := callOk_dat (toArch_ok [] (by simp)) rfl
  have hxjs := eqArch_ok [] (by simp)
  have hmjs := markArch_no (1)
  have hdls := callOk_dat (toLoadS_ok [] (by simp)) rfl
  have hxls := eqLoadS_ok [] (by simp)
  have hmls := markLoadS_no (1)
  subst hejs
  subst hels
  refine callOkX Tryz.func10 Tryz.ntmps10 Tryz.results10 rfl rfl rfl fun B w0 M I0 V0 hal => ?_
  (repeat (first | refine WL_nil ?_ | (apply wl0 (hd := rfl); (first | exact qv0 | exact QV_bne Tryz.underlying4 rfl rfl | exact QV_beq Tryz.underlying4 rfl rfl | exact qv1 | exact q_callA (hsz0) | exact q_callA (hsz1) | exact q_callA (hdjs) | exact q_callA (hdls) | exact q_callA (h1) | exact q_callSA (hq)); (exact gy0)) | (apply wlb (hd := rfl); (first | exact q_box rfl rfl rfl | exact q_alloc); (exact gy0); rfl) | refine wln ⟨_, rfl, rfl⟩ rfl ?_ | refine wlnu ⟨_, rfl, rfl⟩ rfl ?_ | refine wst rfl rfl rfl List.not_mem_nil rfl rfl rfl rfl rfl rfl ?_ | refine wlmuX hal (n := 6) (N := 2000906) (h2) rfl hr8 (map_plainB (fun _ => rfl)) rfl (by (repeat' (first | exact LeS.nil | refine LeS.v ?_ | refine LeS.sl ?_ | refine LeS.own ?_ | refine LeS.arr rfl (by first | exact len_map | exact len_mks) (map_lens (fun _ => rfl)) (map_plainB (fun _ => rfl)) ?_ | refine LeS.nilS ?_ | refine LeS.agg ?_ ?_)); first | done | fail "open") (by first | exact MutA.own | exact MutA.agg | exact MutA.tup | exact MutA.tupS) (List.length_map _) rfl rfl (fun more2000906 hmore2000906 => ?_) | refine W_seq ?_ | refine W_condT rfl ?_ | refine W_condF rfl ?_ | refine W_region ?_ | refine W_skip ?_ | refine W_ret ?_ | refine W_block ?_ | refine W_exit ?_))
  refine wdraw 5 (by kernel_rfl) (by kernel_rfl) (by kernel_rfl) rfl ?_
  (repeat (first | refine HW_nil ?_ | (apply hw0 (hd := rfl); (first | exact qv0 | exact QV_bne Tryz.underlying4 rfl rfl | exact QV_beq Tryz.underlying4 rfl rfl | exact qv1 | exact q_callA (hdjs) | exact q_callA (hxjs) | exact q_callA (hdls) | exact q_callA (hxls)); (exact gy0)) | (apply hwb (hd := rfl); (first | exact q_box rfl rfl rfl | exact q_allocT rfl); (exact gy0); rfl) | refine hwn ⟨_, rfl, rfl⟩ rfl ?_ | refine hwnu ⟨_, rfl, rfl⟩ rfl ?_ | refine hwi rfl rfl List.not_mem_nil rfl rfl rfl rfl rfl ?_))
  (repeat (first | refine WL_nil ?_ | (apply wl0 (hd := rfl); (first | exact QV_bin rfl rfl hk1 | exact q_neS rfl rfl rfl | exact q_neB Tryz.underlying4 rfl rfl rfl | exact qv0 | exact QV_bne Tryz.underlying4 rfl rfl | exact QV_beq Tryz.underlying4 rfl rfl | exact qv1 | exact q_callA (hmjs) | exact q_callA (hmls) | exact q_callA (hdjs) | exact q_callA (hxjs) | exact q_callA (hdls) | exact q_callA (hxls) | exact q_callSA (hq) | exact q_callSA (hhr)); (exact gy0)) | (apply wlb (hd := rfl); (first | exact q_box rfl rfl rfl | exact q_alloc); (exact gy0); rfl) | refine wln ⟨_, rfl, rfl⟩ rfl ?_ | refine wlnu ⟨_, rfl, rfl⟩ rfl ?_ | (apply wln1 (hd := rfl); exact q_call1AX hal 900 6 (h2); (exact gy0); rfl) | refine wst rfl rfl rfl List.not_mem_nil rfl rfl rfl rfl rfl rfl ?_ | refine wlmk (n := 2000906) (hmr) hmore2000906 rfl (by (repeat' (first | exact MkN.nil | refine MkN.v ?_ | refine MkN.arr ?_ | refine MkN.agg ?_ ?_)); first | done | fail "open") rfl rfl (map_plainB (fun _ => rfl)) (map_plainB (fun _ => rfl)) rfl List.not_mem_nil rfl ?_ | refine W_seq ?_ | refine W_condT rfl ?_ | refine W_condF rfl ?_ | refine W_region ?_ | refine W_skip ?_ | refine W_ret ?_ | refine W_block ?_ | refine W_exit ?_))
  refine Exists.intro _ ⟨Weak.refl _, Exists.intro _ ⟨resA_tmp rfl rfl, ?_, rfl⟩⟩
  rfl
theorem law_FnExactThrustsOf (js : List Jt) (ls : List Ld) (ljs : js.length ≤ 9223372036854775807) (lls : ls.length ≤ 9223372036854775807) : CallOkA Tryz.prog 10 [.agg [slJt js], slLd ls] (fun r => r = vb true) := by
  have hsz0 := szArch_ok js
  have hsz1 := szLoadS_ok ls
  by_cases hb0 : (js.length : Int) ≤ 1048576
  · skip
    by_cases hb1 : (ls.length : Int) ≤ 1048576 - js.length
    · skip
      rcases thr_or js ls with hst | hst
      · skip
        by_cases hejs : 0 < js.length
        · skip
          by_cases hels : 0 < ls.length
          · skip
            exact law_ThrustsOf_noFF js ls ljs lls hb0 hb1 hejs hels hst
          · replace hels : ls = [] := List.length_eq_zero_iff.1 (by omega)
            exact law_ThrustsOf_noFE js ls ljs lls hb0 hb1 hejs hels hst
        · replace hejs : js = [] := List.length_eq_zero_iff.1 (by omega)
          by_cases hels : 0 < ls.length
          · skip
            exact law_ThrustsOf_noEF js ls ljs lls hb0 hb1 hejs hels hst
          · replace hels : ls = [] := List.length_eq_zero_iff.1 (by omega)
            exact law_ThrustsOf_noEE js ls ljs lls hb0 hb1 hejs hels hst
      · skip
        by_cases hejs : 0 < js.length
        · skip
          by_cases hels : 0 < ls.length
          · skip
            exact law_ThrustsOf_yesFF js ls ljs lls hb0 hb1 hejs hels hst
          · replace hels : ls = [] := List.length_eq_zero_iff.1 (by omega)
            exact law_ThrustsOf_yesFE js ls ljs lls hb0 hb1 hejs hels hst
        · replace hejs : js = [] := List.length_eq_zero_iff.1 (by omega)
          by_cases hels : 0 < ls.length
          · skip
            exact law_ThrustsOf_yesEF js ls ljs lls hb0 hb1 hejs hels hst
          · replace hels : ls = [] := List.length_eq_zero_iff.1 (by omega)
            exact law_ThrustsOf_yesEE js ls ljs lls hb0 hb1 hejs hels hst
    · replace hsz1 := hsz1 (1048576 - js.length) (by omega) lls
      rw [if_neg hb1] at hsz1
      replace hsz0 := hsz0 (1048576) (by omega) ljs
      rw [if_pos hb0] at hsz0
      refine callOkX Tryz.func10 Tryz.ntmps10 Tryz.results10 rfl rfl rfl fun B w0 M I0 V0 hal => ?_
      (repeat (first | refine WL_nil ?_ | (apply wl0 (hd := rfl); (first | exact qv0 | exact QV_bne Tryz.underlying4 rfl rfl | exact QV_beq Tryz.underlying4 rfl rfl | exact qv1 | exact q_callA (hsz0)); (exact gy0)) | (apply wlb (hd := rfl); (first | exact q_box rfl rfl rfl | exact q_alloc); (exact gy0); rfl) | refine wln ⟨_, rfl, rfl⟩ rfl ?_ | refine wlnu ⟨_, rfl, rfl⟩ rfl ?_ | refine wst rfl rfl rfl List.not_mem_nil rfl rfl rfl rfl rfl rfl ?_ | refine W_seq ?_ | refine W_condT rfl ?_ | refine W_condF rfl ?_ | refine W_region ?_ | refine W_skip ?_ | refine W_ret ?_ | refine W_block ?_ | refine W_exit ?_))
      (refine W_cond rfl (fun hc => ?_) (fun hc => ?_))
      · simp at hc; omega
      · skip
        (repeat (first | refine WL_nil ?_ | (apply wl0 (hd := rfl); (first | exact qv0 | exact QV_bne Tryz.underlying4 rfl rfl | exact QV_beq Tryz.underlying4 rfl rfl | exact qv1 | exact q_callA (hsz1)); (exact gy0)) | (apply wlb (hd := rfl); (first | exact q_box rfl rfl rfl | exact q_alloc); (exact gy0); rfl) | refine wln ⟨_, rfl, rfl⟩ rfl ?_ | refine wlnu ⟨_, rfl, rfl⟩ rfl ?_ | refine wst rfl rfl rfl List.not_mem_nil rfl rfl rfl rfl rfl rfl ?_ | refine W_seq ?_ | refine W_condT rfl ?_ | refine W_condF rfl ?_ | refine W_region ?_ | refine W_skip ?_ | refine W_ret ?_ | refine W_block ?_ | refine W_exit ?_))
        refine Exists.intro _ ⟨Weak.refl _, Exists.intro _ ⟨resA_tmp rfl rfl, ?_, rfl⟩⟩
        rfl
  · replace hsz0 := hsz0 (1048576) (by omega) ljs
    rw [if_neg hb0] at hsz0
    refine callOkX Tryz.func10 Tryz.ntmps10 Tryz.results10 rfl rfl rfl fun B w0 M I0 V0 hal => ?_
    (repeat (first | refine WL_nil ?_ | (apply wl0 (hd := rfl); (first | exact qv0 | exact QV_bne Tryz.underlying4 rfl rfl | exact QV_beq Tryz.underlying4 rfl rfl | exact qv1 | exact q_callA (hsz0)); (exact gy0)) | (apply wlb (hd := rfl); (first | exact q_box rfl rfl rfl | exact q_alloc); (exact gy0); rfl) | refine wln ⟨_, rfl, rfl⟩ rfl ?_ | refine wlnu ⟨_, rfl, rfl⟩ rfl ?_ | refine wst rfl rfl rfl List.not_mem_nil rfl rfl rfl rfl rfl rfl ?_ | refine W_seq ?_ | refine W_condT rfl ?_ | refine W_condF rfl ?_ | refine W_region ?_ | refine W_skip ?_ | refine W_ret ?_ | refine W_block ?_ | refine W_exit ?_))
    refine Exists.intro _ ⟨Weak.refl _, Exists.intro _ ⟨resA_tmp rfl rfl, ?_, rfl⟩⟩
    rfl
end Go.Proofs.YtkieepmkcaipaaaGreat
