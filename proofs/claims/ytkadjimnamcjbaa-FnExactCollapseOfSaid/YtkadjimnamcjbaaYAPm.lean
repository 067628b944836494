/- Proofs: the laws' copies as new arrays, the laws' marks. -/
import Derived.Test.YtkadjimnamcjbaaYAPn
import Derived.Test.YtkadjimnamcjbaaYAPfLaw
import Derived.Test.YtkadjimnamcjbaaYAMi
namespace Go.Proofs.Ytkadjimnamcjbaa
open Go.Eng
set_option maxRecDepth 100000
attribute [local irreducible] QV TV WL HW W CallOk Weak

theorem markProof_ok (p : Pf) (k : Int) (hr : p.rows.length ≤ 1048576) (hf : p.facs.length ≤ 1048576) (hk : 0 ≤ k ∧ k ≤ 1099510579200) : CallMark2 Try.prog 68 3 1 3 1 [.agg [.arr 1000000 3 1 p.rows.length, .arr 1000001 3 1 p.facs.length], vi k] (p.rows.map iRow) ((mks markInt k p.rows.length).map iRow) (p.facs.map iRow) ((mks markInt (k + 1 * p.rows.length) p.facs.length).map iRow) (.int .i64 (k + 1 * p.rows.length + 1 * p.facs.length)) := by
  have h1 := markIntS_ok p.rows k hr (by omega)
  have h2 := markIntS_ok p.facs (k + 1 * p.rows.length) hf (by omega)
  refine callMark2 Try.func68 Try.ntmps68 Try.results68 rfl rfl rfl fun B w0 b c more nore hmore hnore => ?_
  (repeat (first | refine WL_nil ?_ | (apply wl0 (hd := rfl); (first | exact qv0 | exact QV_bne Try.underlying4 rfl rfl | exact QV_beq Try.underlying4 rfl rfl | exact qv1); (exact gy0)) | (apply wlb (hd := rfl); (first | exact q_box rfl rfl rfl | exact q_alloc); (exact gy0); rfl) | refine wln ⟨_, rfl, rfl⟩ rfl ?_ | refine wlnu ⟨_, rfl, rfl⟩ rfl ?_ | refine wst rfl rfl rfl List.not_mem_nil rfl rfl rfl rfl rfl rfl ?_ | refine wlmk (n := 1000000) h1 hmore rfl (by (repeat' (first | exact MkN.nil | refine MkN.v ?_ | refine MkN.arr ?_ | refine MkN.agg ?_ ?_)); first | done | fail "open") rfl rfl (map_plainB (fun _ => rfl)) (map_plainB (fun _ => rfl)) rfl List.not_mem_nil rfl ?_ | refine wlmk (n := 1000001) h2 hnore rfl (by (repeat' (first | exact MkN.nil | refine MkN.v ?_ | refine MkN.arr ?_ | refine MkN.agg ?_ ?_)); first | done | fail "open") rfl rfl (map_plainB (fun _ => rfl)) (map_plainB (fun _ => rfl)) rfl List.not_mem_nil rfl ?_ | refine W_seq ?_ | refine W_condT rfl ?_ | refine W_condF rfl ?_ | refine W_region ?_ | refine W_skip ?_ | refine W_ret ?_ | refine W_block ?_ | refine W_exit ?_))
  exact ⟨resA_tmp rfl rfl, by simp, by simp⟩
theorem heldProof_ok (n m : Nat) (k : Int) (hn : n ≤ 1048576) (hm : m ≤ 1048576) (hk : 0 ≤ k ∧ k ≤ 1099510579200) : CallOk Try.prog 86 [.agg [.sl 1 ((mks markInt k n).map iRow), .sl 1 ((mks markInt (k + 1 * n) m).map iRow)], vi k] (fun r => r = vi (k + 1 * n + 1 * m)) := by
  have h1 := heldIntS_ok n k hn (by omega)
  have h2 := heldIntS_ok m (k + 1 * n) hm (by omega)
  refine callOk Try.func86 Try.ntmps86 Try.results86 rfl rfl rfl fun B w0 I0 => ?_
  (repeat (first | refine WL_nil ?_ | (apply wl0 (hd := rfl); (first | exact qv0 | exact QV_bne Try.underlying4 rfl rfl | exact QV_beq Try.underlying4 rfl rfl | exact qv1 | exact q_callA (h1)); (exact gy0)) | (apply wlb (hd := rfl); (first | exact q_box rfl rfl rfl | exact q_alloc); (exact gy0); rfl) | refine wln ⟨_, rfl, rfl⟩ rfl ?_ | refine wlnu ⟨_, rfl, rfl⟩ rfl ?_ | refine wst rfl rfl rfl List.not_mem_nil rfl rfl rfl rfl rfl rfl ?_ | refine W_seq ?_ | refine W_condT rfl ?_ | refine W_condF rfl ?_ | refine W_region ?_ | refine W_skip ?_ | refine W_ret ?_ | refine W_block ?_ | refine W_exit ?_))
  (refine W_cond rfl (fun hc => ?_) (fun hc => ?_))
  · simp at hc; omega
  · (repeat (first | refine WL_nil ?_ | (apply wl0 (hd := rfl); (first | exact qv0 | exact QV_bne Try.underlying4 rfl rfl | exact QV_beq Try.underlying4 rfl rfl | exact qv1 | exact q_callA (h2)); (exact gy0)) | (apply wlb (hd := rfl); (first | exact q_box rfl rfl rfl | exact q_alloc); (exact gy0); rfl) | refine wln ⟨_, rfl, rfl⟩ rfl ?_ | refine wlnu ⟨_, rfl, rfl⟩ rfl ?_ | refine wst rfl rfl rfl List.not_mem_nil rfl rfl rfl rfl rfl rfl ?_ | refine W_seq ?_ | refine W_condT rfl ?_ | refine W_condF rfl ?_ | refine W_region ?_ | refine W_skip ?_ | refine W_ret ?_ | refine W_block ?_ | refine W_exit ?_))
    (refine W_cond rfl (fun hc => ?_) (fun hc => ?_))
    · simp at hc; omega
    · (repeat (first | refine WL_nil ?_ | (apply wl0 (hd := rfl); (first | exact qv0 | exact QV_bne Try.underlying4 rfl rfl | exact QV_beq Try.underlying4 rfl rfl | exact qv1); (exact gy0)) | (apply wlb (hd := rfl); (first | exact q_box rfl rfl rfl | exact q_alloc); (exact gy0); rfl) | refine wln ⟨_, rfl, rfl⟩ rfl ?_ | refine wlnu ⟨_, rfl, rfl⟩ rfl ?_ | refine wst rfl rfl rfl List.not_mem_nil rfl rfl rfl rfl rfl rfl ?_ | refine W_seq ?_ | refine W_condT rfl ?_ | refine W_condF rfl ?_ | refine W_region ?_ | refine W_skip ?_ | refine W_ret ?_ | refine W_block ?_ | refine W_exit ?_))
      refine Exists.intro _ ⟨Weak.refl _, Exists.intro _ ⟨resA_tmp rfl rfl, ?_, rfl⟩⟩
      rfl
end Go.Proofs.Ytkadjimnamcjbaa
