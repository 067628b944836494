/- The program's CollapseOf: the proof lies in memory of its own. -/
import Derived.Test.YtkadjimnamcjbaaYACo
import Derived.Test.YtkadjimnamcjbaaZ3
import Derived.Test.YtkadjimnamcjbaaYAFi
import Derived.Test.YtkadjimnamcjbaaYAPm
import Derived.Test.YtkadjimnamcjbaaYAPn
namespace Go.Proofs.Ytkadjimnamcjbaa
open Go.Eng
set_option maxRecDepth 100000
attribute [local irreducible] QV TV WL HW W CallOk Weak

theorem implCollapseOf_of (js : List Jt) (ls : List Ld) (hj : js.length ≤ 1048576) (hn : ls.length ≤ 1048576) (hfp : CallOk Try.prog 138 [slRw (rowsA js ls)] (fun r => r = fourO (pfind (rowsA js ls)))) : CallOk Try.prog 85 [.agg [slJt js], slLd ls] (fun r => r = fourO (pfind (rowsA js ls))) := by
  have h1 := implRowsOf_ok js ls hj hn
  obtain ⟨rs, ers⟩ : ∃ rs, rs = rowsA js ls := ⟨_, rfl⟩
  rw [← ers] at h1 hfp ⊢
  cases e : pfind rs with
  | none =>
    rw [e] at hfp
    refine callOk Try.func85 Try.ntmps85 Try.results85 rfl rfl rfl fun B w0 I0 => ?_
    (repeat (first | refine WL_nil ?_ | (apply wl0 (hd := rfl); (first | exact qv0 | exact QV_bne Try.underlying4 rfl rfl | exact QV_beq Try.underlying4 rfl rfl | exact qv1 | exact q_callA (h1) | exact q_callA (hfp)); (exact gy0)) | (apply wlb (hd := rfl); (first | exact q_box rfl rfl rfl | exact q_alloc); (exact gy0); rfl) | refine wln ⟨_, rfl, rfl⟩ rfl ?_ | refine wlnu ⟨_, rfl, rfl⟩ rfl ?_ | refine wst rfl rfl rfl List.not_mem_nil rfl rfl rfl rfl rfl rfl ?_ | refine W_seq ?_ | refine W_condT rfl ?_ | refine W_condF rfl ?_ | refine W_region ?_ | refine W_skip ?_ | refine W_ret ?_ | refine W_block ?_ | refine W_exit ?_))
    refine Exists.intro _ ⟨Weak.refl _, Exists.intro _ ⟨resA_cell rfl rfl rfl (resA_tmp rfl rfl), ?_, rfl⟩⟩
    rfl
  | some p =>
    obtain ⟨ks, fs⟩ := p
    rw [e] at hfp
    refine callOk Try.func85 Try.ntmps85 Try.results85 rfl rfl rfl fun B w0 I0 => ?_
    (repeat (first | refine WL_nil ?_ | (apply wl0 (hd := rfl); (first | exact qv0 | exact QV_bne Try.underlying4 rfl rfl | exact QV_beq Try.underlying4 rfl rfl | exact qv1 | exact q_callA (h1)); (exact gy0)) | (apply wlb (hd := rfl); (first | exact q_box rfl rfl rfl | exact q_alloc); (exact gy0); rfl) | refine wln ⟨_, rfl, rfl⟩ rfl ?_ | refine wlnu ⟨_, rfl, rfl⟩ rfl ?_ | refine wst rfl rfl rfl List.not_mem_nil rfl rfl rfl rfl rfl rfl ?_ | refine W_seq ?_ | refine W_condT rfl ?_ | refine W_condF rfl ?_ | refine W_region ?_ | refine W_skip ?_ | refine W_ret ?_ | refine W_block ?_ | refine W_exit ?_))
    refine wln2 (q_call2 0 20 21 hfp rfl (by repeat' (first | exact LeDs.nil | refine LeDs.cons (by first | exact LeD.v | exact LeD.sl | exact LeD.own) ?_)) rfl rfl) rfl rfl ?_
    (repeat (first | refine WL_nil ?_ | (apply wl0 (hd := rfl); (first | exact qv0 | exact QV_bne Try.underlying4 rfl rfl | exact QV_beq Try.underlying4 rfl rfl | exact qv1); (exact gy0)) | (apply wlb (hd := rfl); (first | exact q_box rfl rfl rfl | exact q_alloc); (exact gy0); rfl) | refine wln ⟨_, rfl, rfl⟩ rfl ?_ | refine wlnu ⟨_, rfl, rfl⟩ rfl ?_ | refine wst rfl rfl rfl List.not_mem_nil rfl rfl rfl rfl rfl rfl ?_ | refine W_seq ?_ | refine W_condT rfl ?_ | refine W_condF rfl ?_ | refine W_region ?_ | refine W_skip ?_ | refine W_ret ?_ | refine W_block ?_ | refine W_exit ?_))
    refine Exists.intro _ ⟨Weak.refl _, Exists.intro _ ⟨resA_cell rfl rfl rfl (resA_tmp rfl rfl), ?_, rfl⟩⟩
    rfl
theorem implCollapseOf_ok (js : List Jt) (ls : List Ld) (hj : js.length ≤ 1048576) (hn : ls.length ≤ 1048576) : CallOk Try.prog 85 [.agg [slJt js], slLd ls] (fun r => r = fourO (pfind (rowsA js ls))) := by
  refine implCollapseOf_of js ls hj hn (implFindProof_ok _ ?_ ?_)
  · unfold rowsA
    split
    · rename_i h
      simp only [Bool.and_eq_true] at h
      have := arch_len (loads_arch h.1)
      rw [rowsAll_len]; omega
    · simp
  · unfold rowsA
    split
    · rename_i h
      simp only [Bool.and_eq_true] at h
      exact h.2
    · rfl
theorem markProof_no (k : Int) : CallOk Try.prog 68 [.agg [.sl 1 [], .sl 1 []], vi k] (fun r => r = vi k) := by
  have h := markIntS_no k
  refine callOk Try.func68 Try.ntmps68 Try.results68 rfl rfl rfl fun B w0 I0 => ?_
  (repeat (first | refine WL_nil ?_ | (apply wl0 (hd := rfl); (first | exact qv0 | exact QV_bne Try.underlying4 rfl rfl | exact QV_beq Try.underlying4 rfl rfl | exact qv1 | exact q_callA (h)); (exact gy0)) | (apply wlb (hd := rfl); (first | exact q_box rfl rfl rfl | exact q_alloc); (exact gy0); rfl) | refine wln ⟨_, rfl, rfl⟩ rfl ?_ | refine wlnu ⟨_, rfl, rfl⟩ rfl ?_ | refine wst rfl rfl rfl List.not_mem_nil rfl rfl rfl rfl rfl rfl ?_ | refine W_seq ?_ | refine W_condT rfl ?_ | refine W_condF rfl ?_ | refine W_region ?_ | refine W_skip ?_ | refine W_ret ?_ | refine W_block ?_ | refine W_exit ?_))
  refine Exists.intro _ ⟨Weak.refl _, Exists.intro _ ⟨resA_tmp rfl rfl, ?_, rfl⟩⟩
  rfl
end Go.Proofs.Ytkadjimnamcjbaa
