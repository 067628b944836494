/- DetOfRows of the reference. -/
import Derived.Test.YtkieepmkcaipaaaGreatYMDe
import Derived.Test.YtkieepmkcaipaaaGreatYIAr
namespace Go.Proofs.YtkieepmkcaipaaaGreat
open Go.Eng
set_option maxRecDepth 100000
attribute [local irreducible] QV TV WL HW W CallOk Weak

theorem l11Det_ok (a b c : V3) : CallOk Tryz.prog 166 [a.av, b.av, c.av] (fun r => r = vi (det3W a b c)) := by
  refine callOk Tryz.func166 Tryz.ntmps166 Tryz.results166 rfl rfl rfl fun B w0 M I0 V0 => ?_
  (repeat (first | refine WL_nil ?_ | (apply wl0 (hd := rfl); (first | exact qv0 | exact QV_bne Tryz.underlying4 rfl rfl | exact QV_beq Tryz.underlying4 rfl rfl | exact qv1 | exact q_indexAr 0 rfl rfl rfl rfl | exact q_indexAr 1 rfl rfl rfl rfl | exact q_indexAr 2 rfl rfl rfl rfl); (exact gy0)) | (apply wlb (hd := rfl); (first | exact q_box rfl rfl rfl | exact q_alloc); (exact gy0); rfl) | refine wln ⟨_, rfl, rfl⟩ rfl ?_ | refine wlnu ⟨_, rfl, rfl⟩ rfl ?_ | refine wst rfl rfl rfl List.not_mem_nil rfl rfl rfl rfl rfl rfl ?_ | refine W_seq ?_ | refine W_condT rfl ?_ | refine W_condF rfl ?_ | refine W_region ?_ | refine W_skip ?_ | refine W_ret ?_ | refine W_block ?_ | refine W_exit ?_))
  refine Exists.intro _ ⟨Weak.refl _, Exists.intro _ ⟨resA_tmp rfl rfl, ?_, rfl⟩⟩
  rfl
theorem l11Line_ok (r : Rw) : CallOk Tryz.prog 200 [r.av] (fun x => x = (abc r).av) := by
  refine callOk Tryz.func200 Tryz.ntmps200 Tryz.results200 rfl rfl rfl fun B w0 M I0 V0 => ?_
  (repeat (first | refine WL_nil ?_ | (apply wl0 (hd := rfl); (first | exact qv0 | exact QV_bne Tryz.underlying4 rfl rfl | exact QV_beq Tryz.underlying4 rfl rfl | exact qv1 | exact q_buildAr rfl); (exact gy0)) | (apply wlb (hd := rfl); (first | exact q_box rfl rfl rfl | exact q_alloc); (exact gy0); rfl) | refine wln ⟨_, rfl, rfl⟩ rfl ?_ | refine wlnu ⟨_, rfl, rfl⟩ rfl ?_ | refine wst rfl rfl rfl List.not_mem_nil rfl rfl rfl rfl rfl rfl ?_ | refine W_seq ?_ | refine W_condT rfl ?_ | refine W_condF rfl ?_ | refine W_region ?_ | refine W_skip ?_ | refine W_ret ?_ | refine W_block ?_ | refine W_exit ?_))
  refine Exists.intro _ ⟨Weak.refl _, Exists.intro _ ⟨resA_cell rfl rfl rfl rfl, ?_, rfl⟩⟩
  rfl
theorem detOfRows_ok (p q r : Rw) : CallOk Tryz.prog 165 [p.av, q.av, r.av] (fun x => x = vi (det0 p q r)) := by
  have h1 := rowOk_ok p
  have h2 := rowOk_ok q
  have h3 := rowOk_ok r
  have d := l11Det_ok (abc p) (abc q) (abc r)
  rw [det3W_eq] at d
  have d1 := l11Line_ok p
  have d2 := l11Line_ok q
  have d3 := l11Line_ok r
  refine callOk Tryz.func165 Tryz.ntmps165 Tryz.results165 rfl rfl rfl fun B w0 M I0 V0 => ?_
  cases e1 : rowB p
  · rw [e1] at h1
    (repeat (first | refine WL_nil ?_ | (apply wl0 (hd := rfl); (first | exact qv0 | exact QV_bne Tryz.underlying4 rfl rfl | exact QV_beq Tryz.underlying4 rfl rfl | exact qv1 | exact q_callA (h1)); (exact gy0)) | (apply wlb (hd := rfl); (first | exact q_box rfl rfl rfl | exact q_alloc); (exact gy0); rfl) | refine wln ⟨_, rfl, rfl⟩ rfl ?_ | refine wlnu ⟨_, rfl, rfl⟩ rfl ?_ | refine wst rfl rfl rfl List.not_mem_nil rfl rfl rfl rfl rfl rfl ?_ | refine W_seq ?_ | refine W_condT rfl ?_ | refine W_condF rfl ?_ | refine W_region ?_ | refine W_skip ?_ | refine W_ret ?_ | refine W_block ?_ | refine W_exit ?_))
    refine Exists.intro _ ⟨Weak.refl _, Exists.intro _ ⟨resA_tmp rfl rfl, ?_, rfl⟩⟩
    exact vi_eq (by simp [det0, e1])
  · rw [e1] at h1
    cases e2 : rowB q
    · rw [e2] at h2
      (repeat (first | refine WL_nil ?_ | (apply wl0 (hd := rfl); (first | exact qv0 | exact QV_bne Tryz.underlying4 rfl rfl | exact QV_beq Tryz.underlying4 rfl rfl | exact qv1 | exact q_callA (h1) | exact q_callA (h2)); (exact gy0)) | (apply wlb (hd := rfl); (first | exact q_box rfl rfl rfl | exact q_alloc); (exact gy0); rfl) | refine wln ⟨_, rfl, rfl⟩ rfl ?_ | refine wlnu ⟨_, rfl, rfl⟩ rfl ?_ | refine wst rfl rfl rfl List.not_mem_nil rfl rfl rfl rfl rfl rfl ?_ | refine W_seq ?_ | refine W_condT rfl ?_ | refine W_condF rfl ?_ | refine W_region ?_ | refine W_skip ?_ | refine W_ret ?_ | refine W_block ?_ | refine W_exit ?_))
      refine Exists.intro _ ⟨Weak.refl _, Exists.intro _ ⟨resA_tmp rfl rfl, ?_, rfl⟩⟩
      exact vi_eq (by simp [det0, e2])
    · rw [e2] at h2
      cases e3 : rowB r
      · rw [e3] at h3
        (repeat (first | refine WL_nil ?_ | (apply wl0 (hd := rfl); (first | exact qv0 | exact QV_bne Tryz.underlying4 rfl rfl | exact QV_beq Tryz.underlying4 rfl rfl | exact qv1 | exact q_callA (h1) | exact q_callA (h2) | exact q_callA (h3)); (exact gy0)) | (apply wlb (hd := rfl); (first | exact q_box rfl rfl rfl | exact q_alloc); (exact gy0); rfl) | refine wln ⟨_, rfl, rfl⟩ rfl ?_ | refine wlnu ⟨_, rfl, rfl⟩ rfl ?_ | refine wst rfl rfl rfl List.not_mem_nil rfl rfl rfl rfl rfl rfl ?_ | refine W_seq ?_ | refine W_condT rfl ?_ | refine W_condF rfl ?_ | refine W_region ?_ | refine W_skip ?_ | refine W_ret ?_ | refine W_block ?_ | refine W_exit ?_))
        refine Exists.intro _ ⟨Weak.refl _, Exists.intro _ ⟨resA_tmp rfl rfl, ?_, rfl⟩⟩
        exact vi_eq (by simp [det0, e3])
      · rw [e3] at h3
        have hb := detR_bd e1 e2 e3
        (repeat (first | refine WL_nil ?_ | (apply wl0 (hd := rfl); (first | exact qv0 | exact QV_bne Tryz.underlying4 rfl rfl | exact QV_beq Tryz.underlying4 rfl rfl | exact qv1 | exact q_callA (h1) | exact q_callA (h2) | exact q_callA (h3)); (exact gy0)) | (apply wlb (hd := rfl); (first | exact q_box rfl rfl rfl | exact q_alloc); (exact gy0); rfl) | refine wln ⟨_, rfl, rfl⟩ rfl ?_ | refine wlnu ⟨_, rfl, rfl⟩ rfl ?_ | refine wst rfl rfl rfl List.not_mem_nil rfl rfl rfl rfl rfl rfl ?_ | refine W_seq ?_ | refine W_condT rfl ?_ | refine W_condF rfl ?_ | refine W_region ?_ | refine W_skip ?_ | refine W_ret ?_ | refine W_block ?_ | refine W_exit ?_))
        refine wdraw 7 (by kernel_rfl) (by kernel_rfl) (by kernel_rfl) rfl ?_
        (repeat (first | refine HW_nil ?_ | (apply hw0 (hd := rfl); (first | exact qv0 | exact QV_bne Tryz.underlying4 rfl rfl | exact QV_beq Tryz.underlying4 rfl rfl | exact qv1 | exact q_callA (d1) | exact q_callA (d2) | exact q_callA (d3) | exact q_callA (d)); (exact gy0)) | (apply hwb (hd := rfl); (first | exact q_box rfl rfl rfl | exact q_alloc); (exact gy0); rfl) | refine hwn ⟨_, rfl, rfl⟩ rfl ?_ | refine hwnu ⟨_, rfl, rfl⟩ rfl ?_))
        (repeat (first | refine WL_nil ?_ | (apply wl0 (hd := rfl); (first | exact qv0 | exact QV_bne Tryz.underlying4 rfl rfl | exact QV_beq Tryz.underlying4 rfl rfl | exact qv1); (exact gy0)) | (apply wlb (hd := rfl); (first | exact q_box rfl rfl rfl | exact q_alloc); (exact gy0); rfl) | refine wln ⟨_, rfl, rfl⟩ rfl ?_ | refine wlnu ⟨_, rfl, rfl⟩ rfl ?_ | refine wst rfl rfl rfl List.not_mem_nil rfl rfl rfl rfl rfl rfl ?_ | refine W_seq ?_ | refine W_condT rfl ?_ | refine W_condF rfl ?_ | refine W_region ?_ | refine W_skip ?_ | refine W_ret ?_ | refine W_block ?_ | refine W_exit ?_))
        refine Exists.intro _ ⟨Weak.refl _, Exists.intro _ ⟨resA_tmp rfl rfl, ?_, rfl⟩⟩
        refine vi_eq ?_
        have e4 : det3 (abc p) (abc q) (abc r) = detR p q r := rfl
        rw [e4, w64 (by omega)]
        simp [det0, e1, e2, e3]
end Go.Proofs.YtkieepmkcaipaaaGreat
