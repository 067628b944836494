/- StoneOf, both ways. -/
import Derived.Test.YtikbndfbjgdldaaAArch
namespace Go.Proofs.Ytikbndfbjgdldaa
open Go.Eng
set_option maxRecDepth 100000
attribute [local irreducible] QV TV WL HW W CallOk Weak

def stoB (js : List Jt) (k : Int) : Bool := archB js && inR k 0 (js.length - 2)
theorem stoneOf_yes (js : List Jt) (k : Nat) (hj : js.length ≤ 1048576) (h : stoB js k = true) : CallOk Try.prog 22 [.agg [slJt js], vi k] (fun r => r = .agg [.own 35 86 2 ((quad (jat js k) (jat js (k + 1))).map Pt.row)]) := by
  simp only [stoB, Bool.and_eq_true] at h
  have ha := archOk_ok js hj
  rw [h.1] at ha
  have hw := l01In_ok k 0 (js.length - 2)
  rw [h.2] at hw
  have hr := inR_true.1 h.2
  have hp := jat_lt (l := js) (i := k) (by omega)
  have hq := jat_lt (l := js) (i := k + 1) (by omega)
  have hst : stoneB (quad (jat js k) (jat js (k + 1))) = true := by
    have h1 := h.1
    simp only [archB, Bool.and_eq_true, List.all_eq_true, List.mem_range] at h1
    have := h1.2 k (by omega)
    simp only [stepB, Bool.and_eq_true] at this
    exact this.1
  have hs := stoneBetween_ok _ _ hst
  refine callOk Try.func22 Try.ntmps22 Try.results22 rfl rfl rfl fun B w0 I0 => ?_
  (repeat (first | refine WL_nil ?_ | (apply wl0 (hd := rfl); (first | exact qv0 | exact QV_bne Try.underlying4 rfl rfl | exact QV_beq Try.underlying4 rfl rfl | exact qv1 | exact q_callA (ha) | exact q_callA (hw)); (exact gy0)) | (apply wlb (hd := rfl); (first | exact q_box rfl rfl rfl | exact q_alloc); (exact gy0); rfl) | refine wln ⟨_, rfl, rfl⟩ rfl ?_ | refine wst rfl rfl rfl List.not_mem_nil rfl rfl rfl rfl rfl rfl ?_ | refine W_seq ?_ | refine W_condT rfl ?_ | refine W_condF rfl ?_ | refine W_region ?_ | refine W_skip ?_ | refine W_ret ?_ | refine W_block ?_ | refine W_exit ?_))
  refine wdraw 18 (by kernel_rfl) (by kernel_rfl) (by kernel_rfl) rfl ?_
  (repeat (first | refine HW_nil ?_ | (apply hw0 (hd := rfl); (first | exact qv0 | exact QV_bne Try.underlying4 rfl rfl | exact QV_beq Try.underlying4 rfl rfl | exact qv1 | exact QV_indexAddr rfl rfl rfl rfl (row_at hp) | exact QV_indexAddr rfl rfl rfl rfl (row_at hq)); (exact gy0)) | (apply hwb (hd := rfl); (first | exact q_box rfl rfl rfl | exact q_allocT rfl); (exact gy0); rfl) | refine hwn ⟨_, rfl, rfl⟩ rfl ?_ | (apply hwn1 (hd := rfl); exact q_call1A 20 15 (hs); (exact gy0); rfl) | refine hwi rfl rfl List.not_mem_nil rfl rfl rfl rfl rfl ?_))
  (repeat (first | refine WL_nil ?_ | (apply wl0 (hd := rfl); (first | exact qv0 | exact QV_bne Try.underlying4 rfl rfl | exact QV_beq Try.underlying4 rfl rfl | exact qv1); (exact gy0)) | (apply wlb (hd := rfl); (first | exact q_box rfl rfl rfl | exact q_alloc); (exact gy0); rfl) | refine wln ⟨_, rfl, rfl⟩ rfl ?_ | refine wst rfl rfl rfl List.not_mem_nil rfl rfl rfl rfl rfl rfl ?_ | refine W_seq ?_ | refine W_condT rfl ?_ | refine W_condF rfl ?_ | refine W_region ?_ | refine W_skip ?_ | refine W_ret ?_ | refine W_block ?_ | refine W_exit ?_))
  refine Exists.intro _ ⟨Weak.refl _, Exists.intro _ ⟨resA_cell rfl rfl rfl rfl, ?_, rfl⟩⟩
  rfl
theorem stoneOf_no (js : List Jt) (k : Int) (hj : js.length ≤ 1048576) (h : stoB js k = false) : CallOk Try.prog 22 [.agg [slJt js], vi k] (fun r => r = .agg [.v (.slice none 0 0)]) := by
  have ha := archOk_ok js hj
  have hw := l01In_ok k 0 (js.length - 2)
  refine callOk Try.func22 Try.ntmps22 Try.results22 rfl rfl rfl fun B w0 I0 => ?_
  cases e : archB js
  · rw [e] at ha
    (repeat (first | refine WL_nil ?_ | (apply wl0 (hd := rfl); (first | exact qv0 | exact QV_bne Try.underlying4 rfl rfl | exact QV_beq Try.underlying4 rfl rfl | exact qv1 | exact q_callA (ha)); (exact gy0)) | (apply wlb (hd := rfl); (first | exact q_box rfl rfl rfl | exact q_alloc); (exact gy0); rfl) | refine wln ⟨_, rfl, rfl⟩ rfl ?_ | refine wst rfl rfl rfl List.not_mem_nil rfl rfl rfl rfl rfl rfl ?_ | refine W_seq ?_ | refine W_condT rfl ?_ | refine W_condF rfl ?_ | refine W_region ?_ | refine W_skip ?_ | refine W_ret ?_ | refine W_block ?_ | refine W_exit ?_))
    refine Exists.intro _ ⟨Weak.refl _, Exists.intro _ ⟨resA_cell rfl rfl rfl rfl, ?_, rfl⟩⟩
    rfl
  · rw [e] at ha
    have e2 : inR k 0 (js.length - 2) = false := by simpa [stoB, e] using h
    rw [e2] at hw
    (repeat (first | refine WL_nil ?_ | (apply wl0 (hd := rfl); (first | exact qv0 | exact QV_bne Try.underlying4 rfl rfl | exact QV_beq Try.underlying4 rfl rfl | exact qv1 | exact q_callA (ha) | exact q_callA (hw)); (exact gy0)) | (apply wlb (hd := rfl); (first | exact q_box rfl rfl rfl | exact q_alloc); (exact gy0); rfl) | refine wln ⟨_, rfl, rfl⟩ rfl ?_ | refine wst rfl rfl rfl List.not_mem_nil rfl rfl rfl rfl rfl rfl ?_ | refine W_seq ?_ | refine W_condT rfl ?_ | refine W_condF rfl ?_ | refine W_region ?_ | refine W_skip ?_ | refine W_ret ?_ | refine W_block ?_ | refine W_exit ?_))
    refine Exists.intro _ ⟨Weak.refl _, Exists.intro _ ⟨resA_cell rfl rfl rfl rfl, ?_, rfl⟩⟩
    rfl
end Go.Proofs.Ytikbndfbjgdldaa
