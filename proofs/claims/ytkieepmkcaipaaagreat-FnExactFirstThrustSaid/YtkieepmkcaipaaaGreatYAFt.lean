/- FirstThrust and LeastThrust of both. -/
import Derived.Test.YtkieepmkcaipaaaGreatYALs
import Derived.Test.YtkieepmkcaipaaaGreatYASx
namespace Go.Proofs.YtkieepmkcaipaaaGreat
open Go.Eng
set_option maxRecDepth 100000
attribute [local irreducible] QV TV WL HW W CallOk CallOkA Weak

theorem firstThrust_ok (js : List Jt) (ls : List Ld) (hj : js.length ≤ 1048576) (hn : ls.length ≤ 1048576) : CallOk Tryz.prog 38 [.agg [slJt js], slLd ls] (fun r => r = thO (thrL js ls).head?) := by
  have h1 := thrustsOf_ok js ls hj hn
  refine callOk Tryz.func38 Tryz.ntmps38 Tryz.results38 rfl rfl rfl fun B w0 M I0 V0 => ?_
  cases e : thrL js ls with
  | nil =>
    rw [e] at h1
    (repeat (first | refine WL_nil ?_ | (apply wl0 (hd := rfl); (first | exact qv0 | exact QV_bne Tryz.underlying4 rfl rfl | exact QV_beq Tryz.underlying4 rfl rfl | exact qv1 | exact q_callA (h1)); (exact gy0)) | (apply wlb (hd := rfl); (first | exact q_box rfl rfl rfl | exact q_alloc); (exact gy0); rfl) | refine wln ⟨_, rfl, rfl⟩ rfl ?_ | refine wlnu ⟨_, rfl, rfl⟩ rfl ?_ | refine wst rfl rfl rfl List.not_mem_nil rfl rfl rfl rfl rfl rfl ?_ | refine W_seq ?_ | refine W_condT rfl ?_ | refine W_condF rfl ?_ | refine W_region ?_ | refine W_skip ?_ | refine W_ret ?_ | refine W_block ?_ | refine W_exit ?_))
    refine Exists.intro _ ⟨Weak.refl _, Exists.intro _ ⟨resA_cell rfl rfl rfl (resA_tmp rfl rfl), ?_, rfl⟩⟩
    rfl
  | cons t r =>
    rw [e] at h1
    have c0 : abin .eql .i64 ((t :: r).length : Int) 0 = some (.bool false) := by simp [abin]; omega
    have h0 : ((t :: r).map Th.row)[0]? = some t.row := rfl
    (repeat (first | refine WL_nil ?_ | (apply wl0 (hd := rfl); (first | exact QV_bin rfl rfl c0 | exact qv0 | exact QV_bne Tryz.underlying4 rfl rfl | exact QV_beq Tryz.underlying4 rfl rfl | exact qv1 | exact q_callA (h1) | exact QV_indexAddr rfl rfl rfl (rfl : (0 : Int) = ((0 : Nat) : Int)) h0); (exact gy0)) | (apply wlb (hd := rfl); (first | exact q_box rfl rfl rfl | exact q_alloc); (exact gy0); rfl) | refine wln ⟨_, rfl, rfl⟩ rfl ?_ | refine wlnu ⟨_, rfl, rfl⟩ rfl ?_ | refine wst rfl rfl rfl List.not_mem_nil rfl rfl rfl rfl rfl rfl ?_ | refine W_seq ?_ | refine W_condT rfl ?_ | refine W_condF rfl ?_ | refine W_region ?_ | refine W_skip ?_ | refine W_ret ?_ | refine W_block ?_ | refine W_exit ?_))
    refine Exists.intro _ ⟨Weak.refl _, Exists.intro _ ⟨resA_cell rfl rfl rfl (resA_tmp rfl rfl), ?_, rfl⟩⟩
    rfl
theorem implFirstThrust_ok (js : List Jt) (ls : List Ld) (hj : js.length ≤ 1048576) (hn : ls.length ≤ 1048576) : CallOkA Tryz.prog 39 [.agg [slJt js], slLd ls] (fun r => r = thO (thrL js ls).head?) := by
  have h1 := implThrustsOf_ok js ls hj hn
  refine callOkX Tryz.func39 Tryz.ntmps39 Tryz.results39 rfl rfl rfl fun B w0 M I0 V0 hal => ?_
  cases e : thrL js ls with
  | nil =>
    rw [e] at h1
    (repeat (first | refine WL_nil ?_ | (apply wl0 (hd := rfl); (first | exact qv0 | exact QV_bne Tryz.underlying4 rfl rfl | exact QV_beq Tryz.underlying4 rfl rfl | exact qv1 | exact q_callAX hal (h1)); (exact gy0)) | (apply wlb (hd := rfl); (first | exact q_box rfl rfl rfl | exact q_alloc); (exact gy0); rfl) | refine wln ⟨_, rfl, rfl⟩ rfl ?_ | refine wlnu ⟨_, rfl, rfl⟩ rfl ?_ | refine wst rfl rfl rfl List.not_mem_nil rfl rfl rfl rfl rfl rfl ?_ | refine W_seq ?_ | refine W_condT rfl ?_ | refine W_condF rfl ?_ | refine W_region ?_ | refine W_skip ?_ | refine W_ret ?_ | refine W_block ?_ | refine W_exit ?_))
    refine Exists.intro _ ⟨Weak.refl _, Exists.intro _ ⟨resA_cell rfl rfl rfl (resA_tmp rfl rfl), ?_, rfl⟩⟩
    rfl
  | cons t r =>
    rw [e] at h1
    have c0 : abin .eql .i64 ((t :: r).length : Int) 0 = some (.bool false) := by simp [abin]; omega
    have h0 : ((t :: r).map Th.row)[0]? = some t.row := rfl
    (repeat (first | refine WL_nil ?_ | (apply wl0 (hd := rfl); (first | exact QV_bin rfl rfl c0 | exact qv0 | exact QV_bne Tryz.underlying4 rfl rfl | exact QV_beq Tryz.underlying4 rfl rfl | exact qv1 | exact q_callAX hal (h1) | exact QV_indexAddr rfl rfl rfl (rfl : (0 : Int) = ((0 : Nat) : Int)) h0); (exact gy0)) | (apply wlb (hd := rfl); (first | exact q_box rfl rfl rfl | exact q_alloc); (exact gy0); rfl) | refine wln ⟨_, rfl, rfl⟩ rfl ?_ | refine wlnu ⟨_, rfl, rfl⟩ rfl ?_ | refine wst rfl rfl rfl List.not_mem_nil rfl rfl rfl rfl rfl rfl ?_ | refine W_seq ?_ | refine W_condT rfl ?_ | refine W_condF rfl ?_ | refine W_region ?_ | refine W_skip ?_ | refine W_ret ?_ | refine W_block ?_ | refine W_exit ?_))
    refine Exists.intro _ ⟨Weak.refl _, Exists.intro _ ⟨resA_cell rfl rfl rfl (resA_tmp rfl rfl), ?_, rfl⟩⟩
    rfl
end Go.Proofs.YtkieepmkcaipaaaGreat
