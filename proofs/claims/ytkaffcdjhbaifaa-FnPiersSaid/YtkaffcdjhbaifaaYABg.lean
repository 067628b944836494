/- What all laws ask of their code: whether it is long; one byte of it. -/
import Derived.Test.YtkaffcdjhbaifaaYADw
namespace Go.Proofs.Ytkaffcdjhbaifaa
open Go.Eng
set_option maxRecDepth 100000
attribute [local irreducible] QV TV WL HW W CallOk Weak

theorem lbig_ok (l : List Int) : CallOk Try.prog 4 [slU l] (fun r => r = vb (decide ((1048576 : Int) < l.length))) := by
  refine callOk Try.func4 Try.ntmps4 Try.results4 rfl rfl rfl fun B w0 I0 => ?_
  (repeat (first | refine WL_nil ?_ | (apply wl0 (hd := rfl); (first | exact qv0 | exact QV_bne Try.underlying4 rfl rfl | exact QV_beq Try.underlying4 rfl rfl | exact qv1); (exact gy0)) | (apply wlb (hd := rfl); (first | exact q_box rfl rfl rfl | exact q_alloc); (exact gy0); rfl) | refine wln ⟨_, rfl, rfl⟩ rfl ?_ | refine wlnu ⟨_, rfl, rfl⟩ rfl ?_ | refine wst rfl rfl rfl List.not_mem_nil rfl rfl rfl rfl rfl rfl ?_ | refine W_seq ?_ | refine W_condT rfl ?_ | refine W_condF rfl ?_ | refine W_region ?_ | refine W_skip ?_ | refine W_ret ?_ | refine W_block ?_ | refine W_exit ?_))
  refine Exists.intro _ ⟨Weak.refl _, Exists.intro _ ⟨resA_tmp rfl rfl, ?_, rfl⟩⟩
  rfl
def atL (l : List Int) : Int := if l.length = 0 then 0 else l.getD (1 % l.length) 0
end Go.Proofs.Ytkaffcdjhbaifaa
