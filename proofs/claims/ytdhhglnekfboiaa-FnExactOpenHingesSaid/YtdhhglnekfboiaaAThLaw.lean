/- The laws' own helpers on thrusts. -/
import Derived.Test.YtdhhglnekfboiaaATh
import Derived.Test.YtdhhglnekfboiaaALdLaw
namespace Go.Proofs.Ytdhhglnekfboiaa
open Go.ChangeShapes Go.WideShapes Go.ChangeAt Go.RowKit Go.Deep Go.Eng
set_option maxRecDepth 100000
attribute [local irreducible] QV TV WL HW W CallOk Weak

theorem toThrust_ok (t : Th) : CallOk Try.prog 44 [t.av] (fun r => r = t.av) := by
  refine callOk Try.func44 Try.ntmps44 Try.results44 rfl rfl rfl fun B w0 I0 => ?_
  (repeat (first | refine WL_nil ?_ | (apply wl0 (hd := rfl); (first | exact q_move rfl | exact q_assign rfl | exact q_load rfl rfl rfl rfl | exact QV_fieldAddr rfl | exact QV_ar rfl rfl rfl (by omega) | exact QV_bin rfl rfl rfl | exact q_loadE rfl rfl | exact q_fieldAddrE rfl rfl | exact QV_not rfl | exact QV_bne Try.underlying4 rfl rfl | exact QV_beq Try.underlying4 rfl rfl | exact q_pick rfl rfl | exact QV_neg' rfl (by omega) | exact QV_neg rfl | exact q_lenM rfl rfl | exact QV_len rfl rfl | exact QV_lenNil rfl | exact QV_extract rfl rfl | exact q_field rfl rfl rfl rfl | exact QV_min rfl rfl | exact QV_max rfl rfl | exact q_build rfl | exact QV_nilCheck rfl trivial | exact QV_nilCheckF rfl | exact q_makeFunc rfl rfl); (first | exact trivial | exact ⟨_, rfl, rfl⟩)) | (apply wlb (hd := rfl); (first | exact q_box rfl rfl rfl | exact q_alloc); (first | exact trivial | exact ⟨_, rfl, rfl⟩); rfl) | refine wln ⟨_, rfl, rfl⟩ rfl ?_ | refine wst rfl rfl rfl List.not_mem_nil rfl rfl rfl rfl rfl rfl ?_ | refine W_seq ?_ | refine W_condT rfl ?_ | refine W_condF rfl ?_ | refine W_region ?_ | refine W_skip ?_ | refine W_ret ?_ | refine W_block ?_ | refine W_exit ?_))
  refine Exists.intro _ ⟨Weak.refl _, Exists.intro _ ⟨resA_cell rfl rfl rfl rfl, ?_, rfl⟩⟩
  rfl
theorem eqThrust_ok (t : Th) : CallOk Try.prog 46 [t.av, t.av] (fun r => r = vb true) := by
  refine callOk Try.func46 Try.ntmps46 Try.results46 rfl rfl rfl fun B w0 I0 => ?_
  (repeat (first | refine WL_nil ?_ | (apply wl0 (hd := rfl); (first | exact q_neS rfl rfl rfl | exact q_move rfl | exact q_assign rfl | exact q_load rfl rfl rfl rfl | exact QV_fieldAddr rfl | exact QV_ar rfl rfl rfl (by omega) | exact QV_bin rfl rfl rfl | exact q_loadE rfl rfl | exact q_fieldAddrE rfl rfl | exact QV_not rfl | exact QV_bne Try.underlying4 rfl rfl | exact QV_beq Try.underlying4 rfl rfl | exact q_pick rfl rfl | exact QV_neg' rfl (by omega) | exact QV_neg rfl | exact q_lenM rfl rfl | exact QV_len rfl rfl | exact QV_lenNil rfl | exact QV_extract rfl rfl | exact q_field rfl rfl rfl rfl | exact QV_min rfl rfl | exact QV_max rfl rfl | exact q_build rfl | exact QV_nilCheck rfl trivial | exact QV_nilCheckF rfl | exact q_makeFunc rfl rfl); (first | exact trivial | exact ⟨_, rfl, rfl⟩)) | (apply wlb (hd := rfl); (first | exact q_box rfl rfl rfl | exact q_alloc); (first | exact trivial | exact ⟨_, rfl, rfl⟩); rfl) | refine wln ⟨_, rfl, rfl⟩ rfl ?_ | refine wst rfl rfl rfl List.not_mem_nil rfl rfl rfl rfl rfl rfl ?_ | refine W_seq ?_ | refine W_condT rfl ?_ | refine W_condF rfl ?_ | refine W_region ?_ | refine W_skip ?_ | refine W_ret ?_ | refine W_block ?_ | refine W_exit ?_))
  refine Exists.intro _ ⟨Weak.refl _, Exists.intro _ ⟨resA_tmp rfl rfl, ?_, rfl⟩⟩
  rfl
section
variable {H : Type} {enc : TypeId × Value → H} {W : World}
def Th.in64 (t : Th) : Prop := isI64 t.h ∧ isI64 t.v ∧ isI64 t.m ∧ isI64 t.d
theorem opens_Thrust : Opens enc Try.prog W 68 4 (fun r => ∃ t : Th, r = t.row ∧ t.in64) :=
  (opens_struct (Rs := [(1, IntCell), (1, IntCell), (1, IntCell), (1, IntCell)]) Try.underlying68 (by kernel_rfl) rfl
    (fun i f kR h1 h2 => match i, h1, h2 with
      | 0, h1, h2 => by cases h1; cases h2; exact ⟨by kernel_rfl, rfl, opens_int Try.underlying3⟩
      | 1, h1, h2 => by cases h1; cases h2; exact ⟨by kernel_rfl, rfl, opens_int Try.underlying3⟩
      | 2, h1, h2 => by cases h1; cases h2; exact ⟨by kernel_rfl, rfl, opens_int Try.underlying3⟩
      | 3, h1, h2 => by cases h1; cases h2; exact ⟨by kernel_rfl, rfl, opens_int Try.underlying3⟩
      | i + 4, h1, h2 => by simp at h2) rfl).mono fun xs h => by
    obtain ⟨a, b, rfl, ⟨x, rfl, hx⟩, _, c, d, rfl, ⟨y, rfl, hy⟩, _, e, f, rfl, ⟨z, rfl, hz⟩, _, e', f', rfl, ⟨u, rfl, hu⟩, _, rfl⟩ := h
    exact ⟨⟨x, y, z, u⟩, rfl, hx, hy, hz, hu⟩
end
end Go.Proofs.Ytdhhglnekfboiaa
