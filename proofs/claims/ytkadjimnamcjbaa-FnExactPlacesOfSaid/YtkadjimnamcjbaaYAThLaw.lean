/- The laws' own helpers on thrusts. -/
import Derived.Test.YtkadjimnamcjbaaYATh
import Derived.Test.YtkadjimnamcjbaaYALdLaw
namespace Go.Proofs.Ytkadjimnamcjbaa
open Go.ChangeShapes Go.WideShapes Go.ChangeAt Go.RowKit Go.Deep Go.Eng
set_option maxRecDepth 100000
attribute [local irreducible] QV TV WL HW W CallOk Weak

theorem toThrust_ok (t : Th) : CallOk Try.prog 74 [t.av] (fun r => r = t.av) := by
  refine callOk Try.func74 Try.ntmps74 Try.results74 rfl rfl rfl fun B w0 I0 => ?_
  (repeat (first | refine WL_nil ?_ | (apply wl0 (hd := rfl); (first | exact qv0 | exact QV_bne Try.underlying4 rfl rfl | exact QV_beq Try.underlying4 rfl rfl | exact qv1); (exact gy0)) | (apply wlb (hd := rfl); (first | exact q_box rfl rfl rfl | exact q_alloc); (exact gy0); rfl) | refine wln ⟨_, rfl, rfl⟩ rfl ?_ | refine wlnu ⟨_, rfl, rfl⟩ rfl ?_ | refine wst rfl rfl rfl List.not_mem_nil rfl rfl rfl rfl rfl rfl ?_ | refine W_seq ?_ | refine W_condT rfl ?_ | refine W_condF rfl ?_ | refine W_region ?_ | refine W_skip ?_ | refine W_ret ?_ | refine W_block ?_ | refine W_exit ?_))
  refine Exists.intro _ ⟨Weak.refl _, Exists.intro _ ⟨resA_cell rfl rfl rfl rfl, ?_, rfl⟩⟩
  rfl
section
variable {H : Type} {enc : TypeId × Value → H} {W : World}
def Th.in64 (t : Th) : Prop := isI64 t.h ∧ isI64 t.v ∧ isI64 t.m ∧ isI64 t.d
theorem opens_Thrust : Opens enc Try.prog W 98 4 (fun r => ∃ t : Th, r = t.row ∧ t.in64) :=
  (opens_struct (Rs := [(1, IntCell), (1, IntCell), (1, IntCell), (1, IntCell)]) Try.underlying98 (by kernel_rfl) rfl
    (fun i f kR h1 h2 => match i, h1, h2 with
      | 0, h1, h2 => by cases h1; cases h2; exact ⟨by kernel_rfl, rfl, opens_int Try.underlying3⟩
      | 1, h1, h2 => by cases h1; cases h2; exact ⟨by kernel_rfl, rfl, opens_int Try.underlying3⟩
      | 2, h1, h2 => by cases h1; cases h2; exact ⟨by kernel_rfl, rfl, opens_int Try.underlying3⟩
      | 3, h1, h2 => by cases h1; cases h2; exact ⟨by kernel_rfl, rfl, opens_int Try.underlying3⟩
      | i + 4, h1, h2 => by simp at h2) rfl).mono fun xs h => by
    obtain ⟨a, b, rfl, ⟨x, rfl, hx⟩, _, c, d, rfl, ⟨y, rfl, hy⟩, _, e, f, rfl, ⟨z, rfl, hz⟩, _, e', f', rfl, ⟨u, rfl, hu⟩, _, rfl⟩ := h
    exact ⟨⟨x, y, z, u⟩, rfl, hx, hy, hz, hu⟩
end
end Go.Proofs.Ytkadjimnamcjbaa
