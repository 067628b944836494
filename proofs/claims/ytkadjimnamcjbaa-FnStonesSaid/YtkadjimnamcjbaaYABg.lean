/- What all laws ask of their code: whether it is long; one byte of it. -/
import Derived.Test.YtkadjimnamcjbaaYADw
namespace Go.Proofs.Ytkadjimnamcjbaa
open Go.Eng
set_option maxRecDepth 100000
attribute [local irreducible] QV TV WL HW W CallOk Weak

theorem lbig_ok (l : List Int) : CallOk Try.prog 15 [slU l] (fun r => r = vb (decide ((1048576 : Int) < l.length))) := by
  refine callOk Try.func15 Try.ntmps15 Try.results15 rfl rfl rfl fun B w0 I0 => ?_
  (repeat (first | refine WL_nil ?_ | (apply wl0 (hd := rfl); (first | exact qv0 | exact QV_bne Try.underlying4 rfl rfl | exact QV_beq Try.underlying4 rfl rfl | exact qv1); (exact gy0)) | (apply wlb (hd := rfl); (first | exact q_box rfl rfl rfl | exact q_alloc); (exact gy0); rfl) | refine wln ⟨_, rfl, rfl⟩ rfl ?_ | refine wlnu ⟨_, rfl, rfl⟩ rfl ?_ | refine wst rfl rfl rfl List.not_mem_nil rfl rfl rfl rfl rfl rfl ?_ | refine W_seq ?_ | refine W_condT rfl ?_ | refine W_condF rfl ?_ | refine W_region ?_ | refine W_skip ?_ | refine W_ret ?_ | refine W_block ?_ | refine W_exit ?_))
  refine Exists.intro _ ⟨Weak.refl _, Exists.intro _ ⟨resA_tmp rfl rfl, ?_, rfl⟩⟩
  rfl
def atL (l : List Int) : Int := if l.length = 0 then 0 else l.getD (1 % l.length) 0
theorem lat_ok (l : List Int) (hl : Bts l) : CallOk Try.prog 17 [slU l, vi 0] (fun r => r = vi (atL l)) := by
  have hn := hl.n
  by_cases h0 : l.length = 0
  · have c1 : abin .eql .i64 (l.length : Int) 0 = some (.bool true) := by simp [abin, h0]
    refine callOk Try.func17 Try.ntmps17 Try.results17 rfl rfl rfl fun B w0 I0 => ?_
    (repeat (first | refine WL_nil ?_ | (apply wl0 (hd := rfl); (first | exact QV_bin rfl rfl c1 | exact qv0 | exact QV_bne Try.underlying4 rfl rfl | exact QV_beq Try.underlying4 rfl rfl | exact qv1); (exact gy0)) | (apply wlb (hd := rfl); (first | exact q_box rfl rfl rfl | exact q_alloc); (exact gy0); rfl) | refine wln ⟨_, rfl, rfl⟩ rfl ?_ | refine wlnu ⟨_, rfl, rfl⟩ rfl ?_ | refine wst rfl rfl rfl List.not_mem_nil rfl rfl rfl rfl rfl rfl ?_ | refine W_seq ?_ | refine W_condT rfl ?_ | refine W_condF rfl ?_ | refine W_region ?_ | refine W_skip ?_ | refine W_ret ?_ | refine W_block ?_ | refine W_exit ?_))
    refine Exists.intro _ ⟨Weak.refl _, Exists.intro _ ⟨resA_tmp rfl rfl, ?_, rfl⟩⟩
    rw [atL, if_pos h0]; rfl
  · have c1 : abin .eql .i64 (l.length : Int) 0 = some (.bool false) := by simp [abin, h0]
    obtain ⟨x, hx⟩ : ∃ x, l[1 % l.length]? = some x := ⟨_, List.getElem?_eq_getElem (Nat.mod_lt _ (by omega))⟩
    have hxu := hl.u x (List.mem_of_getElem? hx)
    unfold isU8 at hxu
    have hne : (l.length : Int) ≠ 0 := by omega
    have hr : adv .rem .i64 1 (l.length : Int) = some (.int .i64 ((1 % l.length : Nat) : Int)) := by
      simp only [adv]; rw [show (1 : Int) = ((1 : Nat) : Int) from rfl, ← Int.ofNat_tmod]
    refine callOk Try.func17 Try.ntmps17 Try.results17 rfl rfl rfl fun B w0 I0 => ?_
    (repeat (first | refine WL_nil ?_ | (apply wl0 (hd := rfl); (first | exact QV_bin rfl rfl c1 | exact qv0 | exact QV_bne Try.underlying4 rfl rfl | exact QV_beq Try.underlying4 rfl rfl | exact qv1 | exact QV_div rfl rfl hne hr | exact QV_indexAddr rfl rfl rfl rfl (row_at hx) | exact q_convE Try.underlying5 Try.underlying3 rfl (i64w (by omega))); (exact gy0)) | (apply wlb (hd := rfl); (first | exact q_box rfl rfl rfl | exact q_alloc); (exact gy0); rfl) | refine wln ⟨_, rfl, rfl⟩ rfl ?_ | refine wlnu ⟨_, rfl, rfl⟩ rfl ?_ | refine wst rfl rfl rfl List.not_mem_nil rfl rfl rfl rfl rfl rfl ?_ | refine W_seq ?_ | refine W_condT rfl ?_ | refine W_condF rfl ?_ | refine W_region ?_ | refine W_skip ?_ | refine W_ret ?_ | refine W_block ?_ | refine W_exit ?_))
    refine Exists.intro _ ⟨Weak.refl _, Exists.intro _ ⟨resA_tmp rfl rfl, ?_, rfl⟩⟩
    have : l.getD (1 % l.length) 0 = x := by simp [hx]
    rw [atL, if_neg h0, this]; rfl
end Go.Proofs.Ytkadjimnamcjbaa
