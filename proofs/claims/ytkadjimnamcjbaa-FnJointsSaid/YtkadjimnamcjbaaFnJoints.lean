/- FnJoints: both ends are on a joint, and a stone lies between two joints of an arch. -/
import Derived.Test.YtkadjimnamcjbaaADa
import Derived.Test.YtkadjimnamcjbaaAAt
import Derived.Test.YtkadjimnamcjbaaAJx
import Derived.Test.YtkadjimnamcjbaaEQJ
import Derived.Test.YtkadjimnamcjbaaACode
namespace Go.Proofs.Ytkadjimnamcjbaa
open Go.ChangeShapes Go.WideShapes Go.ChangeAt Go.RowKit Go.Deep Go.Eng
set_option maxRecDepth 100000
attribute [local irreducible] QV TV WL HW W CallOk Weak

set_option maxHeartbeats 2000000 in
theorem law_FnJoints (l : List Int) (hu : ∀ x ∈ l, isU8 x) (_hlen : l.length ≤ 9223372036854775807) : CallOk Try.prog 5 [slU l] (fun r => r = vb true) := by
  refine callOk Try.func5 Try.ntmps5 Try.results5 rfl rfl rfl fun B w0 I0 => ?_
  (repeat (first | refine WL_nil ?_ | (apply wl0 (hd := rfl); (first | exact qv0 | exact QV_bne Try.underlying4 rfl rfl | exact QV_beq Try.underlying4 rfl rfl | exact qv1 | exact q_callA (lbig_ok l)); (exact gy0)) | (apply wlb (hd := rfl); (first | exact q_box rfl rfl rfl | exact q_alloc); (exact gy0); rfl) | refine wln ⟨_, rfl, rfl⟩ rfl ?_ | refine wst rfl rfl rfl List.not_mem_nil rfl rfl rfl rfl rfl rfl ?_ | refine W_seq ?_ | refine W_condT rfl ?_ | refine W_condF rfl ?_ | refine W_region ?_ | refine W_skip ?_ | refine W_ret ?_ | refine W_block ?_ | refine W_exit ?_))
  (refine W_cond rfl (fun hc => ?_) (fun hc => ?_))
  · (repeat (first | refine WL_nil ?_ | (apply wl0 (hd := rfl); (first | exact qv0 | exact QV_bne Try.underlying4 rfl rfl | exact QV_beq Try.underlying4 rfl rfl | exact qv1); (exact gy0)) | (apply wlb (hd := rfl); (first | exact q_box rfl rfl rfl | exact q_alloc); (exact gy0); rfl) | refine wln ⟨_, rfl, rfl⟩ rfl ?_ | refine wst rfl rfl rfl List.not_mem_nil rfl rfl rfl rfl rfl rfl ?_ | refine W_seq ?_ | refine W_condT rfl ?_ | refine W_condF rfl ?_ | refine W_region ?_ | refine W_skip ?_ | refine W_ret ?_ | refine W_block ?_ | refine W_exit ?_))
    refine Exists.intro _ ⟨Weak.refl _, Exists.intro _ ⟨resA_tmp rfl rfl, ?_, rfl⟩⟩
    rfl
  · have hl : Bts l := ⟨hu, by simp at hc; omega⟩
    (repeat (first | refine WL_nil ?_ | (apply wl0 (hd := rfl); (first | exact qv0 | exact QV_bne Try.underlying4 rfl rfl | exact QV_beq Try.underlying4 rfl rfl | exact qv1); (exact gy0)) | (apply wlb (hd := rfl); (first | exact q_box rfl rfl rfl | exact q_alloc); (exact gy0); rfl) | refine wln ⟨_, rfl, rfl⟩ rfl ?_ | refine wst rfl rfl rfl List.not_mem_nil rfl rfl rfl rfl rfl rfl ?_ | refine W_seq ?_ | refine W_condT rfl ?_ | refine W_condF rfl ?_ | refine W_region ?_ | refine W_skip ?_ | refine W_ret ?_ | refine W_block ?_ | refine W_exit ?_))
    refine wlc (drawArch_ok l hl) rfl (by (repeat' (first | exact LeDs.nil | refine LeDs.cons (by first | exact LeD.v | exact LeD.sl | exact LeD.own | exact LeD.nil | exact LeD.top) ?_ | refine LeDs.agg ?_ ?_)); first | done | fail "open") (fun r ⟨s, _, _, hr⟩ => by subst hr; rfl) rfl (fun r hR => ?_)
    obtain ⟨js, ha, hs, rfl⟩ := hR
    have h8 := arch_len ha
    have hat := atL_255 hl
    have t0 := Int.tmod_nonneg ((js.length : Int) - 1) hat.1
    have t1 := Int.tmod_lt_of_pos (atL l) (b := (js.length : Int) - 1) (by omega)
    obtain ⟨k, hk⟩ : ∃ k : Nat, (atL l).tmod ((js.length : Int) - 1) = k := ⟨((atL l).tmod ((js.length : Int) - 1)).toNat, by omega⟩
    have hne : (js.length : Int) - 1 ≠ 0 := by omega
    have hrm : adv .rem .i64 (atL l) ((js.length : Int) - 1) = some (.int .i64 (k : Int)) := by simp only [adv]; rw [hk]
    have hkl : k + 1 < js.length := by omega
    clear t0 t1 hk hat
    have hp := jat_lt (show k < js.length by omega)
    have hq := jat_lt hkl
    obtain ⟨h1, h2, h3⟩ := joint_pts ha (k := k) (by omega)
    have hst : stoneB (quad (jat js k) (jat js (k + 1))) = true := arch_step ha hkl
    have hsm := hs.at (k := k) (by omega)
    unfold smP at hsm
    have cb := implStoneBetween_ok _ _ hst
    have cm1 := implMirrorJoint_ok (jat js k) 3 h1 h2 rfl
    have cm2 := implMirrorJoint_ok (mirJ 3 (jat js k)) 3 (ptOk_true.2 (by simp only [mirJ, mirP]; omega)) (ptOk_true.2 (by simp only [mirJ, mirP]; omega)) rfl
    rw [mirJ_twice] at cm2
    have cj := implJointOk_yes (jat js k) h1 h2 h3
    have ci := implIsOnJoint_ok (jat js k) (jat js k).i h1 h2 h3
    rw [h1, on_i h1 h2, Bool.and_self] at ci
    have co := implIsOnJoint_ok (jat js k) (jat js k).o h1 h2 h3
    rw [h2, on_o h1 h2, Bool.and_self] at co
    have cf := implIsOnJoint_ok (jat js k) ⟨2 * (jat js k).o.x - (jat js k).i.x, 2 * (jat js k).o.y - (jat js k).i.y⟩ h1 h2 h3
    rw [on_far h3, Bool.and_false] at cf
    have csk := stoneOk_ok (quad (jat js k) (jat js (k + 1))) (quad_len _ _)
    rw [hst] at csk
    have cin := isInStone_ok (quad (jat js k) (jat js (k + 1))) (jat js k).i (quad_len _ _)
    rw [quad_in hst] at cin
    have ct := implJointText_ok (jat js k) h1 h2 h3
    have cp1 := implPointText_ok (jat js k).i h1
    have cp2 := implPointText_ok (jat js k).o h2
    have l1 := ptL_len (jat js k).i
    have l2 := ptL_len (jat js k).o
    have cfl := implIsFlat_ok (jat js k) h1 h2 h3
    have c9 : abin .eql .i64 (jat js k).i.y (jat js k).o.y = some (.bool ((jat js k).i.y == (jat js k).o.y)) := rfl
    (repeat (first | refine WL_nil ?_ | (apply wl0 (hd := rfl); (first | exact qv0 | exact QV_bne Try.underlying4 rfl rfl | exact QV_beq Try.underlying4 rfl rfl | exact qv1); (exact gy0)) | (apply wlb (hd := rfl); (first | exact q_box rfl rfl rfl | exact q_alloc); (exact gy0); rfl) | refine wln ⟨_, rfl, rfl⟩ rfl ?_ | refine wst rfl rfl rfl List.not_mem_nil rfl rfl rfl rfl rfl rfl ?_ | refine W_seq ?_ | refine W_condT rfl ?_ | refine W_condF rfl ?_ | refine W_region ?_ | refine W_skip ?_ | refine W_ret ?_ | refine W_block ?_ | refine W_exit ?_))
    refine wdraw 8 (by kernel_rfl) (by kernel_rfl) (by kernel_rfl) rfl ?_
    (repeat (first | refine HW_nil ?_ | (apply hw0 (hd := rfl); (first | exact qv0 | exact QV_bne Try.underlying4 rfl rfl | exact QV_beq Try.underlying4 rfl rfl | exact qv1 | exact q_callA (lat_ok l hl) | exact QV_div rfl rfl hne hrm); (exact gy0)) | (apply hwb (hd := rfl); (first | exact q_box rfl rfl rfl | exact q_alloc); (exact gy0); rfl) | refine hwn ⟨_, rfl, rfl⟩ rfl ?_))
    (repeat (first | refine WL_nil ?_ | (apply wl0 (hd := rfl); (first | exact qv0 | exact QV_bne Try.underlying4 rfl rfl | exact QV_beq Try.underlying4 rfl rfl | exact qv1 | exact QV_indexAddr rfl rfl rfl rfl (row_at hp)); (exact gy0)) | (apply wlb (hd := rfl); (first | exact q_box rfl rfl rfl | exact q_alloc); (exact gy0); rfl) | refine wln ⟨_, rfl, rfl⟩ rfl ?_ | refine wst rfl rfl rfl List.not_mem_nil rfl rfl rfl rfl rfl rfl ?_ | refine W_seq ?_ | refine W_condT rfl ?_ | refine W_condF rfl ?_ | refine W_region ?_ | refine W_skip ?_ | refine W_ret ?_ | refine W_block ?_ | refine W_exit ?_))
    refine wdraw 13 (by kernel_rfl) (by kernel_rfl) (by kernel_rfl) rfl ?_
    (repeat (first | refine HW_nil ?_ | (apply hw0 (hd := rfl); (first | exact qv0 | exact QV_bne Try.underlying4 rfl rfl | exact QV_beq Try.underlying4 rfl rfl | exact qv1 | exact QV_indexAddr rfl rfl rfl rfl (row_at hq)); (exact gy0)) | (apply hwb (hd := rfl); (first | exact q_box rfl rfl rfl | exact q_allocT rfl); (exact gy0); rfl) | refine hwn ⟨_, rfl, rfl⟩ rfl ?_ | (apply hwn1 (hd := rfl); exact q_call1A 40 15 (cb); (exact gy0); rfl) | refine hwi rfl rfl List.not_mem_nil rfl rfl rfl rfl rfl ?_))
    cases e9 : ((jat js k).i.y == (jat js k).o.y)
    · rw [e9] at cfl c9
      (repeat (first | refine WL_nil ?_ | (apply wl0 (hd := rfl); (first | exact qv0 | exact QV_bne Try.underlying4 rfl rfl | exact QV_beq Try.underlying4 rfl rfl | exact qv1 | exact q_callA (cm1)); (exact gy0)) | (apply wlb (hd := rfl); (first | exact q_box rfl rfl rfl | exact q_alloc); (exact gy0); rfl) | refine wln ⟨_, rfl, rfl⟩ rfl ?_ | refine wst rfl rfl rfl List.not_mem_nil rfl rfl rfl rfl rfl rfl ?_ | refine W_seq ?_ | refine W_condT rfl ?_ | refine W_condF rfl ?_ | refine W_region ?_ | refine W_skip ?_ | refine W_ret ?_ | refine W_block ?_ | refine W_exit ?_))
      refine wdraw 86 (by kernel_rfl) (by kernel_rfl) (by kernel_rfl) rfl ?_
      (repeat (first | refine HW_nil ?_ | (apply hw0 (hd := rfl); (first | exact QV_eqJ Try.underlying51 (by decide) (by decide) rfl rfl rfl rfl (by kernel_rfl) (by kernel_rfl) rfl rfl | exact QV_bin rfl rfl c9 | exact q_eqStr rfl rfl | exact q_cat (b := [45]) rfl rfl rfl (by simp; omega) | exact q_cat (a := ptL (jat js k).i ++ [45]) (b := ptL (jat js k).o) rfl rfl rfl (by simp; omega) | exact qv0 | exact QV_bne Try.underlying4 rfl rfl | exact QV_beq Try.underlying4 rfl rfl | exact qv1 | exact q_callA (cj) | exact q_callA (ci) | exact q_callA (co) | exact q_callA (cf) | exact q_callA (cm1) | exact q_callA (cm2) | exact q_callA (csk) | exact q_callA (cin) | exact q_callA (cfl) | exact q_callA (ct) | exact q_callA (cp1) | exact q_callA (cp2)); (exact gy0)) | (apply hwb (hd := rfl); (first | exact q_box rfl rfl rfl | exact q_alloc); (exact gy0); rfl) | refine hwn ⟨_, rfl, rfl⟩ rfl ?_))
      (repeat (first | refine WL_nil ?_ | (apply wl0 (hd := rfl); (first | exact qv0 | exact QV_bne Try.underlying4 rfl rfl | exact QV_beq Try.underlying4 rfl rfl | exact qv1); (exact gy0)) | (apply wlb (hd := rfl); (first | exact q_box rfl rfl rfl | exact q_alloc); (exact gy0); rfl) | refine wln ⟨_, rfl, rfl⟩ rfl ?_ | refine wst rfl rfl rfl List.not_mem_nil rfl rfl rfl rfl rfl rfl ?_ | refine W_seq ?_ | refine W_condT rfl ?_ | refine W_condF rfl ?_ | refine W_region ?_ | refine W_skip ?_ | refine W_ret ?_ | refine W_block ?_ | refine W_exit ?_))
      refine Exists.intro _ ⟨Weak.refl _, Exists.intro _ ⟨resA_tmp rfl rfl, ?_, rfl⟩⟩
      rfl
    · rw [e9] at cfl c9
      (repeat (first | refine WL_nil ?_ | (apply wl0 (hd := rfl); (first | exact qv0 | exact QV_bne Try.underlying4 rfl rfl | exact QV_beq Try.underlying4 rfl rfl | exact qv1 | exact q_callA (cm1)); (exact gy0)) | (apply wlb (hd := rfl); (first | exact q_box rfl rfl rfl | exact q_alloc); (exact gy0); rfl) | refine wln ⟨_, rfl, rfl⟩ rfl ?_ | refine wst rfl rfl rfl List.not_mem_nil rfl rfl rfl rfl rfl rfl ?_ | refine W_seq ?_ | refine W_condT rfl ?_ | refine W_condF rfl ?_ | refine W_region ?_ | refine W_skip ?_ | refine W_ret ?_ | refine W_block ?_ | refine W_exit ?_))
      refine wdraw 86 (by kernel_rfl) (by kernel_rfl) (by kernel_rfl) rfl ?_
      (repeat (first | refine HW_nil ?_ | (apply hw0 (hd := rfl); (first | exact QV_eqJ Try.underlying51 (by decide) (by decide) rfl rfl rfl rfl (by kernel_rfl) (by kernel_rfl) rfl rfl | exact QV_bin rfl rfl c9 | exact q_eqStr rfl rfl | exact q_cat (b := [45]) rfl rfl rfl (by simp; omega) | exact q_cat (a := ptL (jat js k).i ++ [45]) (b := ptL (jat js k).o) rfl rfl rfl (by simp; omega) | exact qv0 | exact QV_bne Try.underlying4 rfl rfl | exact QV_beq Try.underlying4 rfl rfl | exact qv1 | exact q_callA (cj) | exact q_callA (ci) | exact q_callA (co) | exact q_callA (cf) | exact q_callA (cm1) | exact q_callA (cm2) | exact q_callA (csk) | exact q_callA (cin) | exact q_callA (cfl) | exact q_callA (ct) | exact q_callA (cp1) | exact q_callA (cp2)); (exact gy0)) | (apply hwb (hd := rfl); (first | exact q_box rfl rfl rfl | exact q_alloc); (exact gy0); rfl) | refine hwn ⟨_, rfl, rfl⟩ rfl ?_))
      (repeat (first | refine WL_nil ?_ | (apply wl0 (hd := rfl); (first | exact qv0 | exact QV_bne Try.underlying4 rfl rfl | exact QV_beq Try.underlying4 rfl rfl | exact qv1); (exact gy0)) | (apply wlb (hd := rfl); (first | exact q_box rfl rfl rfl | exact q_alloc); (exact gy0); rfl) | refine wln ⟨_, rfl, rfl⟩ rfl ?_ | refine wst rfl rfl rfl List.not_mem_nil rfl rfl rfl rfl rfl rfl ?_ | refine W_seq ?_ | refine W_condT rfl ?_ | refine W_condF rfl ?_ | refine W_region ?_ | refine W_skip ?_ | refine W_ret ?_ | refine W_block ?_ | refine W_exit ?_))
      refine Exists.intro _ ⟨Weak.refl _, Exists.intro _ ⟨resA_tmp rfl rfl, ?_, rfl⟩⟩
      rfl

theorem walk_FnJoints {H : Type} (enc : TypeId × Value → H) (W : World) (base : Nat) (args : Array Value) (ds : List (DataW H)) (p : List MemPlace) (hval : ∀ (j : Nat) (t : TypeId) (v : Value), Try.f5.params[j]? = some t → args[j]? = some v → Value.okWide Try.prog W .any base t v) (hA : DataW.TrodAll enc Try.prog W 0 (fun _ => true) true Try.f5.params.toList args.toList ds p) (hlt : ∀ x ∈ p, x.block < W.heap.size) :
    Calls Try.prog 5 args W fun e w' => e = .returned (.bool true) ∧ Bel W w' := by
  rw [Try.params5] at hA hval
  obtain ⟨v0, vs0, t0, ds0, p0, q0, hargs, rfl, rfl, h0, r0⟩ := trodAll_cons hA
  obtain ⟨rfl, rfl, rfl⟩ := trodAll_nil r0
  obtain rfl : args = #[v0] := by cases args; simp_all
  obtain ⟨c, bc, lc, dc⟩ := open_code (hval 0 22 v0 rfl rfl) h0 (fun x hx => hlt x (by simp [hx]))
  exact law_of_call (law_FnJoints c bc lc) (by simp only [dreps]; exact ⟨_, _, rfl, dc, rfl⟩)

set_option maxRecDepth 100000 in
theorem lifted_FnJoints (os : Os) (started : os.Started) (H : Type) (enc : TypeId × Value → H) :
    ReturnsInHanded {} Try.checked os 5 .any (Rows.fnJointsSpec.pre6 enc Try.prog Try.f5 Rows.fnJointsRow.domain false) (Rows.fnJointsSpec.post enc Try.prog Try.f5 false true false false) :=
  law_lifted (tb := 4) started (by kernel_rfl) Try.func5
    (ChangeSpec.witness6 (enc := enc) (C := Try.checked) false ⟨#[], #[.slice none 0 0], []⟩ 8 (by kernel_rfl) (by kernel_rfl) (by kernel_rfl) (by kernel_rfl))
    rfl Try.underlying4 (by kernel_rfl) rfl (fun ds h => by match ds, h with | [d0], _ => rfl)
    (walk_FnJoints enc)

/-- THE STATEMENT. -/
theorem holds_FnJoints : Rows.FnJointsSaid :=
  OpenClaim.holds_of_wide 5 Try.f5 rfl rfl rfl rfl rfl rfl rfl ⟨rfl, rfl, rfl, rfl, rfl⟩ rfl rfl rfl rfl rfl (by kernel_rfl) Try.func5 (by kernel_rfl)
    (of_decide_eq_true (by kernel_rfl)) (by unfold Func.isWrapper; first | (rw [if_pos (by decide +kernel)]; kernel_rfl) | (rw [if_neg (by decide +kernel)]; exact ⟨rfl, rfl⟩))
    (fun os started H enc _ => lifted_FnJoints os started H enc)
end Go.Proofs.Ytkadjimnamcjbaa
