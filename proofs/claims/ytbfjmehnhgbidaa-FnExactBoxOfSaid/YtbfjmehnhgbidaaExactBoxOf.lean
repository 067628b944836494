/- The program's BoxOf returns what the reference's returns. -/
import Derived.Test.YtbfjmehnhgbidaaALaw
import Derived.Test.YtbfjmehnhgbidaaABox
import Derived.Test.YtbfjmehnhgbidaaAO
namespace Go.Proofs.Ytbfjmehnhgbidaa
open Go.ChangeShapes Go.WideShapes Go.ChangeAt Go.RowKit Go.Deep Go.Eng
set_option maxRecDepth 100000
attribute [local irreducible] QV TV WL HW W CallOk Weak

theorem boxP_two (l : List Pt) : ∃ p q : Pt, boxP l = .tup [p.av, q.av] := by
  unfold boxP
  split
  · exact ⟨_, _, rfl⟩
  · exact ⟨_, _, rfl⟩
theorem law_FnExactBoxOf (l : List Pt) (hl : l.length ≤ 9223372036854775807) : CallOk Try.prog 5 [.agg [slPt l]] (fun r => r = vb true) := by
  have hsz := szStone_ok l 1048576 (by omega) hl
  refine callOk Try.func5 Try.ntmps5 Try.results5 rfl rfl rfl fun B w0 I0 => ?_
  (repeat (first | refine WL_nil ?_ | (apply wl0 (hd := rfl); (first | exact q_move rfl | exact q_assign rfl | exact q_load rfl rfl rfl rfl | exact QV_fieldAddr rfl | exact QV_ar rfl rfl rfl (by omega) | exact QV_bin rfl rfl rfl | exact q_loadE rfl rfl | exact q_fieldAddrE rfl rfl | exact QV_not rfl | exact QV_bne Try.underlying4 rfl rfl | exact QV_beq Try.underlying4 rfl rfl | exact q_pick rfl rfl | exact QV_neg' rfl (by omega) | exact QV_neg rfl | exact q_lenM rfl rfl | exact QV_len rfl rfl | exact QV_lenNil rfl | exact QV_extract rfl rfl | exact q_field rfl rfl rfl rfl | exact QV_min rfl rfl | exact QV_max rfl rfl | exact q_build rfl | exact QV_nilCheck rfl trivial | exact QV_nilCheckF rfl | exact q_makeFunc rfl rfl | exact q_call (hsz) rfl (by (repeat' (first | exact LeDs.nil | refine LeDs.cons (by first | exact LeD.v | exact LeD.sl | exact LeD.own | exact LeD.nil | exact LeD.top) ?_ | refine LeDs.agg ?_ ?_)); first | done | fail "open") rfl rfl); (first | exact trivial | exact ⟨_, rfl, rfl⟩)) | (apply wlb (hd := rfl); (first | exact q_box rfl rfl rfl | exact q_alloc); (first | exact trivial | exact ⟨_, rfl, rfl⟩); rfl) | refine wln ⟨_, rfl, rfl⟩ rfl ?_ | refine wst rfl rfl rfl List.not_mem_nil rfl rfl rfl rfl rfl rfl ?_ | refine W_seq ?_ | refine W_condT rfl ?_ | refine W_condF rfl ?_ | refine W_region ?_ | refine W_skip ?_ | refine W_ret ?_ | refine W_block ?_ | refine W_exit ?_))
  (refine W_cond rfl (fun hc => ?_) (fun hc => ?_))
  · (repeat (first | refine WL_nil ?_ | (apply wl0 (hd := rfl); (first | exact q_move rfl | exact q_assign rfl | exact q_load rfl rfl rfl rfl | exact QV_fieldAddr rfl | exact QV_ar rfl rfl rfl (by omega) | exact QV_bin rfl rfl rfl | exact q_loadE rfl rfl | exact q_fieldAddrE rfl rfl | exact QV_not rfl | exact QV_bne Try.underlying4 rfl rfl | exact QV_beq Try.underlying4 rfl rfl | exact q_pick rfl rfl | exact QV_neg' rfl (by omega) | exact QV_neg rfl | exact q_lenM rfl rfl | exact QV_len rfl rfl | exact QV_lenNil rfl | exact QV_extract rfl rfl | exact q_field rfl rfl rfl rfl | exact QV_min rfl rfl | exact QV_max rfl rfl | exact q_build rfl | exact QV_nilCheck rfl trivial | exact QV_nilCheckF rfl | exact q_makeFunc rfl rfl); (first | exact trivial | exact ⟨_, rfl, rfl⟩)) | (apply wlb (hd := rfl); (first | exact q_box rfl rfl rfl | exact q_alloc); (first | exact trivial | exact ⟨_, rfl, rfl⟩); rfl) | refine wln ⟨_, rfl, rfl⟩ rfl ?_ | refine wst rfl rfl rfl List.not_mem_nil rfl rfl rfl rfl rfl rfl ?_ | refine W_seq ?_ | refine W_condT rfl ?_ | refine W_condF rfl ?_ | refine W_region ?_ | refine W_skip ?_ | refine W_ret ?_ | refine W_block ?_ | refine W_exit ?_))
    refine Exists.intro _ ⟨Weak.refl _, Exists.intro _ ⟨resA_tmp rfl rfl, ?_, rfl⟩⟩
    rfl
  · have hn : l.length ≤ 1048576 := by
      simp at hc
      split at hc <;> omega
    have h1 := boxOf_ok l hn
    have h2 := implBoxOf_ok l hn
    obtain ⟨p, q, hpq⟩ := boxP_two l
    rw [hpq] at h1 h2
    (repeat (first | refine WL_nil ?_ | (apply wl0 (hd := rfl); (first | exact q_move rfl | exact q_assign rfl | exact q_load rfl rfl rfl rfl | exact QV_fieldAddr rfl | exact QV_ar rfl rfl rfl (by omega) | exact QV_bin rfl rfl rfl | exact q_loadE rfl rfl | exact q_fieldAddrE rfl rfl | exact QV_not rfl | exact QV_bne Try.underlying4 rfl rfl | exact QV_beq Try.underlying4 rfl rfl | exact q_pick rfl rfl | exact QV_neg' rfl (by omega) | exact QV_neg rfl | exact q_lenM rfl rfl | exact QV_len rfl rfl | exact QV_lenNil rfl | exact QV_extract rfl rfl | exact q_field rfl rfl rfl rfl | exact QV_min rfl rfl | exact QV_max rfl rfl | exact q_build rfl | exact QV_nilCheck rfl trivial | exact QV_nilCheckF rfl | exact q_makeFunc rfl rfl | exact q_call (h1) rfl (by (repeat' (first | exact LeDs.nil | refine LeDs.cons (by first | exact LeD.v | exact LeD.sl | exact LeD.own | exact LeD.nil | exact LeD.top) ?_ | refine LeDs.agg ?_ ?_)); first | done | fail "open") rfl rfl | exact q_call (h2) rfl (by (repeat' (first | exact LeDs.nil | refine LeDs.cons (by first | exact LeD.v | exact LeD.sl | exact LeD.own | exact LeD.nil | exact LeD.top) ?_ | refine LeDs.agg ?_ ?_)); first | done | fail "open") rfl rfl | exact q_call (eqPoint_ok _) rfl (by (repeat' (first | exact LeDs.nil | refine LeDs.cons (by first | exact LeD.v | exact LeD.sl | exact LeD.own | exact LeD.nil | exact LeD.top) ?_ | refine LeDs.agg ?_ ?_)); first | done | fail "open") rfl rfl); (first | exact trivial | exact ⟨_, rfl, rfl⟩)) | (apply wlb (hd := rfl); (first | exact q_box rfl rfl rfl | exact q_alloc); (first | exact trivial | exact ⟨_, rfl, rfl⟩); rfl) | refine wln ⟨_, rfl, rfl⟩ rfl ?_ | (apply wln1 (hd := rfl); exact q_call1 0 7 (toStone_ok l hn) rfl (by (repeat' (first | exact LeDs.nil | refine LeDs.cons (by first | exact LeD.v | exact LeD.sl | exact LeD.own | exact LeD.nil | exact LeD.top) ?_ | refine LeDs.agg ?_ ?_)); first | done | fail "open") rfl rfl; (first | exact trivial | exact ⟨_, rfl, rfl⟩); rfl) | (apply wln1 (hd := rfl); exact q_call1 10 7 (toStone_ok l hn) rfl (by (repeat' (first | exact LeDs.nil | refine LeDs.cons (by first | exact LeD.v | exact LeD.sl | exact LeD.own | exact LeD.nil | exact LeD.top) ?_ | refine LeDs.agg ?_ ?_)); first | done | fail "open") rfl rfl; (first | exact trivial | exact ⟨_, rfl, rfl⟩); rfl) | refine wst rfl rfl rfl List.not_mem_nil rfl rfl rfl rfl rfl rfl ?_ | refine W_seq ?_ | refine W_condT rfl ?_ | refine W_condF rfl ?_ | refine W_region ?_ | refine W_skip ?_ | refine W_ret ?_ | refine W_block ?_ | refine W_exit ?_))
    refine wdraw 5 (by kernel_rfl) (by kernel_rfl) (by kernel_rfl) rfl ?_
    (repeat (first | refine HW_nil ?_ | (apply hw0 (hd := rfl); (first | exact q_move rfl | exact q_assign rfl | exact q_load rfl rfl rfl rfl | exact QV_fieldAddr rfl | exact QV_ar rfl rfl rfl (by omega) | exact QV_bin rfl rfl rfl | exact q_loadE rfl rfl | exact q_fieldAddrE rfl rfl | exact QV_not rfl | exact QV_bne Try.underlying4 rfl rfl | exact QV_beq Try.underlying4 rfl rfl | exact q_pick rfl rfl | exact QV_neg' rfl (by omega) | exact QV_neg rfl | exact q_lenM rfl rfl | exact QV_len rfl rfl | exact QV_lenNil rfl | exact QV_extract rfl rfl | exact q_field rfl rfl rfl rfl | exact QV_min rfl rfl | exact QV_max rfl rfl | exact q_build rfl | exact QV_nilCheck rfl trivial | exact QV_nilCheckF rfl | exact q_makeFunc rfl rfl | exact q_call (eqStone_ok l hn) rfl (by (repeat' (first | exact LeDs.nil | refine LeDs.cons (by first | exact LeD.v | exact LeD.sl | exact LeD.own | exact LeD.nil | exact LeD.top) ?_ | refine LeDs.agg ?_ ?_)); first | done | fail "open") rfl rfl); (first | exact trivial | exact ⟨_, rfl, rfl⟩)) | (apply hwb (hd := rfl); (first | exact q_box rfl rfl rfl | exact q_alloc); (first | exact trivial | exact ⟨_, rfl, rfl⟩); rfl) | refine hwn ⟨_, rfl, rfl⟩ rfl ?_ | (apply hwn1 (hd := rfl); exact q_call1 20 7 (toStone_ok l hn) rfl (by (repeat' (first | exact LeDs.nil | refine LeDs.cons (by first | exact LeD.v | exact LeD.sl | exact LeD.own | exact LeD.nil | exact LeD.top) ?_ | refine LeDs.agg ?_ ?_)); first | done | fail "open") rfl rfl; (first | exact trivial | exact ⟨_, rfl, rfl⟩); rfl)))
    (repeat (first | refine WL_nil ?_ | (apply wl0 (hd := rfl); (first | exact q_move rfl | exact q_assign rfl | exact q_load rfl rfl rfl rfl | exact QV_fieldAddr rfl | exact QV_ar rfl rfl rfl (by omega) | exact QV_bin rfl rfl rfl | exact q_loadE rfl rfl | exact q_fieldAddrE rfl rfl | exact QV_not rfl | exact QV_bne Try.underlying4 rfl rfl | exact QV_beq Try.underlying4 rfl rfl | exact q_pick rfl rfl | exact QV_neg' rfl (by omega) | exact QV_neg rfl | exact q_lenM rfl rfl | exact QV_len rfl rfl | exact QV_lenNil rfl | exact QV_extract rfl rfl | exact q_field rfl rfl rfl rfl | exact QV_min rfl rfl | exact QV_max rfl rfl | exact q_build rfl | exact QV_nilCheck rfl trivial | exact QV_nilCheckF rfl | exact q_makeFunc rfl rfl); (first | exact trivial | exact ⟨_, rfl, rfl⟩)) | (apply wlb (hd := rfl); (first | exact q_box rfl rfl rfl | exact q_alloc); (first | exact trivial | exact ⟨_, rfl, rfl⟩); rfl) | refine wln ⟨_, rfl, rfl⟩ rfl ?_ | refine wst rfl rfl rfl List.not_mem_nil rfl rfl rfl rfl rfl rfl ?_ | refine W_seq ?_ | refine W_condT rfl ?_ | refine W_condF rfl ?_ | refine W_region ?_ | refine W_skip ?_ | refine W_ret ?_ | refine W_block ?_ | refine W_exit ?_))
    refine Exists.intro _ ⟨Weak.refl _, Exists.intro _ ⟨resA_tmp rfl rfl, ?_, rfl⟩⟩
    rfl

theorem walk_FnExactBoxOf {H : Type} (enc : TypeId × Value → H) (W : World) (base : Nat) (args : Array Value) (ds : List (DataW H)) (p : List MemPlace) (hval : ∀ (j : Nat) (t : TypeId) (v : Value), Try.f5.params[j]? = some t → args[j]? = some v → Value.okWide Try.prog W .any base t v) (hA : DataW.TrodAll enc Try.prog W 0 (fun _ => true) true Try.f5.params.toList args.toList ds p) (hlt : ∀ x ∈ p, x.block < W.heap.size) :
    Calls Try.prog 5 args W fun e w' => e = .returned (.bool true) ∧ Bel W w' := by
  rw [Try.params5] at hA hval
  obtain ⟨v0, vs0, t0, ds0, p0, q0, hargs, rfl, rfl, h0, r0⟩ := trodAll_cons hA
  obtain ⟨rfl, rfl, rfl⟩ := trodAll_nil r0
  obtain rfl : args = #[v0] := by cases args; simp_all
  obtain ⟨_, ⟨a, rfl, ba, la⟩, da⟩ := open_agg Try.underlying24 opens_Stone (hval 0 24 v0 rfl rfl) h0 (fun x hx => hlt x (by simp [hx]))
  exact law_of_call (law_FnExactBoxOf a la) (by simp only [dreps]; exact ⟨_, _, rfl, da, rfl⟩)

set_option maxRecDepth 100000 in
theorem lifted_FnExactBoxOf (os : Os) (started : os.Started) (H : Type) (enc : TypeId × Value → H) :
    ReturnsInHanded {} Try.checked os 5 .any (Rows.fnExactBoxOfSpec.pre6 enc Try.prog Try.f5 Rows.fnExactBoxOfRow.domain false) (Rows.fnExactBoxOfSpec.post enc Try.prog Try.f5 false true false false) :=
  law_lifted (tb := 4) started (by kernel_rfl) Try.func5
    (ChangeSpec.witness6 (enc := enc) (C := Try.checked) false ⟨#[], #[.agg #[.slice none 0 0]], []⟩ 8 (by kernel_rfl) (by kernel_rfl) (by kernel_rfl) (by kernel_rfl))
    rfl Try.underlying4 (by kernel_rfl) rfl (fun ds h => by match ds, h with | [d0], _ => rfl)
    (walk_FnExactBoxOf enc)

/-- THE STATEMENT. -/
theorem holds_FnExactBoxOf : Rows.FnExactBoxOfSaid :=
  OpenClaim.holds_of_wide 5 Try.f5 rfl rfl rfl rfl rfl rfl rfl ⟨rfl, rfl, rfl, rfl, rfl⟩ rfl rfl rfl rfl rfl (by kernel_rfl) Try.func5 (by kernel_rfl)
    (of_decide_eq_true (by kernel_rfl)) (by unfold Func.isWrapper; first | (rw [if_pos (by decide +kernel)]; kernel_rfl) | (rw [if_neg (by decide +kernel)]; exact ⟨rfl, rfl⟩))
    (fun os started H enc _ => lifted_FnExactBoxOf os started H enc)
end Go.Proofs.Ytbfjmehnhgbidaa
