/- FnStones: a stone contains its corners, and its mirror image is a stone. -/
import Derived.Test.YtkadjimnamcjbaaYADs
import Derived.Test.YtkadjimnamcjbaaYMSt
import Derived.Test.YtkadjimnamcjbaaYAStx
import Derived.Test.YtkadjimnamcjbaaYIQ
import Derived.Test.YtkadjimnamcjbaaYALdLaw
import Derived.Test.YtkadjimnamcjbaaZ2
import Derived.Test.YtkadjimnamcjbaaYACode
namespace Go.Proofs.Ytkadjimnamcjbaa
open Go.ChangeShapes Go.WideShapes Go.ChangeAt Go.RowKit Go.Deep Go.Eng
set_option maxRecDepth 100000
attribute [local irreducible] QV TV WL HW W CallOk Weak

theorem atL_in {l : List Int} (hl : Bts l) : 0 ≤ atL l ∧ atL l ≤ 255 := by
  unfold atL
  split
  · omega
  · rename_i h0
    have hi : 1 % l.length < l.length := Nat.mod_lt _ (by omega)
    have := hl.u l[1 % l.length] (List.getElem_mem hi)
    unfold isU8 at this
    simp only [List.getD_eq_getElem?_getD, List.getElem?_eq_getElem hi, Option.getD_some]
    exact this
theorem box_small {s : List Pt} (h : stoneB s = true) : ∀ n, ptOk (highP s n) = true
  | 0 => cor_ok h 0
  | k + 1 => by
    have h1 := box_small h k
    have h2 := ptOk_true.1 (cor_ok h k)
    have h4 := ptOk_true.1 h1
    exact ptOk_true.2 (by simp only [highP]; omega)
theorem lssF {a b : Int} (h : b ≤ a) : abin .lss .i64 a b = some (.bool false) := by simp [abin]; omega
theorem gtrF {a b : Int} (h : a ≤ b) : abin .gtr .i64 a b = some (.bool false) := by simp [abin]; omega
set_option maxHeartbeats 2000000 in
theorem law_FnStones (l : List Int) (hu : ∀ x ∈ l, isU8 x) (_hlen : l.length ≤ 9223372036854775807) : CallOk Try.prog 8 [slU l] (fun r => r = vb true) := by
  refine callOk Try.func8 Try.ntmps8 Try.results8 rfl rfl rfl fun B w0 I0 => ?_
  (repeat (first | refine WL_nil ?_ | (apply wl0 (hd := rfl); (first | exact qv0 | exact QV_bne Try.underlying4 rfl rfl | exact QV_beq Try.underlying4 rfl rfl | exact qv1 | exact q_callA (lbig_ok l)); (exact gy0)) | (apply wlb (hd := rfl); (first | exact q_box rfl rfl rfl | exact q_alloc); (exact gy0); rfl) | refine wln ⟨_, rfl, rfl⟩ rfl ?_ | refine wlnu ⟨_, rfl, rfl⟩ rfl ?_ | refine wst rfl rfl rfl List.not_mem_nil rfl rfl rfl rfl rfl rfl ?_ | refine W_seq ?_ | refine W_condT rfl ?_ | refine W_condF rfl ?_ | refine W_region ?_ | refine W_skip ?_ | refine W_ret ?_ | refine W_block ?_ | refine W_exit ?_))
  (refine W_cond rfl (fun hc => ?_) (fun hc => ?_))
  · (repeat (first | refine WL_nil ?_ | (apply wl0 (hd := rfl); (first | exact qv0 | exact QV_bne Try.underlying4 rfl rfl | exact QV_beq Try.underlying4 rfl rfl | exact qv1); (exact gy0)) | (apply wlb (hd := rfl); (first | exact q_box rfl rfl rfl | exact q_alloc); (exact gy0); rfl) | refine wln ⟨_, rfl, rfl⟩ rfl ?_ | refine wlnu ⟨_, rfl, rfl⟩ rfl ?_ | refine wst rfl rfl rfl List.not_mem_nil rfl rfl rfl rfl rfl rfl ?_ | refine W_seq ?_ | refine W_condT rfl ?_ | refine W_condF rfl ?_ | refine W_region ?_ | refine W_skip ?_ | refine W_ret ?_ | refine W_block ?_ | refine W_exit ?_))
    refine Exists.intro _ ⟨Weak.refl _, Exists.intro _ ⟨resA_tmp rfl rfl, ?_, rfl⟩⟩
    rfl
  · have hl : Bts l := ⟨hu, by simp at hc; omega⟩
    (repeat (first | refine WL_nil ?_ | (apply wl0 (hd := rfl); (first | exact qv0 | exact QV_bne Try.underlying4 rfl rfl | exact QV_beq Try.underlying4 rfl rfl | exact qv1); (exact gy0)) | (apply wlb (hd := rfl); (first | exact q_box rfl rfl rfl | exact q_alloc); (exact gy0); rfl) | refine wln ⟨_, rfl, rfl⟩ rfl ?_ | refine wlnu ⟨_, rfl, rfl⟩ rfl ?_ | refine wst rfl rfl rfl List.not_mem_nil rfl rfl rfl rfl rfl rfl ?_ | refine W_seq ?_ | refine W_condT rfl ?_ | refine W_condF rfl ?_ | refine W_region ?_ | refine W_skip ?_ | refine W_ret ?_ | refine W_block ?_ | refine W_exit ?_))
    refine wlc (drawStoneC_ok l hl) rfl (by (repeat' (first | exact LeDs.nil | refine LeDs.cons (by first | exact LeD.v | exact LeD.sl | exact LeD.own | exact LeD.nil | exact LeD.top) ?_ | refine LeDs.agg ?_ ?_)); first | done | fail "open") (fun r ⟨s, _, _, _, _, hr⟩ => by subst hr; rfl) rfl (fun r hR => ?_)
    obtain ⟨s, hs, hb, hm, hv, rfl⟩ := hR
    have ha := atL_in hl
    have t0 := Int.tmod_nonneg 9 ha.1
    have t1 := Int.tmod_lt_of_pos (atL l) (b := 9) (by decide)
    obtain ⟨X, hX⟩ : ∃ X, X = (atL l).tmod 9 - 4 := ⟨_, rfl⟩
    have hX1 : -4 ≤ X ∧ X ≤ 4 := by omega
    have hrm : adv .rem .i64 (atL l) 9 = some (.int .i64 ((atL l).tmod 9)) := rfl
    have hsb : aar .sub ((atL l).tmod 9) 4 = some X := by rw [hX]; rfl
    have hst := stone_len hs
    have hin : inR X (-60) 60 = true := inR_true.2 (by omega)
    have hms := hm X (by omega)
    obtain ⟨m, em⟩ : ∃ m, m = mirT X s 0 := ⟨_, rfl⟩
    have e1 : mirU X s 0 = m := by rw [mirU_eq hs hin, em]
    have cm := callOk_dat (implMirrorStone_yes s X (by rw [mstB, hs, mirU_eq hs hin, hms]; rfl)) rfl
    rw [e1] at cm
    rw [← em] at hms
    have e2 : mirU X m 0 = s := by rw [mirU_eq hms hin, em, mirT_twice]
    have cm2 := callOk_dat (implMirrorStone_yes m X (by rw [mstB, hms, e2, hs]; rfl)) rfl
    rw [e2] at cm2
    have hml : m.length = s.length := by rw [em]; simp [mirT]
    have cb := implBoxOf_ok s (by omega)
    simp only [boxP, if_pos hs] at cb
    obtain ⟨lo, elo⟩ : ∃ lo, lo = lowP s s.length := ⟨_, rfl⟩
    obtain ⟨hi, ehi⟩ : ∃ hi, hi = highP s s.length := ⟨_, rfl⟩
    have co := right_out hs (lo.y)
    have bhi := ptOk_true.1 (box_small hs s.length)
    rw [← ehi] at co bhi
    rw [← elo, ← ehi] at cb
    have cso := implStoneOk_ok s (by omega)
    rw [hs] at cso
    have cw := implWidestOf_ok s (by omega)
    have cwm := implWidestOf_ok m (by omega)
    have ew : wide m = wide s := by rw [em]; exact wide_mir hs (by rw [← em]; exact hms)
    rw [ew] at cwm
    have hwp := wide_pos hs
    obtain ⟨W, eW⟩ : ∃ W, W = wide s := ⟨_, rfl⟩
    rw [← eW] at cw cwm hwp
    have ct := implStoneText_ok s (by omega)
    have cio := implIsInStone_ok s ⟨hi.x + 1, lo.y⟩ (by omega)
    rw [co] at cio
    (repeat (first | refine WL_nil ?_ | (apply wl0 (hd := rfl); (first | exact QV_ar rfl rfl hsb (by omega) | exact qv0 | exact QV_bne Try.underlying4 rfl rfl | exact QV_beq Try.underlying4 rfl rfl | exact qv1 | exact q_callA (cb) | exact q_callA (lat_ok l hl) | exact QV_div rfl rfl (by decide) hrm | exact q_callA (cm) | exact q_callA (cm2)); (exact gy0)) | (apply wlb (hd := rfl); (first | exact q_box rfl rfl rfl | exact q_alloc); (exact gy0); rfl) | refine wln ⟨_, rfl, rfl⟩ rfl ?_ | refine wlnu ⟨_, rfl, rfl⟩ rfl ?_ | refine wst rfl rfl rfl List.not_mem_nil rfl rfl rfl rfl rfl rfl ?_ | refine W_seq ?_ | refine W_condT rfl ?_ | refine W_condF rfl ?_ | refine W_region ?_ | refine W_skip ?_ | refine W_ret ?_ | refine W_block ?_ | refine W_exit ?_))
    refine wdraw 35 (by kernel_rfl) (by kernel_rfl) (by kernel_rfl) rfl ?_
    (repeat (first | refine HW_nil ?_ | (apply hw0 (hd := rfl); (first | exact q_neS rfl rfl (by simp [hml]) | exact q_neStr rfl rfl | exact qv0 | exact QV_bne Try.underlying4 rfl rfl | exact QV_beq Try.underlying4 rfl rfl | exact qv1 | exact q_callA (cso) | exact q_callA (cw) | exact q_callA (cwm) | exact q_callA (ct)); (exact gy0)) | (apply hwb (hd := rfl); (first | exact q_box rfl rfl rfl | exact q_alloc); (exact gy0); rfl) | refine hwn ⟨_, rfl, rfl⟩ rfl ?_ | refine hwnu ⟨_, rfl, rfl⟩ rfl ?_))
    (repeat (first | refine WL_nil ?_ | (apply wl0 (hd := rfl); (first | exact qv0 | exact QV_bne Try.underlying4 rfl rfl | exact QV_beq Try.underlying4 rfl rfl | exact qv1); (exact gy0)) | (apply wlb (hd := rfl); (first | exact q_box rfl rfl rfl | exact q_alloc); (exact gy0); rfl) | refine wln ⟨_, rfl, rfl⟩ rfl ?_ | refine wlnu ⟨_, rfl, rfl⟩ rfl ?_ | refine wst rfl rfl rfl List.not_mem_nil rfl rfl rfl rfl rfl rfl ?_ | refine W_seq ?_ | refine W_condT rfl ?_ | refine W_condF rfl ?_ | refine W_region ?_ | refine W_skip ?_ | refine W_ret ?_ | refine W_block ?_ | refine W_exit ?_))
    refine W_loop (fun n t => ∃ k : Nat, k ≤ s.length ∧ n = s.length - k ∧ t = ⟨[(3, .ptr 3 0), (4, .ptr 4 0), (5, .ptr 5 0), (8, .ptr 8 0), (9, vi k)], [(3, [slPt s]), (4, lo.row), (5, hi.row), (8, [slPt s])], []⟩) ⟨_, _, ⟨0, by omega, rfl, rfl⟩, (weak_mk (by repeat' (first | exact trivial | refine And.intro ?_ ?_ | exact Le.refl | exact Le.nilOwn rfl | exact Le.nilSl | exact Le.ownSl | exact Le.top)) (by repeat' (first | exact trivial | refine And.intro ?_ ?_ | exact ⟨_, rfl, Les.refl _⟩ | exact ⟨_, rfl, by repeat' (first | exact Les.nil | exact Les.cons Le.refl (Les.refl _) | refine Les.cons (by first | exact Le.top | exact Le.refl | exact Le.ownSl | exact Le.nilSl) ?_)⟩)) rfl (by repeat' (first | exact trivial | refine And.intro ?_ ?_ | exact rfl | exact refs_fill (fun _ => rfl) rfl | exact refs_map (fun _ => rfl))) (fun _ _ _ h => by first | exact h.elim | (obtain ⟨rfl, rfl, rfl⟩ := h; simp)))⟩ ?_
    rintro n t ⟨k, hk, rfl, rfl⟩
    by_cases hlt : k < s.length
    · have hp := cor_lt hlt
      have ck := implIsInStone_ok s (cor s k) (by omega)
      rw [corner_in hs hv k hlt] at ck
      obtain ⟨p, ep⟩ : ∃ p, p = cor s k := ⟨_, rfl⟩
      have b1 := low_all (l := s) (by omega) k
      have b2 := high_all (l := s) (by omega) k
      rw [← elo] at b1
      rw [← ehi] at b2
      rw [← ep] at hp ck b1 b2
      have k1 := lssF b1.1
      have k2 := gtrF b2.1
      have k3 := lssF b1.2
      have k4 := gtrF b2.2
      have hpq : eqvO [true, true] [vi p.x, vi p.y] [vi p.x, vi p.y] = some true := by simp [eqvO]
      (repeat (first | refine WL_nil ?_ | (apply wl0 (hd := rfl); (first | exact qv0 | exact QV_bne Try.underlying4 rfl rfl | exact QV_beq Try.underlying4 rfl rfl | exact qv1); (exact gy0)) | (apply wlb (hd := rfl); (first | exact q_box rfl rfl rfl | exact q_alloc); (exact gy0); rfl) | refine wln ⟨_, rfl, rfl⟩ rfl ?_ | refine wlnu ⟨_, rfl, rfl⟩ rfl ?_ | refine wst rfl rfl rfl List.not_mem_nil rfl rfl rfl rfl rfl rfl ?_ | refine W_seq ?_ | refine W_condT rfl ?_ | refine W_condF rfl ?_ | refine W_region ?_ | refine W_skip ?_ | refine W_ret ?_ | refine W_block ?_ | refine W_exit ?_))
      (refine W_cond rfl (fun hc => ?_) (fun hc => ?_))
      · (repeat (first | refine WL_nil ?_ | (apply wl0 (hd := rfl); (first | exact qv0 | exact QV_bne Try.underlying4 rfl rfl | exact QV_beq Try.underlying4 rfl rfl | exact qv1 | exact QV_indexAddr rfl rfl rfl rfl (row_at hp)); (exact gy0)) | (apply wlb (hd := rfl); (first | exact q_box rfl rfl rfl | exact q_alloc); (exact gy0); rfl) | refine wln ⟨_, rfl, rfl⟩ rfl ?_ | refine wlnu ⟨_, rfl, rfl⟩ rfl ?_ | refine wst rfl rfl rfl List.not_mem_nil rfl rfl rfl rfl rfl rfl ?_ | refine W_seq ?_ | refine W_condT rfl ?_ | refine W_condF rfl ?_ | refine W_region ?_ | refine W_skip ?_ | refine W_ret ?_ | refine W_block ?_ | refine W_exit ?_))
        refine wdraw 41 (by kernel_rfl) (by kernel_rfl) (by kernel_rfl) rfl ?_
        (repeat (first | refine HW_nil ?_ | (apply hw0 (hd := rfl); (first | exact QV_bin rfl rfl k1 | exact QV_bin rfl rfl k2 | exact QV_bin rfl rfl k3 | exact QV_bin rfl rfl k4 | exact QV_neA rfl rfl hpq | exact qv0 | exact QV_bne Try.underlying4 rfl rfl | exact QV_beq Try.underlying4 rfl rfl | exact qv1 | exact q_callA (ck) | exact QV_indexAddr rfl rfl rfl rfl (row_at hp)); (exact gy0)) | (apply hwb (hd := rfl); (first | exact q_box rfl rfl rfl | exact q_alloc); (exact gy0); rfl) | refine hwn ⟨_, rfl, rfl⟩ rfl ?_ | refine hwnu ⟨_, rfl, rfl⟩ rfl ?_))
        (repeat (first | refine WL_nil ?_ | (apply wl0 (hd := rfl); (first | exact qv0 | exact QV_bne Try.underlying4 rfl rfl | exact QV_beq Try.underlying4 rfl rfl | exact qv1); (exact gy0)) | (apply wlb (hd := rfl); (first | exact q_box rfl rfl rfl | exact q_alloc); (exact gy0); rfl) | refine wln ⟨_, rfl, rfl⟩ rfl ?_ | refine wlnu ⟨_, rfl, rfl⟩ rfl ?_ | refine wst rfl rfl rfl List.not_mem_nil rfl rfl rfl rfl rfl rfl ?_ | refine W_seq ?_ | refine W_condT rfl ?_ | refine W_condF rfl ?_ | refine W_region ?_ | refine W_skip ?_ | refine W_ret ?_ | refine W_block ?_ | refine W_exit ?_))
        refine Exists.intro _ (Exists.intro _ ⟨?_, ⟨k + 1, by omega, rfl, rfl⟩, (weak_mk (by repeat' (first | exact trivial | refine And.intro ?_ ?_ | exact Le.refl | exact Le.nilOwn rfl | exact Le.nilSl | exact Le.ownSl | exact Le.top)) (by repeat' (first | exact trivial | refine And.intro ?_ ?_ | exact ⟨_, rfl, Les.refl _⟩ | exact ⟨_, rfl, by repeat' (first | exact Les.nil | exact Les.cons Le.refl (Les.refl _) | refine Les.cons (by first | exact Le.top | exact Le.refl | exact Le.ownSl | exact Le.nilSl) ?_)⟩)) rfl (by repeat' (first | exact trivial | refine And.intro ?_ ?_ | exact rfl | exact refs_fill (fun _ => rfl) rfl | exact refs_map (fun _ => rfl))) (fun _ _ _ h => by first | exact h.elim | (obtain ⟨rfl, rfl, rfl⟩ := h; simp)))⟩)
        omega
      · simp at hc; omega
    · (repeat (first | refine WL_nil ?_ | (apply wl0 (hd := rfl); (first | exact qv0 | exact QV_bne Try.underlying4 rfl rfl | exact QV_beq Try.underlying4 rfl rfl | exact qv1); (exact gy0)) | (apply wlb (hd := rfl); (first | exact q_box rfl rfl rfl | exact q_alloc); (exact gy0); rfl) | refine wln ⟨_, rfl, rfl⟩ rfl ?_ | refine wlnu ⟨_, rfl, rfl⟩ rfl ?_ | refine wst rfl rfl rfl List.not_mem_nil rfl rfl rfl rfl rfl rfl ?_ | refine W_seq ?_ | refine W_condT rfl ?_ | refine W_condF rfl ?_ | refine W_region ?_ | refine W_skip ?_ | refine W_ret ?_ | refine W_block ?_ | refine W_exit ?_))
      (refine W_cond rfl (fun hc => ?_) (fun hc => ?_))
      · simp at hc; omega
      · have hwg : abin .gtr .i64 W 0 = some (.bool true) := by simp [abin]; omega
        have har : aar .add hi.x 1 = some (hi.x + 1) := rfl
        (repeat (first | refine WL_nil ?_ | (apply wl0 (hd := rfl); (first | exact QV_ar rfl rfl har (by omega) | exact QV_bin rfl rfl hwg | exact qv0 | exact QV_bne Try.underlying4 rfl rfl | exact QV_beq Try.underlying4 rfl rfl | exact qv1 | exact q_callA (cio) | exact q_callA (cw)); (exact gy0)) | (apply wlb (hd := rfl); (first | exact q_box rfl rfl rfl | exact q_alloc); (exact gy0); rfl) | refine wln ⟨_, rfl, rfl⟩ rfl ?_ | refine wlnu ⟨_, rfl, rfl⟩ rfl ?_ | refine wst rfl rfl rfl List.not_mem_nil rfl rfl rfl rfl rfl rfl ?_ | refine W_seq ?_ | refine W_condT rfl ?_ | refine W_condF rfl ?_ | refine W_region ?_ | refine W_skip ?_ | refine W_ret ?_ | refine W_block ?_ | refine W_exit ?_))
        refine Exists.intro _ ⟨Weak.refl _, Exists.intro _ ⟨resA_tmp rfl rfl, ?_, rfl⟩⟩
        rfl

theorem walk_FnStones {H : Type} (enc : TypeId × Value → H) (W : World) (base : Nat) (args : Array Value) (ds : List (DataW H)) (p : List MemPlace) (hval : ∀ (j : Nat) (t : TypeId) (v : Value), Try.f8.params[j]? = some t → args[j]? = some v → Value.okWide Try.prog W .any base t v) (hA : DataW.TrodAll enc Try.prog W 0 (fun _ => true) true Try.f8.params.toList args.toList ds p) (hlt : ∀ x ∈ p, x.block < W.heap.size) :
    Calls Try.prog 8 args W fun e w' => e = .returned (.bool true) ∧ Bel W w' := by
  rw [Try.params8] at hA hval
  obtain ⟨v0, vs0, t0, ds0, p0, q0, hargs, rfl, rfl, h0, r0⟩ := trodAll_cons hA
  obtain ⟨rfl, rfl, rfl⟩ := trodAll_nil r0
  obtain rfl : args = #[v0] := by cases args; simp_all
  obtain ⟨c, bc, lc, dc⟩ := open_code (hval 0 22 v0 rfl rfl) h0 (fun x hx => hlt x (by simp [hx]))
  exact law_of_call (law_FnStones c bc lc) (by simp only [dreps]; exact ⟨_, _, rfl, dc, rfl⟩)

set_option maxRecDepth 100000 in
theorem lifted_FnStones (os : Os) (started : os.Started) (H : Type) (enc : TypeId × Value → H) :
    ReturnsInHanded {} Try.checked os 8 .any (Rows.fnStonesSpec.pre6 enc Try.prog Try.f8 Rows.fnStonesRow.domain false) (Rows.fnStonesSpec.post enc Try.prog Try.f8 false true false false) :=
  law_lifted (tb := 4) started (by kernel_rfl) Try.func8
    (ChangeSpec.witness6 (enc := enc) (C := Try.checked) false ⟨#[], #[.slice none 0 0], []⟩ 8 (by kernel_rfl) (by kernel_rfl) (by kernel_rfl) (by kernel_rfl))
    rfl Try.underlying4 (by kernel_rfl) rfl (fun ds h => by match ds, h with | [d0], _ => rfl)
    (walk_FnStones enc)

/-- THE STATEMENT. -/
theorem holds_FnStones : Rows.FnStonesSaid :=
  OpenClaim.holds_of_wide 8 Try.f8 rfl rfl rfl rfl rfl rfl rfl ⟨rfl, rfl, rfl, rfl, rfl⟩ rfl rfl rfl rfl rfl (by kernel_rfl) Try.func8 (by kernel_rfl)
    (of_decide_eq_true (by kernel_rfl)) (by unfold Func.isWrapper; first | (rw [if_pos (by decide +kernel)]; kernel_rfl) | (rw [if_neg (by decide +kernel)]; exact ⟨rfl, rfl⟩))
    (fun os started H enc _ => lifted_FnStones os started H enc)
end Go.Proofs.Ytkadjimnamcjbaa
