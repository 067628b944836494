/- FnLoads: weights and moments add up from left to right. -/
import Derived.Test.YtikbndfbjgdldaaADl
import Derived.Test.YtikbndfbjgdldaaASc
import Derived.Test.YtikbndfbjgdldaaASo
import Derived.Test.YtikbndfbjgdldaaMLo
import Derived.Test.YtikbndfbjgdldaaAAt
import Derived.Test.YtikbndfbjgdldaaACode
namespace Go.Proofs.Ytikbndfbjgdldaa
open Go.ChangeShapes Go.WideShapes Go.ChangeAt Go.RowKit Go.Deep Go.Eng
set_option maxRecDepth 100000
attribute [local irreducible] QV TV WL HW W CallOk Weak

set_option maxHeartbeats 4000000 in
theorem law_FnLoads (l : List Int) (hu : ∀ x ∈ l, isU8 x) (_hlen : l.length ≤ 9223372036854775807) : CallOk Try.prog 5 [slU l] (fun r => r = vb true) := by
  refine callOk Try.func5 Try.ntmps5 Try.results5 rfl rfl rfl fun B w0 I0 => ?_
  (repeat (first | refine WL_nil ?_ | (apply wl0 (hd := rfl); (first | exact qv0 | exact QV_bne Try.underlying4 rfl rfl | exact QV_beq Try.underlying4 rfl rfl | exact qv1 | exact q_callA (lbig_ok l)); (exact gy0)) | (apply wlb (hd := rfl); (first | exact q_box rfl rfl rfl | exact q_alloc); (exact gy0); rfl) | refine wln ⟨_, rfl, rfl⟩ rfl ?_ | refine wst rfl rfl rfl List.not_mem_nil rfl rfl rfl rfl rfl rfl ?_ | refine W_seq ?_ | refine W_condT rfl ?_ | refine W_condF rfl ?_ | refine W_region ?_ | refine W_skip ?_ | refine W_ret ?_ | refine W_block ?_ | refine W_exit ?_))
  (refine W_cond rfl (fun hc => ?_) (fun hc => ?_))
  · (repeat (first | refine WL_nil ?_ | (apply wl0 (hd := rfl); (first | exact qv0 | exact QV_bne Try.underlying4 rfl rfl | exact QV_beq Try.underlying4 rfl rfl | exact qv1); (exact gy0)) | (apply wlb (hd := rfl); (first | exact q_box rfl rfl rfl | exact q_alloc); (exact gy0); rfl) | refine wln ⟨_, rfl, rfl⟩ rfl ?_ | refine wst rfl rfl rfl List.not_mem_nil rfl rfl rfl rfl rfl rfl ?_ | refine W_seq ?_ | refine W_condT rfl ?_ | refine W_condF rfl ?_ | refine W_region ?_ | refine W_skip ?_ | refine W_ret ?_ | refine W_block ?_ | refine W_exit ?_))
    refine Exists.intro _ ⟨Weak.refl _, Exists.intro _ ⟨resA_tmp rfl rfl, ?_, rfl⟩⟩
    rfl
  · have hl : Bts l := ⟨hu, by simp at hc; omega⟩
    (repeat (first | refine WL_nil ?_ | (apply wl0 (hd := rfl); (first | exact qv0 | exact QV_bne Try.underlying4 rfl rfl | exact QV_beq Try.underlying4 rfl rfl | exact qv1); (exact gy0)) | (apply wlb (hd := rfl); (first | exact q_box rfl rfl rfl | exact q_alloc); (exact gy0); rfl) | refine wln ⟨_, rfl, rfl⟩ rfl ?_ | refine wst rfl rfl rfl List.not_mem_nil rfl rfl rfl rfl rfl rfl ?_ | refine W_seq ?_ | refine W_condT rfl ?_ | refine W_condF rfl ?_ | refine W_region ?_ | refine W_skip ?_ | refine W_ret ?_ | refine W_block ?_ | refine W_exit ?_))
    refine wlc (drawLoaded_ok l hl) rfl (by (repeat' (first | exact LeDs.nil | refine LeDs.cons (by first | exact LeD.v | exact LeD.sl | exact LeD.own | exact LeD.nil | exact LeD.top) ?_ | refine LeDs.agg ?_ ?_)); first | done | fail "open") (fun r ⟨_, _, _, _, _, hr⟩ => by subst hr; rfl) rfl (fun r hR => ?_)
    obtain ⟨js, ls, ha, h3, hok, rfl⟩ := hR
    have h8 := arch_len ha
    have hld : loadsB js ls = true := loadsB_of ha (by omega) (fun ld hd => by have := hok ld hd; unfold LdOk at this; omega)
    have hw200 : ∀ ld ∈ ls, 0 ≤ ld.w ∧ ld.w ≤ 200 := fun ld hd => (hok ld hd).2.1
    have hl2 : loadsB js (ls.map scl) = true := loadsB_of ha (by simp; omega) (fun ld hd => by
      obtain ⟨x, hx, rfl⟩ := List.mem_map.1 hd
      have := hok x hx
      unfold LdOk at this
      simp only [scl]
      omega)
    have hl0 : loadsB js [] = true := loadsB_of ha (by simp) (fun ld hd => by cases hd)
    have eW : ∀ (ms : List Ld) (k : Nat), loadsB js ms = true → k ≤ js.length - 1 → lW js ms (k : Int) = lwA js ms k := fun ms k hm hk => by
      rw [lW, hm, inR_true.2 (show (0 : Int) ≤ (k : Int) ∧ (k : Int) ≤ (js.length : Int) - 1 by omega)]
      simp
    have eM : ∀ (k : Nat), k ≤ js.length - 1 → lM js ls (k : Int) = lmA js ls k := fun k hk => by
      rw [lM, hld, inR_true.2 (show (0 : Int) ≤ (k : Int) ∧ (k : Int) ≤ (js.length : Int) - 1 by omega)]
      simp
    have kn : ∀ x : Int, abin .neq .i64 x x = some (.bool false) := fun x => by simp [abin]
    have ke : ∀ x : Int, abin .eql .i64 x x = some (.bool true) := fun x => by simp [abin]
    (repeat (first | refine WL_nil ?_ | (apply wl0 (hd := rfl); (first | exact qv0 | exact QV_bne Try.underlying4 rfl rfl | exact QV_beq Try.underlying4 rfl rfl | exact qv1); (exact gy0)) | (apply wlb (hd := rfl); (first | exact q_box rfl rfl rfl | exact q_alloc); (exact gy0); rfl) | refine wln ⟨_, rfl, rfl⟩ rfl ?_ | refine wst rfl rfl rfl List.not_mem_nil rfl rfl rfl rfl rfl rfl ?_ | refine W_seq ?_ | refine W_condT rfl ?_ | refine W_condF rfl ?_ | refine W_region ?_ | refine W_skip ?_ | refine W_ret ?_ | refine W_block ?_ | refine W_exit ?_))
    refine W_loop (fun n s => ∃ k : Nat, k ≤ js.length - 1 ∧ n = js.length - 1 - k ∧ s = ⟨[(3, .ptr 3 0), (4, slLd ls), (5, vi ((js.length : Int) - 1)), (6, vi (lwA js ls k)), (7, vi (lmA js ls k)), (8, vi k)], [(3, [slJt js])], []⟩) ⟨_, _, ⟨0, by omega, rfl, rfl⟩, (weak_mk (by repeat' (first | exact trivial | refine And.intro ?_ ?_ | exact Le.refl | exact Le.nilOwn rfl | exact Le.nilSl | exact Le.ownSl | exact Le.top)) (by repeat' (first | exact trivial | refine And.intro ?_ ?_ | exact ⟨_, rfl, Les.refl _⟩ | exact ⟨_, rfl, by repeat' (first | exact Les.nil | exact Les.cons Le.refl (Les.refl _) | refine Les.cons (by first | exact Le.top | exact Le.refl | exact Le.ownSl | exact Le.nilSl) ?_)⟩)) rfl (by repeat' (first | exact trivial | refine And.intro ?_ ?_ | exact rfl | exact refs_fill (fun _ => rfl) rfl | exact refs_map (fun _ => rfl))) (fun _ _ _ h => by first | exact h.elim | (obtain ⟨rfl, rfl, rfl⟩ := h; simp)))⟩ ?_
    rintro n s ⟨k, hk, rfl, rfl⟩
    by_cases hlt : k + 1 < js.length
    · have c1 : abin .lss .i64 (k : Int) ((js.length : Int) - 1) = some (.bool true) := by simp [abin]; omega
      have cw := implWeightLeft_ok js ls k (by omega) (by omega)
      rw [eW ls k hld (by omega)] at cw
      have cm := implMomentLeft_ok js ls k (by omega) (by omega)
      rw [eM k (by omega)] at cm
      have kn1 := kn (lwA js ls k)
      have kn2 := kn (lmA js ls k)
      have cs := stoneOf_yes js k (by omega) (by rw [stoB, ha, inR_true.2 (show (0 : Int) ≤ (k : Int) ∧ (k : Int) ≤ (js.length : Int) - 2 by omega)]; rfl)
      have hw := weightOf_ok (qd js k) (quad_len _ _)
      have hm := specMomentOf_ok (qd js k) (quad_len _ _)
      (repeat (first | refine WL_nil ?_ | (apply wl0 (hd := rfl); (first | exact QV_bin rfl rfl c1 | exact QV_bin rfl rfl kn1 | exact QV_bin rfl rfl kn2 | exact qv0 | exact QV_bne Try.underlying4 rfl rfl | exact QV_beq Try.underlying4 rfl rfl | exact qv1 | exact q_callA (cw) | exact q_callA (cm) | exact q_callA (hw) | exact q_callA (hm)); (exact gy0)) | (apply wlb (hd := rfl); (first | exact q_box rfl rfl rfl | exact q_alloc); (exact gy0); rfl) | refine wln ⟨_, rfl, rfl⟩ rfl ?_ | (apply wln1 (hd := rfl); exact q_call1A 40 35 (cs); (exact gy0); rfl) | refine wst rfl rfl rfl List.not_mem_nil rfl rfl rfl rfl rfl rfl ?_ | refine W_seq ?_ | refine W_condT rfl ?_ | refine W_condF rfl ?_ | refine W_region ?_ | refine W_skip ?_ | refine W_ret ?_ | refine W_block ?_ | refine W_exit ?_))
      refine W_loop (fun n s => ∃ (i : Nat) (x y : Int), i ≤ ls.length ∧ n = ls.length - i ∧ x = W64 (lwA js ls k + (weightW (qd js k) + conS Ld.w (ls.take i) k)) ∧ y = W64 (lmA js ls k + (overW momF (qd js k) + conS momL (ls.take i) k)) ∧ s = ⟨[(3, .ptr 3 0), (4, slLd ls), (5, vi ((js.length : Int) - 1)), (6, vi x), (7, vi y), (8, vi k), (10, vi i)], [(3, [slJt js])], []⟩) ⟨_, _, ⟨0, _, _, by omega, rfl, by rw [List.take_zero, conS_nil, Int.add_zero], by rw [List.take_zero, conS_nil, Int.add_zero], rfl⟩, (weak_mk (by repeat' (first | exact trivial | refine And.intro ?_ ?_ | exact Le.refl | exact Le.nilOwn rfl | exact Le.nilSl | exact Le.ownSl | exact Le.top)) (by repeat' (first | exact trivial | refine And.intro ?_ ?_ | exact ⟨_, rfl, Les.refl _⟩ | exact ⟨_, rfl, by repeat' (first | exact Les.nil | exact Les.cons Le.refl (Les.refl _) | refine Les.cons (by first | exact Le.top | exact Le.refl | exact Le.ownSl | exact Le.nilSl) ?_)⟩)) rfl (by repeat' (first | exact trivial | refine And.intro ?_ ?_ | exact rfl | exact refs_fill (fun _ => rfl) rfl | exact refs_map (fun _ => rfl))) (fun _ _ _ h => by first | exact h.elim | (obtain ⟨rfl, rfl, rfl⟩ := h; simp)))⟩ ?_
      rintro n s ⟨i, x, y, hi, rfl, hx, hy, rfl⟩
      by_cases hil : i < ls.length
      · have hli := lat_lt hil
        have c2 : abin .lss .i64 (i : Int) (ls.length : Int) = some (.bool true) := by simp [abin]; omega
        by_cases hm : (lat ls i).s = (k : Int)
        · have c3 : abin .eql .i64 (lat ls i).s (k : Int) = some (.bool true) := by simp [abin, hm]
          have g1 : abin .add .i64 x (lat ls i).w = some (.int .i64 (W64 (x + (lat ls i).w))) := rfl
          have g2 : abin .mul .i64 (lat ls i).w (lat ls i).x = some (.int .i64 (W64 ((lat ls i).w * (lat ls i).x))) := rfl
          have g3 : abin .add .i64 y (W64 ((lat ls i).w * (lat ls i).x)) = some (.int .i64 (W64 (y + W64 ((lat ls i).w * (lat ls i).x)))) := rfl
          (repeat (first | refine WL_nil ?_ | (apply wl0 (hd := rfl); (first | exact QV_bin rfl rfl c2 | exact QV_bin rfl rfl c3 | exact QV_bin rfl rfl g1 | exact qv0 | exact QV_bne Try.underlying4 rfl rfl | exact QV_beq Try.underlying4 rfl rfl | exact qv1 | exact QV_indexAddr rfl rfl rfl rfl (row_at hli)); (exact gy0)) | (apply wlb (hd := rfl); (first | exact q_box rfl rfl rfl | exact q_alloc); (exact gy0); rfl) | refine wln ⟨_, rfl, rfl⟩ rfl ?_ | refine wst rfl rfl rfl List.not_mem_nil rfl rfl rfl rfl rfl rfl ?_ | refine W_seq ?_ | refine W_condT rfl ?_ | refine W_condF rfl ?_ | refine W_region ?_ | refine W_skip ?_ | refine W_ret ?_ | refine W_block ?_ | refine W_exit ?_))
          refine wdraw 13 (by kernel_rfl) (by kernel_rfl) (by kernel_rfl) rfl ?_
          (repeat (first | refine HW_nil ?_ | (apply hw0 (hd := rfl); (first | exact QV_bin rfl rfl g2 | exact QV_bin rfl rfl g3 | exact qv0 | exact QV_bne Try.underlying4 rfl rfl | exact QV_beq Try.underlying4 rfl rfl | exact qv1 | exact QV_indexAddr rfl rfl rfl rfl (row_at hli)); (exact gy0)) | (apply hwb (hd := rfl); (first | exact q_box rfl rfl rfl | exact q_alloc); (exact gy0); rfl) | refine hwn ⟨_, rfl, rfl⟩ rfl ?_))
          (repeat (first | refine WL_nil ?_ | (apply wl0 (hd := rfl); (first | exact qv0 | exact QV_bne Try.underlying4 rfl rfl | exact QV_beq Try.underlying4 rfl rfl | exact qv1); (exact gy0)) | (apply wlb (hd := rfl); (first | exact q_box rfl rfl rfl | exact q_alloc); (exact gy0); rfl) | refine wln ⟨_, rfl, rfl⟩ rfl ?_ | refine wst rfl rfl rfl List.not_mem_nil rfl rfl rfl rfl rfl rfl ?_ | refine W_seq ?_ | refine W_condT rfl ?_ | refine W_condF rfl ?_ | refine W_region ?_ | refine W_skip ?_ | refine W_ret ?_ | refine W_block ?_ | refine W_exit ?_))
          refine Exists.intro _ (Exists.intro _ ⟨?_, ⟨i + 1, W64 (x + (lat ls i).w), W64 (y + W64 ((lat ls i).w * (lat ls i).x)), by omega, rfl, by rw [hx, conS_succ hil, if_pos hm, w64_add]; simp only [Int.add_assoc], by rw [hy, conS_succ hil, if_pos hm, w64_add', w64_add, momL]; simp only [Int.add_assoc], rfl⟩, (weak_mk (by repeat' (first | exact trivial | refine And.intro ?_ ?_ | exact Le.refl | exact Le.nilOwn rfl | exact Le.nilSl | exact Le.ownSl | exact Le.top)) (by repeat' (first | exact trivial | refine And.intro ?_ ?_ | exact ⟨_, rfl, Les.refl _⟩ | exact ⟨_, rfl, by repeat' (first | exact Les.nil | exact Les.cons Le.refl (Les.refl _) | refine Les.cons (by first | exact Le.top | exact Le.refl | exact Le.ownSl | exact Le.nilSl) ?_)⟩)) rfl (by repeat' (first | exact trivial | refine And.intro ?_ ?_ | exact rfl | exact refs_fill (fun _ => rfl) rfl | exact refs_map (fun _ => rfl))) (fun _ _ _ h => by first | exact h.elim | (obtain ⟨rfl, rfl, rfl⟩ := h; simp)))⟩)
          omega
        · have c3 : abin .eql .i64 (lat ls i).s (k : Int) = some (.bool false) := by simp [abin, hm]
          (repeat (first | refine WL_nil ?_ | (apply wl0 (hd := rfl); (first | exact QV_bin rfl rfl c2 | exact QV_bin rfl rfl c3 | exact qv0 | exact QV_bne Try.underlying4 rfl rfl | exact QV_beq Try.underlying4 rfl rfl | exact qv1 | exact QV_indexAddr rfl rfl rfl rfl (row_at hli)); (exact gy0)) | (apply wlb (hd := rfl); (first | exact q_box rfl rfl rfl | exact q_alloc); (exact gy0); rfl) | refine wln ⟨_, rfl, rfl⟩ rfl ?_ | refine wst rfl rfl rfl List.not_mem_nil rfl rfl rfl rfl rfl rfl ?_ | refine W_seq ?_ | refine W_condT rfl ?_ | refine W_condF rfl ?_ | refine W_region ?_ | refine W_skip ?_ | refine W_ret ?_ | refine W_block ?_ | refine W_exit ?_))
          refine Exists.intro _ (Exists.intro _ ⟨?_, ⟨i + 1, x, y, by omega, rfl, by rw [hx, conS_succ hil, if_neg hm, Int.add_zero], by rw [hy, conS_succ hil, if_neg hm, Int.add_zero], rfl⟩, (weak_mk (by repeat' (first | exact trivial | refine And.intro ?_ ?_ | exact Le.refl | exact Le.nilOwn rfl | exact Le.nilSl | exact Le.ownSl | exact Le.top)) (by repeat' (first | exact trivial | refine And.intro ?_ ?_ | exact ⟨_, rfl, Les.refl _⟩ | exact ⟨_, rfl, by repeat' (first | exact Les.nil | exact Les.cons Le.refl (Les.refl _) | refine Les.cons (by first | exact Le.top | exact Le.refl | exact Le.ownSl | exact Le.nilSl) ?_)⟩)) rfl (by repeat' (first | exact trivial | refine And.intro ?_ ?_ | exact rfl | exact refs_fill (fun _ => rfl) rfl | exact refs_map (fun _ => rfl))) (fun _ _ _ h => by first | exact h.elim | (obtain ⟨rfl, rfl, rfl⟩ := h; simp)))⟩)
          omega
      · have c2 : abin .lss .i64 (i : Int) (ls.length : Int) = some (.bool false) := by simp [abin]; omega
        have hil' : i = ls.length := by omega
        subst hil'
        rw [List.take_length] at hx hy
        have hx' : x = lwA js ls (k + 1) := hx
        have hy' : y = lmA js ls (k + 1) := hy
        subst hx'
        subst hy'
        (repeat (first | refine WL_nil ?_ | (apply wl0 (hd := rfl); (first | exact QV_bin rfl rfl c2 | exact qv0 | exact QV_bne Try.underlying4 rfl rfl | exact QV_beq Try.underlying4 rfl rfl | exact qv1); (exact gy0)) | (apply wlb (hd := rfl); (first | exact q_box rfl rfl rfl | exact q_alloc); (exact gy0); rfl) | refine wln ⟨_, rfl, rfl⟩ rfl ?_ | refine wst rfl rfl rfl List.not_mem_nil rfl rfl rfl rfl rfl rfl ?_ | refine W_seq ?_ | refine W_condT rfl ?_ | refine W_condF rfl ?_ | refine W_region ?_ | refine W_skip ?_ | refine W_ret ?_ | refine W_block ?_ | refine W_exit ?_))
        refine Exists.intro _ (Exists.intro _ ⟨?_, ⟨k + 1, by omega, rfl, rfl⟩, (weak_mk (by repeat' (first | exact trivial | refine And.intro ?_ ?_ | exact Le.refl | exact Le.nilOwn rfl | exact Le.nilSl | exact Le.ownSl | exact Le.top)) (by repeat' (first | exact trivial | refine And.intro ?_ ?_ | exact ⟨_, rfl, Les.refl _⟩ | exact ⟨_, rfl, by repeat' (first | exact Les.nil | exact Les.cons Le.refl (Les.refl _) | refine Les.cons (by first | exact Le.top | exact Le.refl | exact Le.ownSl | exact Le.nilSl) ?_)⟩)) rfl (by repeat' (first | exact trivial | refine And.intro ?_ ?_ | exact rfl | exact refs_fill (fun _ => rfl) rfl | exact refs_map (fun _ => rfl))) (fun _ _ _ h => by first | exact h.elim | (obtain ⟨rfl, rfl, rfl⟩ := h; simp)))⟩)
        omega
    · have hk' : k = js.length - 1 := by omega
      have c1 : abin .lss .i64 (k : Int) ((js.length : Int) - 1) = some (.bool false) := by simp [abin]; omega
      have e9 : ((js.length : Int) - 1) = (k : Int) := by omega
      obtain ⟨A, C, bA, bC, hA1, hA2, hA3⟩ := scale_tot js ls (by omega) hw200 k (by omega)
      have clo := implLoadsOk_ok js ls (by omega) (by omega)
      rw [hld] at clo
      have ct := implTotalOf_ok js ls (by omega) (by omega)
      rw [e9, eW ls k hld (by omega), hA1] at ct
      have ct2 := implTotalOf_ok js (ls.map scl) (by omega) (by simp; omega)
      rw [e9, eW (ls.map scl) k hl2 (by omega), hA2] at ct2
      have ct0 := implTotalOf_ok js [] (by omega) (by simp)
      rw [e9, eW [] k hl0 (by omega), hA3] at ct0
      have cm := implMomentLeft_ok js ls k (by omega) (by omega)
      rw [eM k (by omega)] at cm
      have csc := implScaleLoads_ok ls (by omega) hw200
      have ke1 := ke (A + C)
      have ke2 := ke (lmA js ls k)
      have ke3 : abin .eql .i64 (A + 2 * C - A) (2 * (A + C - A)) = some (.bool true) := by simp [abin]; omega
      rw [hA1, e9]
      rw [e9] at c1
      (repeat (first | refine WL_nil ?_ | (apply wl0 (hd := rfl); (first | exact QV_bin rfl rfl c1 | exact qv0 | exact QV_bne Try.underlying4 rfl rfl | exact QV_beq Try.underlying4 rfl rfl | exact qv1 | exact q_callA (csc)); (exact gy0)) | (apply wlb (hd := rfl); (first | exact q_box rfl rfl rfl | exact q_alloc); (exact gy0); rfl) | refine wln ⟨_, rfl, rfl⟩ rfl ?_ | refine wst rfl rfl rfl List.not_mem_nil rfl rfl rfl rfl rfl rfl ?_ | refine W_seq ?_ | refine W_condT rfl ?_ | refine W_condF rfl ?_ | refine W_region ?_ | refine W_skip ?_ | refine W_ret ?_ | refine W_block ?_ | refine W_exit ?_))
      refine wdraw 35 (by kernel_rfl) (by kernel_rfl) (by kernel_rfl) rfl ?_
      (repeat (first | refine HW_nil ?_ | (apply hw0 (hd := rfl); (first | exact QV_bin rfl rfl ke1 | exact QV_bin rfl rfl ke2 | exact QV_bin rfl rfl ke3 | exact qv0 | exact QV_bne Try.underlying4 rfl rfl | exact QV_beq Try.underlying4 rfl rfl | exact qv1 | exact q_callA (clo) | exact q_callA (ct) | exact q_callA (ct2) | exact q_callA (ct0) | exact q_callA (cm)); (exact gy0)) | (apply hwb (hd := rfl); (first | exact q_box rfl rfl rfl | exact q_alloc); (exact gy0); rfl) | refine hwn ⟨_, rfl, rfl⟩ rfl ?_))
      (repeat (first | refine WL_nil ?_ | (apply wl0 (hd := rfl); (first | exact qv0 | exact QV_bne Try.underlying4 rfl rfl | exact QV_beq Try.underlying4 rfl rfl | exact qv1); (exact gy0)) | (apply wlb (hd := rfl); (first | exact q_box rfl rfl rfl | exact q_alloc); (exact gy0); rfl) | refine wln ⟨_, rfl, rfl⟩ rfl ?_ | refine wst rfl rfl rfl List.not_mem_nil rfl rfl rfl rfl rfl rfl ?_ | refine W_seq ?_ | refine W_condT rfl ?_ | refine W_condF rfl ?_ | refine W_region ?_ | refine W_skip ?_ | refine W_ret ?_ | refine W_block ?_ | refine W_exit ?_))
      refine Exists.intro _ ⟨Weak.refl _, Exists.intro _ ⟨resA_tmp rfl rfl, ?_, rfl⟩⟩
      rfl

theorem walk_FnLoads {H : Type} (enc : TypeId × Value → H) (W : World) (base : Nat) (args : Array Value) (ds : List (DataW H)) (p : List MemPlace) (hval : ∀ (j : Nat) (t : TypeId) (v : Value), Try.f5.params[j]? = some t → args[j]? = some v → Value.okWide Try.prog W .any base t v) (hA : DataW.TrodAll enc Try.prog W 0 (fun _ => true) true Try.f5.params.toList args.toList ds p) (hlt : ∀ x ∈ p, x.block < W.heap.size) :
    Calls Try.prog 5 args W fun e w' => e = .returned (.bool true) ∧ Bel W w' := by
  rw [Try.params5] at hA hval
  obtain ⟨v0, vs0, t0, ds0, p0, q0, hargs, rfl, rfl, h0, r0⟩ := trodAll_cons hA
  obtain ⟨rfl, rfl, rfl⟩ := trodAll_nil r0
  obtain rfl : args = #[v0] := by cases args; simp_all
  obtain ⟨c, bc, lc, dc⟩ := open_code (hval 0 22 v0 rfl rfl) h0 (fun x hx => hlt x (by simp [hx]))
  exact law_of_call (law_FnLoads c bc lc) (by simp only [dreps]; exact ⟨_, _, rfl, dc, rfl⟩)

set_option maxRecDepth 100000 in
theorem lifted_FnLoads (os : Os) (started : os.Started) (H : Type) (enc : TypeId × Value → H) :
    ReturnsInHanded {} Try.checked os 5 .any (Rows.fnLoadsSpec.pre6 enc Try.prog Try.f5 Rows.fnLoadsRow.domain false) (Rows.fnLoadsSpec.post enc Try.prog Try.f5 false true false false) :=
  law_lifted (tb := 4) started (by kernel_rfl) Try.func5
    (ChangeSpec.witness6 (enc := enc) (C := Try.checked) false ⟨#[], #[.slice none 0 0], []⟩ 8 (by kernel_rfl) (by kernel_rfl) (by kernel_rfl) (by kernel_rfl))
    rfl Try.underlying4 (by kernel_rfl) rfl (fun ds h => by match ds, h with | [d0], _ => rfl)
    (walk_FnLoads enc)

/-- THE STATEMENT. -/
theorem holds_FnLoads : Rows.FnLoadsSaid :=
  OpenClaim.holds_of_wide 5 Try.f5 rfl rfl rfl rfl rfl rfl rfl ⟨rfl, rfl, rfl, rfl, rfl⟩ rfl rfl rfl rfl rfl (by kernel_rfl) Try.func5 (by kernel_rfl)
    (of_decide_eq_true (by kernel_rfl)) (by unfold Func.isWrapper; first | (rw [if_pos (by decide +kernel)]; kernel_rfl) | (rw [if_neg (by decide +kernel)]; exact ⟨rfl, rfl⟩))
    (fun os started H enc _ => lifted_FnLoads os started H enc)
end Go.Proofs.Ytikbndfbjgdldaa
