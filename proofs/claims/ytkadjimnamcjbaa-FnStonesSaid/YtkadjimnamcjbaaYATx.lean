/- Texts of numbers, both ways; the joining of texts. -/
import Derived.Test.YtkadjimnamcjbaaYIAr
import Derived.Test.YtkadjimnamcjbaaYAJt
import Derived.Test.YtkadjimnamcjbaaYSh
namespace Go.Proofs.Ytkadjimnamcjbaa
open Go.Eng
set_option maxRecDepth 100000
attribute [local irreducible] QV TV WL HW W CallOk Weak

abbrev z8 : AV := .v (.int .u8 0)
abbrev v8 (n : Int) : AV := .v (.int .u8 n)
abbrev vq (n : Int) : AV := .v (.int .u64 n)
/-- The digits of a number below one hundred; none of nought. -/
def dg (v : Nat) : List Int := if v = 0 then [] else if v < 10 then [48 + (v : Int)] else [48 + ((v / 10 : Nat) : Int), 48 + ((v % 10 : Nat) : Int)]
def fmtL (n : Int) : List Int := if n = 0 then [48] else if n < 0 then 45 :: dg n.natAbs else dg n.natAbs
theorem dg_len (v : Nat) : (dg v).length ≤ 2 := by
  unfold dg
  split
  · simp
  · split <;> simp
theorem fmtL_len (n : Int) : (fmtL n).length ≤ 3 := by
  have := dg_len n.natAbs
  unfold fmtL
  split
  · simp
  · split
    · simp; omega
    · omega
theorem dg_step {v : Nat} (h0 : v ≠ 0) (h : v ≤ 99) : dg (v / 10) ++ [48 + ((v % 10 : Nat) : Int)] = dg v := by
  unfold dg
  by_cases h1 : v < 10
  · rw [if_pos (by omega), if_neg h0, if_pos h1, Nat.mod_eq_of_lt h1]; rfl
  · rw [if_neg (by omega), if_pos (by omega), if_neg h0, if_neg h1]; rfl
theorem l01Figure_ok (x : Int) (h : 0 ≤ x ∧ x ≤ 9) : CallOk Try.prog 169 [vi x] (fun r => r = v8 (48 + x)) := by
  have c1 : abin .lss .i64 x 10 = some (.bool true) := by simp [abin]; omega
  have h8 := IntWalk.u8_in (48 + x) (by omega)
  refine callOk Try.func169 Try.ntmps169 Try.results169 rfl rfl rfl fun B w0 I0 => ?_
  (repeat (first | refine WL_nil ?_ | (apply wl0 (hd := rfl); (first | exact QV_bin rfl rfl c1 | exact qv0 | exact QV_bne Try.underlying4 rfl rfl | exact QV_beq Try.underlying4 rfl rfl | exact qv1 | exact q_convE Try.underlying3 Try.underlying5 rfl h8); (exact gy0)) | (apply wlb (hd := rfl); (first | exact q_box rfl rfl rfl | exact q_alloc); (exact gy0); rfl) | refine wln ⟨_, rfl, rfl⟩ rfl ?_ | refine wlnu ⟨_, rfl, rfl⟩ rfl ?_ | refine wst rfl rfl rfl List.not_mem_nil rfl rfl rfl rfl rfl rfl ?_ | refine W_seq ?_ | refine W_condT rfl ?_ | refine W_condF rfl ?_ | refine W_region ?_ | refine W_skip ?_ | refine W_ret ?_ | refine W_block ?_ | refine W_exit ?_))
  refine Exists.intro _ ⟨Weak.refl _, Exists.intro _ ⟨resA_tmp rfl rfl, ?_, rfl⟩⟩
  rfl
theorem formatInt_ok (n : Int) (h : -99 ≤ n ∧ n ≤ 99) : CallOk Try.prog 148 [vi n] (fun r => r = vs (fmtL n)) := by
  by_cases h0 : n = 0
  · subst h0
    refine callOk Try.func148 Try.ntmps148 Try.results148 rfl rfl rfl fun B w0 I0 => ?_
    (repeat (first | refine WL_nil ?_ | (apply wl0 (hd := rfl); (first | exact qv0 | exact QV_bne Try.underlying4 rfl rfl | exact QV_beq Try.underlying4 rfl rfl | exact qv1); (exact gy0)) | (apply wlb (hd := rfl); (first | exact q_box rfl rfl rfl | exact q_alloc); (exact gy0); rfl) | refine wln ⟨_, rfl, rfl⟩ rfl ?_ | refine wlnu ⟨_, rfl, rfl⟩ rfl ?_ | refine wst rfl rfl rfl List.not_mem_nil rfl rfl rfl rfl rfl rfl ?_ | refine W_seq ?_ | refine W_condT rfl ?_ | refine W_condF rfl ?_ | refine W_region ?_ | refine W_skip ?_ | refine W_ret ?_ | refine W_block ?_ | refine W_exit ?_))
    refine Exists.intro _ ⟨Weak.refl _, Exists.intro _ ⟨resA_tmp rfl rfl, ?_, rfl⟩⟩
    rfl
  · have c0 : abin .eql .i64 n 0 = some (.bool false) := by simp [abin, h0]
    refine callOk Try.func148 Try.ntmps148 Try.results148 rfl rfl rfl fun B w0 I0 => ?_
    (repeat (first | refine WL_nil ?_ | (apply wl0 (hd := rfl); (first | exact QV_bin rfl rfl c0 | exact qv0 | exact QV_bne Try.underlying4 rfl rfl | exact QV_beq Try.underlying4 rfl rfl | exact qv1); (exact gy0)) | (apply wlb (hd := rfl); (first | exact q_box rfl rfl rfl | exact q_alloc); (exact gy0); rfl) | refine wln ⟨_, rfl, rfl⟩ rfl ?_ | refine wlnu ⟨_, rfl, rfl⟩ rfl ?_ | refine wst rfl rfl rfl List.not_mem_nil rfl rfl rfl rfl rfl rfl ?_ | refine W_seq ?_ | refine W_condT rfl ?_ | refine W_condF rfl ?_ | refine W_region ?_ | refine W_skip ?_ | refine W_ret ?_ | refine W_block ?_ | refine W_exit ?_))
    refine W_loop (fun m s => ∃ (q : Int) (l : List Int), (-99 ≤ q ∧ q ≤ 99) ∧ dg q.natAbs ++ l = dg n.natAbs ∧ m = q.natAbs ∧ s = ⟨[(0, vi q), (3, vb (decide (n < 0))), (4, vs l)], [], []⟩) ⟨_, _, ⟨n, [], h, by simp, rfl, rfl⟩, (weak_mk (by repeat' (first | exact trivial | refine And.intro ?_ ?_ | exact Le.refl | exact Le.nilOwn rfl | exact Le.nilSl | exact Le.ownSl | exact Le.top)) (by repeat' (first | exact trivial | refine And.intro ?_ ?_ | exact ⟨_, rfl, Les.refl _⟩ | exact ⟨_, rfl, by repeat' (first | exact Les.nil | exact Les.cons Le.refl (Les.refl _) | refine Les.cons (by first | exact Le.top | exact Le.refl | exact Le.ownSl | exact Le.nilSl) ?_)⟩)) rfl (by repeat' (first | exact trivial | refine And.intro ?_ ?_ | exact rfl | exact refs_fill (fun _ => rfl) rfl | exact refs_map (fun _ => rfl))) (fun _ _ _ h => by first | exact h.elim | (obtain ⟨rfl, rfl, rfl⟩ := h; simp)))⟩ ?_
    rintro m s ⟨q, l, hq, hd, rfl, rfl⟩
    have hl2 : l.length ≤ 2 := by
      have h1 := congrArg List.length hd
      have h2 := dg_len n.natAbs
      simp at h1; omega
    by_cases hq0 : q = 0
    · subst hq0
      have e : l = dg n.natAbs := by simpa [dg] using hd
      (repeat (first | refine WL_nil ?_ | (apply wl0 (hd := rfl); (first | exact qv0 | exact QV_bne Try.underlying4 rfl rfl | exact QV_beq Try.underlying4 rfl rfl | exact qv1); (exact gy0)) | (apply wlb (hd := rfl); (first | exact q_box rfl rfl rfl | exact q_alloc); (exact gy0); rfl) | refine wln ⟨_, rfl, rfl⟩ rfl ?_ | refine wlnu ⟨_, rfl, rfl⟩ rfl ?_ | refine wst rfl rfl rfl List.not_mem_nil rfl rfl rfl rfl rfl rfl ?_ | refine W_seq ?_ | refine W_condT rfl ?_ | refine W_condF rfl ?_ | refine W_region ?_ | refine W_skip ?_ | refine W_ret ?_ | refine W_block ?_ | refine W_exit ?_))
      (refine W_cond rfl (fun hc => ?_) (fun hc => ?_))
      · have hn : n < 0 := by simpa using hc
        (repeat (first | refine WL_nil ?_ | (apply wl0 (hd := rfl); (first | exact q_cat (a := [45]) (b := l) rfl rfl rfl (by simp; omega) | exact qv0 | exact QV_bne Try.underlying4 rfl rfl | exact QV_beq Try.underlying4 rfl rfl | exact qv1); (exact gy0)) | (apply wlb (hd := rfl); (first | exact q_box rfl rfl rfl | exact q_alloc); (exact gy0); rfl) | refine wln ⟨_, rfl, rfl⟩ rfl ?_ | refine wlnu ⟨_, rfl, rfl⟩ rfl ?_ | refine wst rfl rfl rfl List.not_mem_nil rfl rfl rfl rfl rfl rfl ?_ | refine W_seq ?_ | refine W_condT rfl ?_ | refine W_condF rfl ?_ | refine W_region ?_ | refine W_skip ?_ | refine W_ret ?_ | refine W_block ?_ | refine W_exit ?_))
        refine Exists.intro _ ⟨Weak.refl _, Exists.intro _ ⟨resA_tmp rfl rfl, ?_, rfl⟩⟩
        rw [fmtL, if_neg h0, if_pos hn, ← e]
        rfl
      · have hn : ¬ n < 0 := by simpa using hc
        (repeat (first | refine WL_nil ?_ | (apply wl0 (hd := rfl); (first | exact qv0 | exact QV_bne Try.underlying4 rfl rfl | exact QV_beq Try.underlying4 rfl rfl | exact qv1); (exact gy0)) | (apply wlb (hd := rfl); (first | exact q_box rfl rfl rfl | exact q_alloc); (exact gy0); rfl) | refine wln ⟨_, rfl, rfl⟩ rfl ?_ | refine wlnu ⟨_, rfl, rfl⟩ rfl ?_ | refine wst rfl rfl rfl List.not_mem_nil rfl rfl rfl rfl rfl rfl ?_ | refine W_seq ?_ | refine W_condT rfl ?_ | refine W_condF rfl ?_ | refine W_region ?_ | refine W_skip ?_ | refine W_ret ?_ | refine W_block ?_ | refine W_exit ?_))
        refine Exists.intro _ ⟨Weak.refl _, Exists.intro _ ⟨resA_tmp rfl rfl, ?_, rfl⟩⟩
        rw [fmtL, if_neg h0, if_neg hn, ← e]
        rfl
    · have c1 : abin .neq .i64 q 0 = some (.bool true) := by simp [abin, hq0]
      have t1 : (q.tdiv 10).natAbs = q.natAbs / 10 := Int.natAbs_tdiv q 10
      have t2 : (q.tmod 10).natAbs = q.natAbs % 10 := by simp
      have hr : adv .rem .i64 q 10 = some (.int .i64 (q.tmod 10)) := rfl
      have hdv : adv .quo .i64 q 10 = some (.int .i64 (q.tdiv 10)) := by
        simp only [adv, IntWalk.i64_in (q.tdiv 10) (by omega)]
      by_cases hs : q.tmod 10 < 0
      · have c2 : abin .lss .i64 (q.tmod 10) 0 = some (.bool true) := by simp [abin, hs]
        have fig := l01Figure_ok (-(q.tmod 10)) ⟨by omega, by omega⟩
        have e : 48 + -(q.tmod 10) = 48 + ((q.natAbs % 10 : Nat) : Int) := by omega
        (repeat (first | refine WL_nil ?_ | (apply wl0 (hd := rfl); (first | exact QV_bin rfl rfl c1 | exact QV_bin rfl rfl c2 | exact q_cat (a := [48 + -(q.tmod 10)]) (b := l) rfl rfl rfl (by simp; omega) | exact qv0 | exact QV_bne Try.underlying4 rfl rfl | exact QV_beq Try.underlying4 rfl rfl | exact qv1 | exact QV_div rfl rfl (by decide) hdv | exact QV_div rfl rfl (by decide) hr | exact q_callA (fig) | exact q_bytesStr (l := [48 + -(q.tmod 10)]) Try.underlying22 Try.underlying5 Try.underlying9 rfl rfl); (exact gy0)) | (apply wlb (hd := rfl); (first | exact q_box rfl rfl rfl | exact q_alloc); (exact gy0); rfl) | refine wln ⟨_, rfl, rfl⟩ rfl ?_ | refine wlnu ⟨_, rfl, rfl⟩ rfl ?_ | (apply wln1 (hd := rfl); exact q_buildSlice 20 rfl rfl rfl rfl; (exact gy0); rfl) | refine wst rfl rfl rfl List.not_mem_nil rfl rfl rfl rfl rfl rfl ?_ | refine W_seq ?_ | refine W_condT rfl ?_ | refine W_condF rfl ?_ | refine W_region ?_ | refine W_skip ?_ | refine W_ret ?_ | refine W_block ?_ | refine W_exit ?_))
        refine Exists.intro _ (Exists.intro _ ⟨?_, ⟨q.tdiv 10, [48 + -(q.tmod 10)] ++ l, ⟨by omega, by omega⟩, by rw [t1, ← List.append_assoc, e, dg_step (by omega) (by omega), hd], rfl, rfl⟩, (weak_mk (by repeat' (first | exact trivial | refine And.intro ?_ ?_ | exact Le.refl | exact Le.nilOwn rfl | exact Le.nilSl | exact Le.ownSl | exact Le.top)) (by repeat' (first | exact trivial | refine And.intro ?_ ?_ | exact ⟨_, rfl, Les.refl _⟩ | exact ⟨_, rfl, by repeat' (first | exact Les.nil | exact Les.cons Le.refl (Les.refl _) | refine Les.cons (by first | exact Le.top | exact Le.refl | exact Le.ownSl | exact Le.nilSl) ?_)⟩)) rfl (by repeat' (first | exact trivial | refine And.intro ?_ ?_ | exact rfl | exact refs_fill (fun _ => rfl) rfl | exact refs_map (fun _ => rfl))) (fun _ _ _ h => by first | exact h.elim | (obtain ⟨rfl, rfl, rfl⟩ := h; simp)))⟩)
        rw [t1]; omega
      · have c2 : abin .lss .i64 (q.tmod 10) 0 = some (.bool false) := by simp [abin, hs]
        have fig := l01Figure_ok (q.tmod 10) ⟨by omega, by omega⟩
        have e : 48 + q.tmod 10 = 48 + ((q.natAbs % 10 : Nat) : Int) := by omega
        (repeat (first | refine WL_nil ?_ | (apply wl0 (hd := rfl); (first | exact QV_bin rfl rfl c1 | exact QV_bin rfl rfl c2 | exact q_cat (a := [48 + q.tmod 10]) (b := l) rfl rfl rfl (by simp; omega) | exact qv0 | exact QV_bne Try.underlying4 rfl rfl | exact QV_beq Try.underlying4 rfl rfl | exact qv1 | exact QV_div rfl rfl (by decide) hdv | exact QV_div rfl rfl (by decide) hr | exact q_callA (fig) | exact q_bytesStr (l := [48 + q.tmod 10]) Try.underlying22 Try.underlying5 Try.underlying9 rfl rfl); (exact gy0)) | (apply wlb (hd := rfl); (first | exact q_box rfl rfl rfl | exact q_alloc); (exact gy0); rfl) | refine wln ⟨_, rfl, rfl⟩ rfl ?_ | refine wlnu ⟨_, rfl, rfl⟩ rfl ?_ | (apply wln1 (hd := rfl); exact q_buildSlice 20 rfl rfl rfl rfl; (exact gy0); rfl) | refine wst rfl rfl rfl List.not_mem_nil rfl rfl rfl rfl rfl rfl ?_ | refine W_seq ?_ | refine W_condT rfl ?_ | refine W_condF rfl ?_ | refine W_region ?_ | refine W_skip ?_ | refine W_ret ?_ | refine W_block ?_ | refine W_exit ?_))
        refine Exists.intro _ (Exists.intro _ ⟨?_, ⟨q.tdiv 10, [48 + q.tmod 10] ++ l, ⟨by omega, by omega⟩, by rw [t1, ← List.append_assoc, e, dg_step (by omega) (by omega), hd], rfl, rfl⟩, (weak_mk (by repeat' (first | exact trivial | refine And.intro ?_ ?_ | exact Le.refl | exact Le.nilOwn rfl | exact Le.nilSl | exact Le.ownSl | exact Le.top)) (by repeat' (first | exact trivial | refine And.intro ?_ ?_ | exact ⟨_, rfl, Les.refl _⟩ | exact ⟨_, rfl, by repeat' (first | exact Les.nil | exact Les.cons Le.refl (Les.refl _) | refine Les.cons (by first | exact Le.top | exact Le.refl | exact Le.ownSl | exact Le.nilSl) ?_)⟩)) rfl (by repeat' (first | exact trivial | refine And.intro ?_ ?_ | exact rfl | exact refs_fill (fun _ => rfl) rfl | exact refs_map (fun _ => rfl))) (fun _ _ _ h => by first | exact h.elim | (obtain ⟨rfl, rfl, rfl⟩ := h; simp)))⟩)
        rw [t1]; omega
/-- The program's loop, once the sign is off. -/
theorem implFormatInt_ok (n : Int) (h : -99 ≤ n ∧ n ≤ 99) : CallOk Try.prog 147 [vi n] (fun r => r = vs (fmtL n)) := by
  obtain ⟨v, hv⟩ : ∃ v : Nat, v = n.natAbs := ⟨_, rfl⟩
  have hv9 : v ≤ 99 := by omega
  have r1 : ∀ u : Nat, u ≤ 99 → adv .rem .u64 (u : Int) 10 = some (.int .u64 ((u % 10 : Nat) : Int)) := fun u hu => by
    simp only [adv, IntWalk.rem_in (u : Int) 10 (by omega)]; rfl
  have r2 : ∀ u : Nat, u ≤ 99 → adv .quo .u64 (u : Int) 10 = some (.int .u64 ((u / 10 : Nat) : Int)) := fun u hu => by
    have e : (u : Int).tdiv 10 = ((u / 10 : Nat) : Int) := rfl
    simp only [adv, e, IntWalk.u64_in ((u / 10 : Nat) : Int) (by omega)]
  have r3 : ∀ b : Nat, b ≤ 9 → abin .add .u64 48 (b : Int) = some (.int .u64 (48 + (b : Int))) := fun b hb => by
    simp only [abin, IntWalk.u64_in (48 + (b : Int)) (by omega)]
  have r4 : ∀ b : Nat, b ≤ 9 → IntKind.u8.wrap (48 + (b : Int)) = 48 + (b : Int) := fun b hb => IntWalk.u8_in _ (by omega)
  have e0 : ∀ u : Nat, u = 0 → abin .eql .u64 (u : Int) 0 = some (.bool true) := fun u hu => by simp [abin, hu]
  have e1 : ∀ u : Nat, u ≠ 0 → abin .eql .u64 (u : Int) 0 = some (.bool false) := fun u hu => by simp [abin]; omega
  by_cases h0 : n < 0
  · have cv : IntKind.u64.wrap n = 18446744073709551616 - (v : Int) := by rw [IntKind.wrap_u64]; omega
    have cn : IntKind.u64.wrap (0 - (18446744073709551616 - (v : Int))) = (v : Int) := by rw [IntKind.wrap_u64]; omega
    have c0 : abin .lss .i64 n 0 = some (.bool true) := by simp [abin, h0]
    refine callOk Try.func147 Try.ntmps147 Try.results147 rfl rfl rfl fun B w0 I0 => ?_
    (repeat (first | refine WL_nil ?_ | (apply wl0 (hd := rfl); (first | exact QV_bin rfl rfl c0 | exact q_negE rfl cn | exact qv0 | exact QV_bne Try.underlying4 rfl rfl | exact QV_beq Try.underlying4 rfl rfl | exact qv1 | exact q_convE Try.underlying3 Try.underlying207 rfl cv); (exact gy0)) | (apply wlb (hd := rfl); (first | exact q_box rfl rfl rfl | exact q_alloc); (exact gy0); rfl) | refine wln ⟨_, rfl, rfl⟩ rfl ?_ | refine wlnu ⟨_, rfl, rfl⟩ rfl ?_ | refine wst rfl rfl rfl List.not_mem_nil rfl rfl rfl rfl rfl rfl ?_ | refine W_seq ?_ | refine W_condT rfl ?_ | refine W_condF rfl ?_ | refine W_region ?_ | refine W_skip ?_ | refine W_ret ?_ | refine W_block ?_ | refine W_exit ?_))
    by_cases h1 : v < 10
    · refine W_loop (fun m s => m = 0 ∧ s = ⟨[(0, vi n), (3, .ptr 3 0), (4, vi 20), (5, vq v)], [(3, [z8, z8, z8, z8, z8, z8, z8, z8, z8, z8, z8, z8, z8, z8, z8, z8, z8, z8, z8, z8])], []⟩) ⟨_, _, ⟨rfl, rfl⟩, (weak_mk (by repeat' (first | exact trivial | refine And.intro ?_ ?_ | exact Le.refl | exact Le.nilOwn rfl | exact Le.nilSl | exact Le.ownSl | exact Le.top)) (by repeat' (first | exact trivial | refine And.intro ?_ ?_ | exact ⟨_, rfl, Les.refl _⟩ | exact ⟨_, rfl, by repeat' (first | exact Les.nil | exact Les.cons Le.refl (Les.refl _) | refine Les.cons (by first | exact Le.top | exact Le.refl | exact Le.ownSl | exact Le.nilSl) ?_)⟩)) rfl (by repeat' (first | exact trivial | refine And.intro ?_ ?_ | exact rfl | exact refs_fill (fun _ => rfl) rfl | exact refs_map (fun _ => rfl))) (fun _ _ _ h => by first | exact h.elim | (obtain ⟨rfl, rfl, rfl⟩ := h; simp)))⟩ ?_
      rintro m s ⟨rfl, rfl⟩
      (repeat (first | refine WL_nil ?_ | (apply wl0 (hd := rfl); (first | exact QV_bin rfl rfl c0 | exact QV_bin rfl rfl (r3 (v % 10) (by omega)) | exact QV_bin rfl rfl (e0 (v / 10) (by omega)) | exact qv0 | exact QV_bne Try.underlying4 rfl rfl | exact QV_beq Try.underlying4 rfl rfl | exact qv1 | exact QV_div rfl rfl (by decide) (r1 v hv9) | exact QV_div rfl rfl (by decide) (r2 v hv9) | exact q_convE Try.underlying207 Try.underlying5 rfl (r4 (v % 10) (by omega)) | exact q_indexAr 19 rfl rfl rfl rfl | exact q_indexAr 18 rfl rfl rfl rfl); (exact gy0)) | (apply wlb (hd := rfl); (first | exact q_box rfl rfl rfl | exact q_alloc); (exact gy0); rfl) | refine wln ⟨_, rfl, rfl⟩ rfl ?_ | refine wlnu ⟨_, rfl, rfl⟩ rfl ?_ | refine wst rfl rfl rfl List.not_mem_nil rfl rfl rfl rfl rfl rfl ?_ | refine wslstr 18 [45, 48 + ((v % 10 : Nat) : Int)] Try.underlying22 Try.underlying5 Try.underlying9 rfl rfl rfl rfl rfl rfl rfl rfl rfl ?_ | refine W_seq ?_ | refine W_condT rfl ?_ | refine W_condF rfl ?_ | refine W_region ?_ | refine W_skip ?_ | refine W_ret ?_ | refine W_block ?_ | refine W_exit ?_))
      refine Exists.intro _ ⟨Weak.refl _, Exists.intro _ ⟨resA_tmp rfl rfl, ?_, rfl⟩⟩
      rw [fmtL, if_neg (by omega), if_pos h0, ← hv, dg, if_neg (by omega), if_pos h1, Nat.mod_eq_of_lt h1]
      rfl
    · refine W_loop (fun m s => (m = 1 ∧ s = ⟨[(0, vi n), (3, .ptr 3 0), (4, vi 20), (5, vq v)], [(3, [z8, z8, z8, z8, z8, z8, z8, z8, z8, z8, z8, z8, z8, z8, z8, z8, z8, z8, z8, z8])], []⟩) ∨ (m = 0 ∧ s = ⟨[(0, vi n), (3, .ptr 3 0), (4, vi (20 - 1)), (5, vq ((v / 10 : Nat) : Int))], [(3, [z8, z8, z8, z8, z8, z8, z8, z8, z8, z8, z8, z8, z8, z8, z8, z8, z8, z8, z8, v8 (48 + ((v % 10 : Nat) : Int))])], []⟩)) ⟨_, _, .inl ⟨rfl, rfl⟩, (weak_mk (by repeat' (first | exact trivial | refine And.intro ?_ ?_ | exact Le.refl | exact Le.nilOwn rfl | exact Le.nilSl | exact Le.ownSl | exact Le.top)) (by repeat' (first | exact trivial | refine And.intro ?_ ?_ | exact ⟨_, rfl, Les.refl _⟩ | exact ⟨_, rfl, by repeat' (first | exact Les.nil | exact Les.cons Le.refl (Les.refl _) | refine Les.cons (by first | exact Le.top | exact Le.refl | exact Le.ownSl | exact Le.nilSl) ?_)⟩)) rfl (by repeat' (first | exact trivial | refine And.intro ?_ ?_ | exact rfl | exact refs_fill (fun _ => rfl) rfl | exact refs_map (fun _ => rfl))) (fun _ _ _ h => by first | exact h.elim | (obtain ⟨rfl, rfl, rfl⟩ := h; simp)))⟩ ?_
      rintro m s (⟨rfl, rfl⟩ | ⟨rfl, rfl⟩)
      · (repeat (first | refine WL_nil ?_ | (apply wl0 (hd := rfl); (first | exact QV_bin rfl rfl (r3 (v % 10) (by omega)) | exact QV_bin rfl rfl (e1 (v / 10) (by omega)) | exact qv0 | exact QV_bne Try.underlying4 rfl rfl | exact QV_beq Try.underlying4 rfl rfl | exact qv1 | exact QV_div rfl rfl (by decide) (r1 v hv9) | exact QV_div rfl rfl (by decide) (r2 v hv9) | exact q_convE Try.underlying207 Try.underlying5 rfl (r4 (v % 10) (by omega)) | exact q_indexAr 19 rfl rfl rfl rfl); (exact gy0)) | (apply wlb (hd := rfl); (first | exact q_box rfl rfl rfl | exact q_alloc); (exact gy0); rfl) | refine wln ⟨_, rfl, rfl⟩ rfl ?_ | refine wlnu ⟨_, rfl, rfl⟩ rfl ?_ | refine wst rfl rfl rfl List.not_mem_nil rfl rfl rfl rfl rfl rfl ?_ | refine W_seq ?_ | refine W_condT rfl ?_ | refine W_condF rfl ?_ | refine W_region ?_ | refine W_skip ?_ | refine W_ret ?_ | refine W_block ?_ | refine W_exit ?_))
        refine Exists.intro _ (Exists.intro _ ⟨Nat.zero_lt_one, .inr ⟨rfl, rfl⟩, (weak_mk (by repeat' (first | exact trivial | refine And.intro ?_ ?_ | exact Le.refl | exact Le.nilOwn rfl | exact Le.nilSl | exact Le.ownSl | exact Le.top)) (by repeat' (first | exact trivial | refine And.intro ?_ ?_ | exact ⟨_, rfl, Les.refl _⟩ | exact ⟨_, rfl, by repeat' (first | exact Les.nil | exact Les.cons Le.refl (Les.refl _) | refine Les.cons (by first | exact Le.top | exact Le.refl | exact Le.ownSl | exact Le.nilSl) ?_)⟩)) rfl (by repeat' (first | exact trivial | refine And.intro ?_ ?_ | exact rfl | exact refs_fill (fun _ => rfl) rfl | exact refs_map (fun _ => rfl))) (fun _ _ _ h => by first | exact h.elim | (obtain ⟨rfl, rfl, rfl⟩ := h; simp)))⟩)
      · (repeat (first | refine WL_nil ?_ | (apply wl0 (hd := rfl); (first | exact QV_bin rfl rfl c0 | exact QV_bin rfl rfl (r3 (v / 10 % 10) (by omega)) | exact QV_bin rfl rfl (e0 (v / 10 / 10) (by omega)) | exact qv0 | exact QV_bne Try.underlying4 rfl rfl | exact QV_beq Try.underlying4 rfl rfl | exact qv1 | exact QV_div rfl rfl (by decide) (r1 (v / 10) (by omega)) | exact QV_div rfl rfl (by decide) (r2 (v / 10) (by omega)) | exact q_convE Try.underlying207 Try.underlying5 rfl (r4 (v / 10 % 10) (by omega)) | exact q_indexAr 18 rfl rfl rfl rfl | exact q_indexAr 17 rfl rfl rfl rfl); (exact gy0)) | (apply wlb (hd := rfl); (first | exact q_box rfl rfl rfl | exact q_alloc); (exact gy0); rfl) | refine wln ⟨_, rfl, rfl⟩ rfl ?_ | refine wlnu ⟨_, rfl, rfl⟩ rfl ?_ | refine wst rfl rfl rfl List.not_mem_nil rfl rfl rfl rfl rfl rfl ?_ | refine wslstr 17 [45, 48 + ((v / 10 % 10 : Nat) : Int), 48 + ((v % 10 : Nat) : Int)] Try.underlying22 Try.underlying5 Try.underlying9 rfl rfl rfl rfl rfl rfl rfl rfl rfl ?_ | refine W_seq ?_ | refine W_condT rfl ?_ | refine W_condF rfl ?_ | refine W_region ?_ | refine W_skip ?_ | refine W_ret ?_ | refine W_block ?_ | refine W_exit ?_))
        refine Exists.intro _ ⟨Weak.refl _, Exists.intro _ ⟨resA_tmp rfl rfl, ?_, rfl⟩⟩
        rw [fmtL, if_neg (by omega), if_pos h0, ← hv, dg, if_neg (by omega), if_neg h1, Nat.mod_eq_of_lt (show v / 10 < 10 by omega)]
        rfl
  · have cv : IntKind.u64.wrap n = (v : Int) := by rw [IntKind.wrap_u64]; omega
    have c0 : abin .lss .i64 n 0 = some (.bool false) := by simp [abin]; omega
    refine callOk Try.func147 Try.ntmps147 Try.results147 rfl rfl rfl fun B w0 I0 => ?_
    (repeat (first | refine WL_nil ?_ | (apply wl0 (hd := rfl); (first | exact QV_bin rfl rfl c0 | exact qv0 | exact QV_bne Try.underlying4 rfl rfl | exact QV_beq Try.underlying4 rfl rfl | exact qv1 | exact q_convE Try.underlying3 Try.underlying207 rfl cv); (exact gy0)) | (apply wlb (hd := rfl); (first | exact q_box rfl rfl rfl | exact q_alloc); (exact gy0); rfl) | refine wln ⟨_, rfl, rfl⟩ rfl ?_ | refine wlnu ⟨_, rfl, rfl⟩ rfl ?_ | refine wst rfl rfl rfl List.not_mem_nil rfl rfl rfl rfl rfl rfl ?_ | refine W_seq ?_ | refine W_condT rfl ?_ | refine W_condF rfl ?_ | refine W_region ?_ | refine W_skip ?_ | refine W_ret ?_ | refine W_block ?_ | refine W_exit ?_))
    by_cases h1 : v < 10
    · refine W_loop (fun m s => m = 0 ∧ s = ⟨[(0, vi n), (3, .ptr 3 0), (4, vi 20), (5, vq v)], [(3, [z8, z8, z8, z8, z8, z8, z8, z8, z8, z8, z8, z8, z8, z8, z8, z8, z8, z8, z8, z8])], []⟩) ⟨_, _, ⟨rfl, rfl⟩, (weak_mk (by repeat' (first | exact trivial | refine And.intro ?_ ?_ | exact Le.refl | exact Le.nilOwn rfl | exact Le.nilSl | exact Le.ownSl | exact Le.top)) (by repeat' (first | exact trivial | refine And.intro ?_ ?_ | exact ⟨_, rfl, Les.refl _⟩ | exact ⟨_, rfl, by repeat' (first | exact Les.nil | exact Les.cons Le.refl (Les.refl _) | refine Les.cons (by first | exact Le.top | exact Le.refl | exact Le.ownSl | exact Le.nilSl) ?_)⟩)) rfl (by repeat' (first | exact trivial | refine And.intro ?_ ?_ | exact rfl | exact refs_fill (fun _ => rfl) rfl | exact refs_map (fun _ => rfl))) (fun _ _ _ h => by first | exact h.elim | (obtain ⟨rfl, rfl, rfl⟩ := h; simp)))⟩ ?_
      rintro m s ⟨rfl, rfl⟩
      (repeat (first | refine WL_nil ?_ | (apply wl0 (hd := rfl); (first | exact QV_bin rfl rfl c0 | exact QV_bin rfl rfl (r3 (v % 10) (by omega)) | exact QV_bin rfl rfl (e0 (v / 10) (by omega)) | exact qv0 | exact QV_bne Try.underlying4 rfl rfl | exact QV_beq Try.underlying4 rfl rfl | exact qv1 | exact QV_div rfl rfl (by decide) (r1 v hv9) | exact QV_div rfl rfl (by decide) (r2 v hv9) | exact q_convE Try.underlying207 Try.underlying5 rfl (r4 (v % 10) (by omega)) | exact q_indexAr 19 rfl rfl rfl rfl); (exact gy0)) | (apply wlb (hd := rfl); (first | exact q_box rfl rfl rfl | exact q_alloc); (exact gy0); rfl) | refine wln ⟨_, rfl, rfl⟩ rfl ?_ | refine wlnu ⟨_, rfl, rfl⟩ rfl ?_ | refine wst rfl rfl rfl List.not_mem_nil rfl rfl rfl rfl rfl rfl ?_ | refine wslstr 19 [48 + ((v % 10 : Nat) : Int)] Try.underlying22 Try.underlying5 Try.underlying9 rfl rfl rfl rfl rfl rfl rfl rfl rfl ?_ | refine W_seq ?_ | refine W_condT rfl ?_ | refine W_condF rfl ?_ | refine W_region ?_ | refine W_skip ?_ | refine W_ret ?_ | refine W_block ?_ | refine W_exit ?_))
      refine Exists.intro _ ⟨Weak.refl _, Exists.intro _ ⟨resA_tmp rfl rfl, ?_, rfl⟩⟩
      by_cases hz : n = 0
      · subst hz
        have : v = 0 := by simpa using hv
        subst this
        rfl
      · rw [fmtL, if_neg hz, if_neg h0, ← hv, dg, if_neg (by omega), if_pos h1, Nat.mod_eq_of_lt h1]
        rfl
    · refine W_loop (fun m s => (m = 1 ∧ s = ⟨[(0, vi n), (3, .ptr 3 0), (4, vi 20), (5, vq v)], [(3, [z8, z8, z8, z8, z8, z8, z8, z8, z8, z8, z8, z8, z8, z8, z8, z8, z8, z8, z8, z8])], []⟩) ∨ (m = 0 ∧ s = ⟨[(0, vi n), (3, .ptr 3 0), (4, vi (20 - 1)), (5, vq ((v / 10 : Nat) : Int))], [(3, [z8, z8, z8, z8, z8, z8, z8, z8, z8, z8, z8, z8, z8, z8, z8, z8, z8, z8, z8, v8 (48 + ((v % 10 : Nat) : Int))])], []⟩)) ⟨_, _, .inl ⟨rfl, rfl⟩, (weak_mk (by repeat' (first | exact trivial | refine And.intro ?_ ?_ | exact Le.refl | exact Le.nilOwn rfl | exact Le.nilSl | exact Le.ownSl | exact Le.top)) (by repeat' (first | exact trivial | refine And.intro ?_ ?_ | exact ⟨_, rfl, Les.refl _⟩ | exact ⟨_, rfl, by repeat' (first | exact Les.nil | exact Les.cons Le.refl (Les.refl _) | refine Les.cons (by first | exact Le.top | exact Le.refl | exact Le.ownSl | exact Le.nilSl) ?_)⟩)) rfl (by repeat' (first | exact trivial | refine And.intro ?_ ?_ | exact rfl | exact refs_fill (fun _ => rfl) rfl | exact refs_map (fun _ => rfl))) (fun _ _ _ h => by first | exact h.elim | (obtain ⟨rfl, rfl, rfl⟩ := h; simp)))⟩ ?_
      rintro m s (⟨rfl, rfl⟩ | ⟨rfl, rfl⟩)
      · (repeat (first | refine WL_nil ?_ | (apply wl0 (hd := rfl); (first | exact QV_bin rfl rfl (r3 (v % 10) (by omega)) | exact QV_bin rfl rfl (e1 (v / 10) (by omega)) | exact qv0 | exact QV_bne Try.underlying4 rfl rfl | exact QV_beq Try.underlying4 rfl rfl | exact qv1 | exact QV_div rfl rfl (by decide) (r1 v hv9) | exact QV_div rfl rfl (by decide) (r2 v hv9) | exact q_convE Try.underlying207 Try.underlying5 rfl (r4 (v % 10) (by omega)) | exact q_indexAr 19 rfl rfl rfl rfl); (exact gy0)) | (apply wlb (hd := rfl); (first | exact q_box rfl rfl rfl | exact q_alloc); (exact gy0); rfl) | refine wln ⟨_, rfl, rfl⟩ rfl ?_ | refine wlnu ⟨_, rfl, rfl⟩ rfl ?_ | refine wst rfl rfl rfl List.not_mem_nil rfl rfl rfl rfl rfl rfl ?_ | refine W_seq ?_ | refine W_condT rfl ?_ | refine W_condF rfl ?_ | refine W_region ?_ | refine W_skip ?_ | refine W_ret ?_ | refine W_block ?_ | refine W_exit ?_))
        refine Exists.intro _ (Exists.intro _ ⟨Nat.zero_lt_one, .inr ⟨rfl, rfl⟩, (weak_mk (by repeat' (first | exact trivial | refine And.intro ?_ ?_ | exact Le.refl | exact Le.nilOwn rfl | exact Le.nilSl | exact Le.ownSl | exact Le.top)) (by repeat' (first | exact trivial | refine And.intro ?_ ?_ | exact ⟨_, rfl, Les.refl _⟩ | exact ⟨_, rfl, by repeat' (first | exact Les.nil | exact Les.cons Le.refl (Les.refl _) | refine Les.cons (by first | exact Le.top | exact Le.refl | exact Le.ownSl | exact Le.nilSl) ?_)⟩)) rfl (by repeat' (first | exact trivial | refine And.intro ?_ ?_ | exact rfl | exact refs_fill (fun _ => rfl) rfl | exact refs_map (fun _ => rfl))) (fun _ _ _ h => by first | exact h.elim | (obtain ⟨rfl, rfl, rfl⟩ := h; simp)))⟩)
      · (repeat (first | refine WL_nil ?_ | (apply wl0 (hd := rfl); (first | exact QV_bin rfl rfl c0 | exact QV_bin rfl rfl (r3 (v / 10 % 10) (by omega)) | exact QV_bin rfl rfl (e0 (v / 10 / 10) (by omega)) | exact qv0 | exact QV_bne Try.underlying4 rfl rfl | exact QV_beq Try.underlying4 rfl rfl | exact qv1 | exact QV_div rfl rfl (by decide) (r1 (v / 10) (by omega)) | exact QV_div rfl rfl (by decide) (r2 (v / 10) (by omega)) | exact q_convE Try.underlying207 Try.underlying5 rfl (r4 (v / 10 % 10) (by omega)) | exact q_indexAr 18 rfl rfl rfl rfl); (exact gy0)) | (apply wlb (hd := rfl); (first | exact q_box rfl rfl rfl | exact q_alloc); (exact gy0); rfl) | refine wln ⟨_, rfl, rfl⟩ rfl ?_ | refine wlnu ⟨_, rfl, rfl⟩ rfl ?_ | refine wst rfl rfl rfl List.not_mem_nil rfl rfl rfl rfl rfl rfl ?_ | refine wslstr 18 [48 + ((v / 10 % 10 : Nat) : Int), 48 + ((v % 10 : Nat) : Int)] Try.underlying22 Try.underlying5 Try.underlying9 rfl rfl rfl rfl rfl rfl rfl rfl rfl ?_ | refine W_seq ?_ | refine W_condT rfl ?_ | refine W_condF rfl ?_ | refine W_region ?_ | refine W_skip ?_ | refine W_ret ?_ | refine W_block ?_ | refine W_exit ?_))
        refine Exists.intro _ ⟨Weak.refl _, Exists.intro _ ⟨resA_tmp rfl rfl, ?_, rfl⟩⟩
        rw [fmtL, if_neg (by omega), if_neg h0, ← hv, dg, if_neg (by omega), if_neg h1, Nat.mod_eq_of_lt (show v / 10 < 10 by omega)]
        rfl
/-! ### Joined texts -/
def joinL : List (List Int) → List Int
  | [] => []
  | x :: r => x ++ (r.map fun y => (32 : Int) :: y).flatten
theorem joinL_len {xs : List (List Int)} (h : ∀ x ∈ xs, x.length ≤ 100) : (joinL xs).length ≤ 101 * xs.length := by
  have aux : ∀ r : List (List Int), (∀ x ∈ r, x.length ≤ 100) → (r.map fun y => (32 : Int) :: y).flatten.length ≤ 101 * r.length := by
    intro r
    induction r with
    | nil => intro _; simp
    | cons y r ih =>
      intro hr
      have h1 := hr y (by simp)
      have h2 := ih fun x hx => hr x (by simp [hx])
      simp only [List.map_cons, List.flatten_cons, List.length_append, List.length_cons]
      omega
  cases xs with
  | nil => simp [joinL]
  | cons x r =>
    have h1 := h x (by simp)
    have h2 := aux r fun y hy => h y (by simp [hy])
    simp only [joinL, List.length_append, List.length_cons]
    omega
def toU (l : List Int) : List UInt8 := l.map fun n => UInt8.ofNat n.toNat
theorem joinL_bytes (xs : List (List Int)) : Lib.join (xs.map toU) [32] = toU (joinL xs) := by
  cases xs with
  | nil => rfl
  | cons x r =>
    rw [List.map_cons, Lib.join_cons, joinL]
    simp only [toU, List.map_append, Lib.joinTail]
    congr 1
    induction r with
    | nil => rfl
    | cons y r ih =>
      simp only [List.map_cons, List.flatten_cons, List.map_append, ih]
      rfl
theorem join_ok (xs : List (List Int)) (hn : xs.length ≤ 1000) (hl : ∀ x ∈ xs, x.length ≤ 100) : CallOk Try.prog 111 [.sl 1 (xs.map fun l => [vs l]), .v (.string ⟨#[32]⟩)] (fun r => r = vs (joinL xs)) := by
  unfold CallOk
  intro I w vals hI hargs
  simp only [dreps, drep] at hargs
  obtain ⟨y, zs, e1, ⟨A, c, rfl, hA, hc⟩, y2, zs2, e2, rfl, rfl⟩ := hargs
  obtain rfl : vals = #[.slice A (xs.map fun l => [vs l]).length c, .string ⟨#[32]⟩] := by
    apply Array.ext'
    simp [e1, e2]
  rw [List.length_map] at hc ⊢
  have ret : ∀ w', RowKit.Below w.heap.size w w' → ∃ g' : Gh, rep g' w' (vs (joinL xs)) (.string (strOfNums (joinL xs))) ∧ Ret I w g' w' := fun w' hb =>
    ⟨⟨I, fun _ => none, fun _ => none, fun _ => False, fun _ => 0⟩, by simp only [rep], ⟨⟨hb.os, hb.tape, hb.output, hb.size, fun k hk _ => hb.block k hk⟩, fun _ _ h => h, fun _ _ h => .inl h, fun b o h => by
      rw [World.cell?_of_block (a := ⟨b, o, none⟩) (hb.block b (cell_lt (hI b o h)))]; exact hI b o h, fun _ _ h => h.elim, fun _ _ _ h => h.elim⟩⟩
  by_cases h0 : xs = []
  · subst h0
    refine (Try.strings_Join_none A c ⟨#[32]⟩ w).mono fun e w' ⟨he, hw⟩ => ?_
    subst hw
    obtain ⟨g', k1, k2⟩ := ret w' (RowKit.Below.refl _ _)
    exact ⟨_, _, g', he, rfl, k1, k2⟩
  · rcases hA with hA | ⟨b, o, rfl, hA⟩
    · exact absurd (by simpa using hA) h0
    · have hlen : (xs.map strOfNums).length = xs.length := List.length_map _
      have hmap : (xs.map strOfNums).map (fun x => x.data.toList) = xs.map toU := by
        rw [List.map_map]
        rfl
      have hcell : ∀ (j : Nat) x, (xs.map strOfNums)[j]? = some x → w.cell? ⟨b, o + j, none⟩ = some (.string x) := fun j x hj => by
        rw [List.getElem?_map] at hj
        obtain ⟨l, hl1, rfl⟩ := Option.map_eq_some_iff.1 hj
        have hrow : (xs.map fun l => [vs l])[j]? = some [vs l] := by rw [List.getElem?_map, hl1]; rfl
        have := (drows_get hA hrow).2
        simp only [dcells, drep, Nat.mul_one] at this
        obtain ⟨⟨z, z1, _, z3⟩, _⟩ := this
        rw [z1, z3]
      have hpos : 0 < xs.length := List.length_pos_iff.2 h0
      have hbk : b < w.heap.size := by
        have := hcell 0 (strOfNums (xs[0]'hpos)) (by simp [hpos])
        exact cell_lt (o := o + 0) (by rw [this]; rfl)
      have := Try.strings_Join b o c (xs.map strOfNums) ⟨#[32]⟩ w hcell hbk (by omega) (by omega) (by
        have := joinL_len hl
        rw [hmap]
        show (Lib.join (xs.map toU) [32]).length ≤ _
        rw [joinL_bytes]
        simp only [toU, List.length_map]
        omega)
      rw [hlen] at this
      refine this.mono fun e w' ⟨he, hw⟩ => ?_
      obtain ⟨g', k1, k2⟩ := ret w' hw
      refine ⟨_, _, g', ?_, rfl, k1, k2⟩
      rw [he, hmap]
      show Ending.returned (.string ⟨(Lib.join (xs.map toU) [32]).toArray⟩) = _
      rw [joinL_bytes]
      rfl
end Go.Proofs.Ytkadjimnamcjbaa
