/- PlacesOf of the program: a slice of slices, all in memory of its own; such slices held against others, marked, held. -/
import Derived.Test.YtkadjimnamcjbaaYAPo
import Derived.Test.YtkadjimnamcjbaaYAMi
import Derived.Test.YtkadjimnamcjbaaZ3
namespace Go.Proofs.Ytkadjimnamcjbaa
open Go.Eng Go.RowKit
set_option maxRecDepth 100000
attribute [local irreducible] QV TV WL HW W CallOk Weak

theorem plTo_eq (f : Nat → List AV) : ∀ m, plTo f m = (List.range m).map f
  | 0 => rfl
  | m + 1 => by rw [plTo, plTo_eq f m, List.range_succ, List.map_append]; rfl
/-- The places. -/
def pwL (js : List Jt) (ls : List Ld) (t : Th) : List (Int × Int) := bif pllB js ls t then (List.range js.length).map (fun k : Nat => (plN js ls t k, plD js ls t k)) else []
theorem pwL_len (js : List Jt) (ls : List Ld) (t : Th) : (pwL js ls t).length ≤ js.length := by
  unfold pwL
  cases pllB js ls t <;> simp
abbrev pwV (p : Int × Int) : List Value := [.int .i64 p.1, .int .i64 p.2]
abbrev pwD (p : Int × Int) : List AV := [.sl 1 ((pwV p).map fun v => [.v v])]
theorem placesOf_pw (js : List Jt) (ls : List Ld) (t : Th) (hj : js.length ≤ 1048576) (hn : ls.length ≤ 1048576) : CallOk Try.prog 79 [.agg [slJt js], slLd ls, t.av] (fun r => r = .sl 1 ((pwL js ls t).map pwD)) := by
  have h := placesOf_ok js ls t hj hn
  unfold pwL
  cases e : pllB js ls t
  · rw [e] at h; exact h
  · rw [e] at h
    simp only [cond_true, plTo_eq] at h
    simp only [cond_true, List.map_map]
    exact h
theorem implplacesOf_pw (js : List Jt) (ls : List Ld) (t : Th) (hj : js.length ≤ 1048576) (hn : ls.length ≤ 1048576) : CallOk Try.prog 134 [.agg [slJt js], slLd ls, t.av] (fun r => r = .sl 2 ((pwL js ls t).map fun p => [vi p.1, vi p.2])) := by
  have h := implPlacesOf_ok js ls t hj hn
  unfold pwL
  cases e : pllB js ls t
  · rw [e] at h; exact h
  · rw [e] at h
    simp only [cond_true, plTo_eq] at h
    simp only [cond_true, List.map_map]
    exact h
def pwJ (pw : List (Int × Int)) (L : List (Nat × List Value)) : Prop := L.map (·.2) = pw.map pwV ∧ L.Pairwise fun p q => p.1 < q.1
theorem pwJ_dat {pw : List (Int × Int)} {L : List (Nat × List Value)} (h : pwJ pw L) : L.map datA = pw.map pwD := by
  have : L.map datA = (L.map (·.2)).map fun vs => [.sl 1 (vs.map fun v => [.v v])] := by rw [List.map_map]; rfl
  rw [this, h.1, List.map_map]; rfl
theorem implPlacesOf_raw (js : List Jt) (ls : List Ld) (t : Th) (hj : js.length ≤ 1048576) (hn : ls.length ≤ 1048576) : CallRaw Try.prog 80 [.agg [slJt js], slLd ls, t.av] (pwJ (pwL js ls t)) (fun L => .own 20 82 1 (L.map rawA)) (fun L => L.map (objA 3)) := by
  have h0 := implplacesOf_pw js ls t hj hn
  have hlen := pwL_len js ls t
  obtain ⟨pw, epw⟩ : ∃ pw, pw = pwL js ls t := ⟨_, rfl⟩
  rw [← epw] at h0 hlen ⊢
  intro I w0 vals hI hargs
  refine callsIn_wide.1 (callsIn_of_WK (n := 0) (args := [.agg [slJt js], slLd ls, t.av]) Try.func80 Try.ntmps80 Try.results80 rfl rfl rfl hI (reps_of_dreps (g := gh0 I) hargs) fun fn hrs => ?_)
  refine WK_seqN ?_
  (repeat (first | refine WL_nil ?_ | (apply wl0 (hd := rfl); (first | exact qv0 | exact QV_bne Try.underlying4 rfl rfl | exact QV_beq Try.underlying4 rfl rfl | exact qv1); (exact gy0)) | (apply wlb (hd := rfl); (first | exact q_box rfl rfl rfl | exact q_alloc); (exact gy0); rfl) | refine wln ⟨_, rfl, rfl⟩ rfl ?_ | refine wlnu ⟨_, rfl, rfl⟩ rfl ?_ | refine wst rfl rfl rfl List.not_mem_nil rfl rfl rfl rfl rfl rfl ?_ | refine W_seq ?_ | refine W_condT rfl ?_ | refine W_condF rfl ?_ | refine W_region ?_ | refine W_skip ?_ | refine W_ret ?_ | refine W_block ?_ | refine W_exit ?_))
  refine ⟨rfl, WK_seqN ?_⟩
  (repeat (first | refine WL_nil ?_ | (apply wl0 (hd := rfl); (first | exact qv0 | exact QV_bne Try.underlying4 rfl rfl | exact QV_beq Try.underlying4 rfl rfl | exact qv1); (exact gy0)) | (apply wlb (hd := rfl); (first | exact q_box rfl rfl rfl | exact q_alloc); (exact gy0); rfl) | refine wln ⟨_, rfl, rfl⟩ rfl ?_ | refine wlnu ⟨_, rfl, rfl⟩ rfl ?_ | refine wst rfl rfl rfl List.not_mem_nil rfl rfl rfl rfl rfl rfl ?_ | refine W_seq ?_ | refine W_condT rfl ?_ | refine W_condF rfl ?_ | refine W_region ?_ | refine W_skip ?_ | refine W_ret ?_ | refine W_block ?_ | refine W_exit ?_))
  refine ⟨rfl, WK_seqL (WK_seqN ?_)⟩
  (repeat (first | refine WL_nil ?_ | (apply wl0 (hd := rfl); (first | exact qv0 | exact QV_bne Try.underlying4 rfl rfl | exact QV_beq Try.underlying4 rfl rfl | exact qv1 | exact q_callA (h0)); (exact gy0)) | (apply wlb (hd := rfl); (first | exact q_box rfl rfl rfl | exact q_alloc); (exact gy0); rfl) | refine wln ⟨_, rfl, rfl⟩ rfl ?_ | refine wlnu ⟨_, rfl, rfl⟩ rfl ?_ | refine wst rfl rfl rfl List.not_mem_nil rfl rfl rfl rfl rfl rfl ?_ | refine W_seq ?_ | refine W_condT rfl ?_ | refine W_condF rfl ?_ | refine W_region ?_ | refine W_skip ?_ | refine W_ret ?_ | refine W_block ?_ | refine W_exit ?_))
  refine ⟨rfl, WK_block (WK_loopO (fun L : List (Nat × List Value) => L.length ≤ pw.length ∧ L.map (·.2) = (pw.take L.length).map pwV ∧ L.Pairwise fun p q => p.1 < q.1) (fun L => pw.length - L.length) (fun L => ⟨[(7, .own 20 82 1 (L.map rawA)), (13, .sl 2 (pw.map fun p => [vi p.1, vi p.2])), (14, vi pw.length), (15, vi L.length)], [], [20]⟩) (fun L => L.map (objA 3)) [] (Rt.start w0 I) ⟨Nat.zero_le _, rfl, .nil⟩ (weak_mk (by repeat' (first | exact trivial | refine And.intro ?_ ?_ | exact Le.refl | exact Le.nilOwn rfl | exact Le.nilSl | exact Le.ownSl | exact Le.top)) (by repeat' (first | exact trivial | refine And.intro ?_ ?_ | exact ⟨_, rfl, Les.refl _⟩ | exact ⟨_, rfl, by repeat' (first | exact Les.nil | exact Les.cons Le.refl (Les.refl _) | refine Les.cons (by first | exact Le.top | exact Le.refl | exact Le.ownSl | exact Le.nilOwn rfl | exact Le.nilSl) ?_)⟩)) rfl (by repeat' (first | exact trivial | refine And.intro ?_ ?_ | exact rfl | exact refs_fill (fun _ => rfl) rfl | exact refs_map (fun _ => rfl))) (fun _ _ _ h => by first | exact h.elim | (obtain ⟨rfl, rfl, rfl⟩ := h; simp))) ?_)⟩
  rintro L ⟨hL, hv, hpw⟩ w1 M1 I1 hR
  by_cases hlt : L.length < pw.length
  · have g1 : abin .lss .i64 (L.length : Int) (pw.length : Int) = some (.bool true) := by simp only [abin]; rw [decide_eq_true (by omega)]
    obtain ⟨q, hq⟩ : ∃ q, pw[L.length]? = some q := ⟨_, List.getElem?_eq_getElem hlt⟩
    have hrow : (pw.map fun p : Int × Int => [vi p.1, vi p.2])[L.length]? = some [vi q.1, vi q.2] := by rw [List.getElem?_map, hq]; rfl
    refine WK_seqN ?_
    (repeat (first | refine WL_nil ?_ | (apply wl0 (hd := rfl); (first | exact QV_bin rfl rfl g1 | exact qv0 | exact QV_bne Try.underlying4 rfl rfl | exact QV_beq Try.underlying4 rfl rfl | exact qv1); (exact gy0)) | (apply wlb (hd := rfl); (first | exact q_box rfl rfl rfl | exact q_alloc); (exact gy0); rfl) | refine wln ⟨_, rfl, rfl⟩ rfl ?_ | refine wlnu ⟨_, rfl, rfl⟩ rfl ?_ | refine wst rfl rfl rfl List.not_mem_nil rfl rfl rfl rfl rfl rfl ?_ | refine W_seq ?_ | refine W_condT rfl ?_ | refine W_condF rfl ?_ | refine W_region ?_ | refine W_skip ?_ | refine W_ret ?_ | refine W_block ?_ | refine W_exit ?_))
    refine ⟨rfl, WK_seqN ?_⟩
    (repeat (first | refine WL_nil ?_ | (apply wl0 (hd := rfl); (first | exact qv0 | exact QV_bne Try.underlying4 rfl rfl | exact QV_beq Try.underlying4 rfl rfl | exact qv1); (exact gy0)) | (apply wlb (hd := rfl); (first | exact q_box rfl rfl rfl | exact q_alloc); (exact gy0); rfl) | refine wln ⟨_, rfl, rfl⟩ rfl ?_ | refine wlnu ⟨_, rfl, rfl⟩ rfl ?_ | refine wst rfl rfl rfl List.not_mem_nil rfl rfl rfl rfl rfl rfl ?_ | refine W_seq ?_ | refine W_condT rfl ?_ | refine W_condF rfl ?_ | refine W_region ?_ | refine W_skip ?_ | refine W_ret ?_ | refine W_block ?_ | refine W_exit ?_))
    refine ⟨rfl, WK_seqL (WK_block (WK_seqN ?_))⟩
    (repeat (first | refine WL_nil ?_ | (apply wl0 (hd := rfl); (first | exact qv0 | exact QV_bne Try.underlying4 rfl rfl | exact QV_beq Try.underlying4 rfl rfl | exact qv1 | exact QV_indexAddr rfl rfl rfl rfl hrow); (exact gy0)) | (apply wlb (hd := rfl); (first | exact q_box rfl rfl rfl | exact q_alloc); (exact gy0); rfl) | refine wln ⟨_, rfl, rfl⟩ rfl ?_ | refine wlnu ⟨_, rfl, rfl⟩ rfl ?_ | refine wst rfl rfl rfl List.not_mem_nil rfl rfl rfl rfl rfl rfl ?_ | refine W_seq ?_ | refine W_condT rfl ?_ | refine W_condF rfl ?_ | refine W_region ?_ | refine W_skip ?_ | refine W_ret ?_ | refine W_block ?_ | refine W_exit ?_))
    refine ⟨rfl, WK_region (WLK_cut 5 ?_)⟩
    (repeat (first | refine WL_nil ?_ | (apply wl0 (hd := rfl); (first | exact qv0 | exact QV_bne Try.underlying4 rfl rfl | exact QV_beq Try.underlying4 rfl rfl | exact qv1); (exact gy0)) | (apply wlb (hd := rfl); (first | exact q_box rfl rfl rfl | exact q_alloc); (exact gy0); rfl) | refine wln ⟨_, rfl, rfl⟩ rfl ?_ | refine wlnu ⟨_, rfl, rfl⟩ rfl ?_ | refine wst rfl rfl rfl List.not_mem_nil rfl rfl rfl rfl rfl rfl ?_ | refine W_seq ?_ | refine W_condT rfl ?_ | refine W_condF rfl ?_ | refine W_region ?_ | refine W_skip ?_ | refine W_ret ?_ | refine W_block ?_ | refine W_exit ?_))
    refine ⟨rfl, WLK_raw (vs := pwV q) hR rfl rfl [(21, .int .i64 q.1), (23, .int .i64 q.2)] (by intro p hp; simp only [List.mem_cons, List.not_mem_nil, or_false] at hp; rcases hp with rfl | rfl <;> rfl) (fun w => q_buildA 0 rfl rfl) fun b w2 M2 I2 hb hR => ?_⟩
    refine WLK_of ?_
    have happ : (L.map rawA).length + [rawA (b, pwV q)].length ≤ 1048576 := by simp; omega
    (repeat (first | refine WL_nil ?_ | (apply wl0 (hd := rfl); (first | exact qv0 | exact QV_bne Try.underlying4 rfl rfl | exact QV_beq Try.underlying4 rfl rfl | exact qv1); (exact gy0)) | (apply wlb (hd := rfl); (first | exact q_box rfl rfl rfl | exact q_alloc); (exact gy0); rfl) | refine wln ⟨_, rfl, rfl⟩ rfl ?_ | refine wlnu ⟨_, rfl, rfl⟩ rfl ?_ | (apply wln1 (hd := rfl); exact q_buildSlice 25 rfl rfl rfl rfl; (exact gy0); rfl) | refine wst rfl rfl rfl List.not_mem_nil rfl rfl rfl rfl rfl rfl ?_ | refine wapp (rows2 := [rawA (b, pwV q)]) rfl rfl rfl (by intro z hz; simp at hz; subst hz; rfl) (by simp) happ rfl rfl rfl rfl ?_ | refine W_seq ?_ | refine W_condT rfl ?_ | refine W_condF rfl ?_ | refine W_region ?_ | refine W_skip ?_ | refine W_ret ?_ | refine W_block ?_ | refine W_exit ?_))
    refine kQ_blk (kQ_then (WK_of ?_))
    (repeat (first | refine WL_nil ?_ | (apply wl0 (hd := rfl); (first | exact qv0 | exact QV_bne Try.underlying4 rfl rfl | exact QV_beq Try.underlying4 rfl rfl | exact qv1); (exact gy0)) | (apply wlb (hd := rfl); (first | exact q_box rfl rfl rfl | exact q_alloc); (exact gy0); rfl) | refine wln ⟨_, rfl, rfl⟩ rfl ?_ | refine wlnu ⟨_, rfl, rfl⟩ rfl ?_ | refine wst rfl rfl rfl List.not_mem_nil rfl rfl rfl rfl rfl rfl ?_ | refine W_seq ?_ | refine W_condT rfl ?_ | refine W_condF rfl ?_ | refine W_region ?_ | refine W_skip ?_ | refine W_ret ?_ | refine W_block ?_ | refine W_exit ?_))
    refine kQ_next (L ++ [(b, pwV q)]) ⟨by simp; omega, ?_, ?_⟩ (by simp; omega) hR (by simp) ?_
    · rw [List.map_append, hv, List.length_append]
      simp only [List.map_cons, List.map_nil, List.length_cons, List.length_nil]
      rw [List.take_add_one, hq, List.map_append]
      rfl
    · rw [List.pairwise_append]
      exact ⟨hpw, by simp, fun x hx y hy => by rw [List.mem_singleton.1 hy]; exact hb (objA 3 x) (List.mem_map.2 ⟨x, hx, rfl⟩)⟩
    · rw [List.map_append, List.length_append]
      exact (weak_mk (by repeat' (first | exact trivial | refine And.intro ?_ ?_ | exact Le.refl | exact Le.nilOwn rfl | exact Le.nilSl | exact Le.ownSl | exact Le.top)) (by repeat' (first | exact trivial | refine And.intro ?_ ?_ | exact ⟨_, rfl, Les.refl _⟩ | exact ⟨_, rfl, by repeat' (first | exact Les.nil | exact Les.cons Le.refl (Les.refl _) | refine Les.cons (by first | exact Le.top | exact Le.refl | exact Le.ownSl | exact Le.nilSl) ?_)⟩)) rfl (by repeat' (first | exact trivial | refine And.intro ?_ ?_ | exact rfl | exact refs_fill (fun _ => rfl) rfl | exact refs_map (fun _ => rfl))) (fun _ _ _ h => by first | exact h.elim | (obtain ⟨rfl, rfl, rfl⟩ := h; simp)))
  · have hk' : L.length = pw.length := by omega
    have g1 : abin .lss .i64 (L.length : Int) (pw.length : Int) = some (.bool false) := by simp only [abin]; rw [decide_eq_false (by omega)]
    refine WK_of ?_
    (repeat (first | refine WL_nil ?_ | (apply wl0 (hd := rfl); (first | exact QV_bin rfl rfl g1 | exact qv0 | exact QV_bne Try.underlying4 rfl rfl | exact QV_beq Try.underlying4 rfl rfl | exact qv1); (exact gy0)) | (apply wlb (hd := rfl); (first | exact q_box rfl rfl rfl | exact q_alloc); (exact gy0); rfl) | refine wln ⟨_, rfl, rfl⟩ rfl ?_ | refine wlnu ⟨_, rfl, rfl⟩ rfl ?_ | refine wst rfl rfl rfl List.not_mem_nil rfl rfl rfl rfl rfl rfl ?_ | refine W_seq ?_ | refine W_condT rfl ?_ | refine W_condF rfl ?_ | refine W_region ?_ | refine W_skip ?_ | refine W_ret ?_ | refine W_block ?_ | refine W_exit ?_))
    refine kQ_nextE (kQ_exit (kQ_then (WK_of ?_)))
    (repeat (first | refine WL_nil ?_ | (apply wl0 (hd := rfl); (first | exact qv0 | exact QV_bne Try.underlying4 rfl rfl | exact QV_beq Try.underlying4 rfl rfl | exact qv1); (exact gy0)) | (apply wlb (hd := rfl); (first | exact q_box rfl rfl rfl | exact q_alloc); (exact gy0); rfl) | refine wln ⟨_, rfl, rfl⟩ rfl ?_ | refine wlnu ⟨_, rfl, rfl⟩ rfl ?_ | refine wst rfl rfl rfl List.not_mem_nil rfl rfl rfl rfl rfl rfl ?_ | refine W_seq ?_ | refine W_condT rfl ?_ | refine W_condF rfl ?_ | refine W_region ?_ | refine W_skip ?_ | refine W_ret ?_ | refine W_block ?_ | refine W_exit ?_))
    rw [hk', List.take_length] at hv
    exact fun g a w hi => leaves_raw hrs hR hi (resA_tmp rfl rfl) rfl fun y hy => ⟨L, y, ⟨hv, hpw⟩, rfl, hy⟩
/-! ### Such slices held against data -/
theorem row_pwD {pw : List (Int × Int)} {i : Nat} {q : Int × Int} (h : pw[i]? = some q) : (pw.map pwD)[i]? = some (pwD q) := by rw [List.getElem?_map, h]; rfl
theorem eqIntSS_ok (pw : List (Int × Int)) (hn : pw.length ≤ 1048576) : CallOk Try.prog 81 [.sl 1 (pw.map pwD), .sl 1 (pw.map pwD)] (fun r => r = vb true) := by
  refine callOk Try.func81 Try.ntmps81 Try.results81 rfl rfl rfl fun B w0 I0 => ?_
  (repeat (first | refine WL_nil ?_ | (apply wl0 (hd := rfl); (first | exact qv0 | exact QV_bne Try.underlying4 rfl rfl | exact QV_beq Try.underlying4 rfl rfl | exact qv1); (exact gy0)) | (apply wlb (hd := rfl); (first | exact q_box rfl rfl rfl | exact q_alloc); (exact gy0); rfl) | refine wln ⟨_, rfl, rfl⟩ rfl ?_ | refine wlnu ⟨_, rfl, rfl⟩ rfl ?_ | refine wst rfl rfl rfl List.not_mem_nil rfl rfl rfl rfl rfl rfl ?_ | refine W_seq ?_ | refine W_condT rfl ?_ | refine W_condF rfl ?_ | refine W_region ?_ | refine W_skip ?_ | refine W_ret ?_ | refine W_block ?_ | refine W_exit ?_))
  (refine W_cond rfl (fun hc => ?_) (fun hc => ?_))
  · simp at hc
  · (repeat (first | refine WL_nil ?_ | (apply wl0 (hd := rfl); (first | exact qv0 | exact QV_bne Try.underlying4 rfl rfl | exact QV_beq Try.underlying4 rfl rfl | exact qv1); (exact gy0)) | (apply wlb (hd := rfl); (first | exact q_box rfl rfl rfl | exact q_alloc); (exact gy0); rfl) | refine wln ⟨_, rfl, rfl⟩ rfl ?_ | refine wlnu ⟨_, rfl, rfl⟩ rfl ?_ | refine wst rfl rfl rfl List.not_mem_nil rfl rfl rfl rfl rfl rfl ?_ | refine W_seq ?_ | refine W_condT rfl ?_ | refine W_condF rfl ?_ | refine W_region ?_ | refine W_skip ?_ | refine W_ret ?_ | refine W_block ?_ | refine W_exit ?_))
    refine W_loop (fun n s => ∃ k : Nat, k ≤ pw.length ∧ n = pw.length - k ∧ s = ⟨[(0, .sl 1 (pw.map pwD)), (1, .sl 1 (pw.map pwD)), (5, vi k)], [], []⟩) ⟨_, _, ⟨0, by omega, rfl, rfl⟩, (weak_mk (by repeat' (first | exact trivial | refine And.intro ?_ ?_ | exact Le.refl | exact Le.nilOwn rfl | exact Le.nilSl | exact Le.ownSl | exact Le.top)) (by repeat' (first | exact trivial | refine And.intro ?_ ?_ | exact ⟨_, rfl, Les.refl _⟩ | exact ⟨_, rfl, by repeat' (first | exact Les.nil | exact Les.cons Le.refl (Les.refl _) | refine Les.cons (by first | exact Le.top | exact Le.refl | exact Le.ownSl | exact Le.nilSl) ?_)⟩)) rfl (by repeat' (first | exact trivial | refine And.intro ?_ ?_ | exact rfl | exact refs_fill (fun _ => rfl) rfl | exact refs_map (fun _ => rfl))) (fun _ _ _ h => by first | exact h.elim | (obtain ⟨rfl, rfl, rfl⟩ := h; simp)))⟩ ?_
    rintro n s ⟨k, hk, rfl, rfl⟩
    by_cases hlt : k < pw.length
    · obtain ⟨q, hq⟩ : ∃ q, pw[k]? = some q := ⟨_, List.getElem?_eq_getElem hlt⟩
      have hr := row_pwD hq
      have he := eqIntL_ok [q.1, q.2] (by simp)
      (repeat (first | refine WL_nil ?_ | (apply wl0 (hd := rfl); (first | exact qv0 | exact QV_bne Try.underlying4 rfl rfl | exact QV_beq Try.underlying4 rfl rfl | exact qv1); (exact gy0)) | (apply wlb (hd := rfl); (first | exact q_box rfl rfl rfl | exact q_alloc); (exact gy0); rfl) | refine wln ⟨_, rfl, rfl⟩ rfl ?_ | refine wlnu ⟨_, rfl, rfl⟩ rfl ?_ | refine wst rfl rfl rfl List.not_mem_nil rfl rfl rfl rfl rfl rfl ?_ | refine W_seq ?_ | refine W_condT rfl ?_ | refine W_condF rfl ?_ | refine W_region ?_ | refine W_skip ?_ | refine W_ret ?_ | refine W_block ?_ | refine W_exit ?_))
      (refine W_cond rfl (fun hc => ?_) (fun hc => ?_))
      · (repeat (first | refine WL_nil ?_ | (apply wl0 (hd := rfl); (first | exact qv0 | exact QV_bne Try.underlying4 rfl rfl | exact QV_beq Try.underlying4 rfl rfl | exact qv1); (exact gy0)) | (apply wlb (hd := rfl); (first | exact q_box rfl rfl rfl | exact q_alloc); (exact gy0); rfl) | refine wln ⟨_, rfl, rfl⟩ rfl ?_ | refine wlnu ⟨_, rfl, rfl⟩ rfl ?_ | refine wst rfl rfl rfl List.not_mem_nil rfl rfl rfl rfl rfl rfl ?_ | refine W_seq ?_ | refine W_condT rfl ?_ | refine W_condF rfl ?_ | refine W_region ?_ | refine W_skip ?_ | refine W_ret ?_ | refine W_block ?_ | refine W_exit ?_))
        refine wdraw 10 (by kernel_rfl) (by kernel_rfl) (by kernel_rfl) rfl ?_
        (repeat (first | refine HW_nil ?_ | (apply hw0 (hd := rfl); (first | exact qv0 | exact QV_bne Try.underlying4 rfl rfl | exact QV_beq Try.underlying4 rfl rfl | exact qv1 | exact QV_indexAddr rfl rfl rfl rfl hr | exact q_callA (he)); (exact gy0)) | (apply hwb (hd := rfl); (first | exact q_box rfl rfl rfl | exact q_alloc); (exact gy0); rfl) | refine hwn ⟨_, rfl, rfl⟩ rfl ?_ | refine hwnu ⟨_, rfl, rfl⟩ rfl ?_))
        (repeat (first | refine WL_nil ?_ | (apply wl0 (hd := rfl); (first | exact qv0 | exact QV_bne Try.underlying4 rfl rfl | exact QV_beq Try.underlying4 rfl rfl | exact qv1); (exact gy0)) | (apply wlb (hd := rfl); (first | exact q_box rfl rfl rfl | exact q_alloc); (exact gy0); rfl) | refine wln ⟨_, rfl, rfl⟩ rfl ?_ | refine wlnu ⟨_, rfl, rfl⟩ rfl ?_ | refine wst rfl rfl rfl List.not_mem_nil rfl rfl rfl rfl rfl rfl ?_ | refine W_seq ?_ | refine W_condT rfl ?_ | refine W_condF rfl ?_ | refine W_region ?_ | refine W_skip ?_ | refine W_ret ?_ | refine W_block ?_ | refine W_exit ?_))
        refine Exists.intro _ (Exists.intro _ ⟨?_, ⟨k + 1, by omega, rfl, rfl⟩, (weak_mk (by repeat' (first | exact trivial | refine And.intro ?_ ?_ | exact Le.refl | exact Le.nilOwn rfl | exact Le.nilSl | exact Le.ownSl | exact Le.top)) (by repeat' (first | exact trivial | refine And.intro ?_ ?_ | exact ⟨_, rfl, Les.refl _⟩ | exact ⟨_, rfl, by repeat' (first | exact Les.nil | exact Les.cons Le.refl (Les.refl _) | refine Les.cons (by first | exact Le.top | exact Le.refl | exact Le.ownSl | exact Le.nilSl) ?_)⟩)) rfl (by repeat' (first | exact trivial | refine And.intro ?_ ?_ | exact rfl | exact refs_fill (fun _ => rfl) rfl | exact refs_map (fun _ => rfl))) (fun _ _ _ h => by first | exact h.elim | (obtain ⟨rfl, rfl, rfl⟩ := h; simp)))⟩)
        omega
      · simp at hc; omega
    · (repeat (first | refine WL_nil ?_ | (apply wl0 (hd := rfl); (first | exact qv0 | exact QV_bne Try.underlying4 rfl rfl | exact QV_beq Try.underlying4 rfl rfl | exact qv1); (exact gy0)) | (apply wlb (hd := rfl); (first | exact q_box rfl rfl rfl | exact q_alloc); (exact gy0); rfl) | refine wln ⟨_, rfl, rfl⟩ rfl ?_ | refine wlnu ⟨_, rfl, rfl⟩ rfl ?_ | refine wst rfl rfl rfl List.not_mem_nil rfl rfl rfl rfl rfl rfl ?_ | refine W_seq ?_ | refine W_condT rfl ?_ | refine W_condF rfl ?_ | refine W_region ?_ | refine W_skip ?_ | refine W_ret ?_ | refine W_block ?_ | refine W_exit ?_))
      (refine W_cond rfl (fun hc => ?_) (fun hc => ?_))
      · simp at hc; omega
      · (repeat (first | refine WL_nil ?_ | (apply wl0 (hd := rfl); (first | exact qv0 | exact QV_bne Try.underlying4 rfl rfl | exact QV_beq Try.underlying4 rfl rfl | exact qv1); (exact gy0)) | (apply wlb (hd := rfl); (first | exact q_box rfl rfl rfl | exact q_alloc); (exact gy0); rfl) | refine wln ⟨_, rfl, rfl⟩ rfl ?_ | refine wlnu ⟨_, rfl, rfl⟩ rfl ?_ | refine wst rfl rfl rfl List.not_mem_nil rfl rfl rfl rfl rfl rfl ?_ | refine W_seq ?_ | refine W_condT rfl ?_ | refine W_condF rfl ?_ | refine W_region ?_ | refine W_skip ?_ | refine W_ret ?_ | refine W_block ?_ | refine W_exit ?_))
        refine Exists.intro _ ⟨Weak.refl _, Exists.intro _ ⟨resA_tmp rfl rfl, ?_, rfl⟩⟩
        rfl
/-! ### Marks -/
/-- What the marks leave from k on. -/
def mkP (k : Int) (n : Nat) : List (Int × Int) := (List.range n).map fun j : Nat => (k + 2 * j, k + 2 * j + 1)
theorem mkP_len (k : Int) (n : Nat) : (mkP k n).length = n := by simp [mkP]
theorem mkP_at {k : Int} {n j : Nat} (h : j < n) : (mkP k n)[j]? = some (k + 2 * j, k + 2 * j + 1) := by simp [mkP, h]
theorem heldIntSS_ok (n : Nat) (k : Int) (hn : n ≤ 1048576) (hk : 0 ≤ k ∧ k ≤ 1048576) : CallOk Try.prog 83 [.sl 1 ((mkP k n).map pwD), vi k] (fun r => r = vi (k + 2 * n)) := by
  have hlen := mkP_len k n
  refine callOk Try.func83 Try.ntmps83 Try.results83 rfl rfl rfl fun B w0 I0 => ?_
  (repeat (first | refine WL_nil ?_ | (apply wl0 (hd := rfl); (first | exact qv0 | exact QV_bne Try.underlying4 rfl rfl | exact QV_beq Try.underlying4 rfl rfl | exact qv1); (exact gy0)) | (apply wlb (hd := rfl); (first | exact q_box rfl rfl rfl | exact q_alloc); (exact gy0); rfl) | refine wln ⟨_, rfl, rfl⟩ rfl ?_ | refine wlnu ⟨_, rfl, rfl⟩ rfl ?_ | refine wst rfl rfl rfl List.not_mem_nil rfl rfl rfl rfl rfl rfl ?_ | refine W_seq ?_ | refine W_condT rfl ?_ | refine W_condF rfl ?_ | refine W_region ?_ | refine W_skip ?_ | refine W_ret ?_ | refine W_block ?_ | refine W_exit ?_))
  refine W_loop (fun m s => ∃ (i : Nat) (v : Int), i ≤ n ∧ m = n - i ∧ v = k + 2 * i ∧ s = ⟨[(0, .sl 1 ((mkP k n).map pwD)), (1, vi v), (5, vi i)], [], []⟩) ⟨_, _, ⟨0, k, by omega, rfl, by omega, rfl⟩, (weak_mk (by repeat' (first | exact trivial | refine And.intro ?_ ?_ | exact Le.refl | exact Le.nilOwn rfl | exact Le.nilSl | exact Le.ownSl | exact Le.top)) (by repeat' (first | exact trivial | refine And.intro ?_ ?_ | exact ⟨_, rfl, Les.refl _⟩ | exact ⟨_, rfl, by repeat' (first | exact Les.nil | exact Les.cons Le.refl (Les.refl _) | refine Les.cons (by first | exact Le.top | exact Le.refl | exact Le.ownSl | exact Le.nilSl) ?_)⟩)) rfl (by repeat' (first | exact trivial | refine And.intro ?_ ?_ | exact rfl | exact refs_fill (fun _ => rfl) rfl | exact refs_map (fun _ => rfl))) (fun _ _ _ h => by first | exact h.elim | (obtain ⟨rfl, rfl, rfl⟩ := h; simp)))⟩ ?_
  rintro m s ⟨i, v, hi, rfl, hv, rfl⟩
  by_cases hlt : i < n
  · have hr := row_pwD (mkP_at (k := k) hlt)
    have hh := heldIntS_ok 2 v (by omega) (by omega)
    have hm : (mks markInt v 2).map iRow = (pwV (k + 2 * i, k + 2 * i + 1)).map fun v => [.v v] := by subst hv; simp [mks, markInt, List.range_succ]
    rw [hm] at hh
    have c1 : abin .lss .i64 (v + 1 * ((2 : Nat) : Int)) 0 = some (.bool false) := by simp only [abin]; rw [decide_eq_false (by omega)]
    (repeat (first | refine WL_nil ?_ | (apply wl0 (hd := rfl); (first | exact qv0 | exact QV_bne Try.underlying4 rfl rfl | exact QV_beq Try.underlying4 rfl rfl | exact qv1); (exact gy0)) | (apply wlb (hd := rfl); (first | exact q_box rfl rfl rfl | exact q_alloc); (exact gy0); rfl) | refine wln ⟨_, rfl, rfl⟩ rfl ?_ | refine wlnu ⟨_, rfl, rfl⟩ rfl ?_ | refine wst rfl rfl rfl List.not_mem_nil rfl rfl rfl rfl rfl rfl ?_ | refine W_seq ?_ | refine W_condT rfl ?_ | refine W_condF rfl ?_ | refine W_region ?_ | refine W_skip ?_ | refine W_ret ?_ | refine W_block ?_ | refine W_exit ?_))
    (refine W_cond rfl (fun hc => ?_) (fun hc => ?_))
    · (repeat (first | refine WL_nil ?_ | (apply wl0 (hd := rfl); (first | exact QV_bin rfl rfl c1 | exact qv0 | exact QV_bne Try.underlying4 rfl rfl | exact QV_beq Try.underlying4 rfl rfl | exact qv1 | exact QV_indexAddr rfl rfl rfl rfl hr | exact q_callA (hh)); (exact gy0)) | (apply wlb (hd := rfl); (first | exact q_box rfl rfl rfl | exact q_alloc); (exact gy0); rfl) | refine wln ⟨_, rfl, rfl⟩ rfl ?_ | refine wlnu ⟨_, rfl, rfl⟩ rfl ?_ | refine wst rfl rfl rfl List.not_mem_nil rfl rfl rfl rfl rfl rfl ?_ | refine W_seq ?_ | refine W_condT rfl ?_ | refine W_condF rfl ?_ | refine W_region ?_ | refine W_skip ?_ | refine W_ret ?_ | refine W_block ?_ | refine W_exit ?_))
      refine Exists.intro _ (Exists.intro _ ⟨?_, ⟨i + 1, v + 1 * ((2 : Nat) : Int), by omega, rfl, by omega, rfl⟩, (weak_mk (by repeat' (first | exact trivial | refine And.intro ?_ ?_ | exact Le.refl | exact Le.nilOwn rfl | exact Le.nilSl | exact Le.ownSl | exact Le.top)) (by repeat' (first | exact trivial | refine And.intro ?_ ?_ | exact ⟨_, rfl, Les.refl _⟩ | exact ⟨_, rfl, by repeat' (first | exact Les.nil | exact Les.cons Le.refl (Les.refl _) | refine Les.cons (by first | exact Le.top | exact Le.refl | exact Le.ownSl | exact Le.nilSl) ?_)⟩)) rfl (by repeat' (first | exact trivial | refine And.intro ?_ ?_ | exact rfl | exact refs_fill (fun _ => rfl) rfl | exact refs_map (fun _ => rfl))) (fun _ _ _ h => by first | exact h.elim | (obtain ⟨rfl, rfl, rfl⟩ := h; simp)))⟩)
      omega
    · simp at hc; omega
  · (repeat (first | refine WL_nil ?_ | (apply wl0 (hd := rfl); (first | exact qv0 | exact QV_bne Try.underlying4 rfl rfl | exact QV_beq Try.underlying4 rfl rfl | exact qv1); (exact gy0)) | (apply wlb (hd := rfl); (first | exact q_box rfl rfl rfl | exact q_alloc); (exact gy0); rfl) | refine wln ⟨_, rfl, rfl⟩ rfl ?_ | refine wlnu ⟨_, rfl, rfl⟩ rfl ?_ | refine wst rfl rfl rfl List.not_mem_nil rfl rfl rfl rfl rfl rfl ?_ | refine W_seq ?_ | refine W_condT rfl ?_ | refine W_condF rfl ?_ | refine W_region ?_ | refine W_skip ?_ | refine W_ret ?_ | refine W_block ?_ | refine W_exit ?_))
    (refine W_cond rfl (fun hc => ?_) (fun hc => ?_))
    · simp at hc; omega
    · (repeat (first | refine WL_nil ?_ | (apply wl0 (hd := rfl); (first | exact qv0 | exact QV_bne Try.underlying4 rfl rfl | exact QV_beq Try.underlying4 rfl rfl | exact qv1); (exact gy0)) | (apply wlb (hd := rfl); (first | exact q_box rfl rfl rfl | exact q_alloc); (exact gy0); rfl) | refine wln ⟨_, rfl, rfl⟩ rfl ?_ | refine wlnu ⟨_, rfl, rfl⟩ rfl ?_ | refine wst rfl rfl rfl List.not_mem_nil rfl rfl rfl rfl rfl rfl ?_ | refine W_seq ?_ | refine W_condT rfl ?_ | refine W_condF rfl ?_ | refine W_region ?_ | refine W_skip ?_ | refine W_ret ?_ | refine W_block ?_ | refine W_exit ?_))
      refine Exists.intro _ ⟨Weak.refl _, Exists.intro _ ⟨resA_tmp rfl rfl, ?_, rfl⟩⟩
      have hi' : i = n := by omega
      rw [hv, hi']
      rfl
/-- The arrays of which the first i are marked. -/
def mkL (k : Int) (i : Nat) (L : List (Nat × List Value)) : List (Nat × List Value) := (List.range L.length).map fun j => ((L.getD j (0, [])).1, if j < i then pwV (k + 2 * j, k + 2 * j + 1) else (L.getD j (0, [])).2)
theorem mkL_zero (k : Int) (L : List (Nat × List Value)) : mkL k 0 L = L := by
  apply List.ext_getElem
  · simp [mkL]
  · intro j h1 h2
    simp [mkL, h2]
theorem mkL_mem {k : Int} {i : Nat} {L : List (Nat × List Value)} {p : Nat × List Value} (h : p ∈ mkL k i L) : ∃ j, ∃ hj : j < L.length, p = (L[j].1, if j < i then pwV (k + 2 * j, k + 2 * j + 1) else L[j].2) := by
  simp only [mkL, List.mem_map, List.mem_range] at h
  obtain ⟨j, hj, rfl⟩ := h
  exact ⟨j, hj, by simp [hj]⟩
theorem mem_mkL {k : Int} {i : Nat} {L : List (Nat × List Value)} {j : Nat} (hj : j < L.length) : (L[j].1, if j < i then pwV (k + 2 * j, k + 2 * j + 1) else L[j].2) ∈ mkL k i L := by
  simp only [mkL, List.mem_map, List.mem_range]
  exact ⟨j, hj, by simp [hj]⟩
/-- All marked. -/
theorem mkL_all (k : Int) (L : List (Nat × List Value)) : (mkL k L.length L).map (·.2) = (mkP k L.length).map pwV := by
  simp only [mkL, mkP, List.map_map]
  apply List.map_congr_left
  intro j hj
  simp [List.mem_range.1 hj]
theorem pwJ_at {pw : List (Int × Int)} {L : List (Nat × List Value)} (h : pwJ pw L) {j : Nat} (hj : j < L.length) : ∃ q, L[j].2 = pwV q := by
  have h1 : (L.map (·.2))[j]? = some L[j].2 := by simp [hj]
  rw [h.1, List.getElem?_map] at h1
  obtain ⟨q, _, hq⟩ := Option.map_eq_some_iff.1 h1
  exact ⟨q, hq.symm⟩
theorem pwJ_ne {pw : List (Int × Int)} {L : List (Nat × List Value)} (h : pwJ pw L) {i j : Nat} (hi : i < L.length) (hj : j < L.length) (hij : i ≠ j) : L[i].1 ≠ L[j].1 := by
  have h2 := List.pairwise_iff_getElem.1 h.2
  rcases Nat.lt_or_ge i j with h3 | h3
  · have := h2 i j hi hj h3; omega
  · have := h2 j i hj hi (by omega); omega
theorem mkL_raw {pw : List (Int × Int)} {L : List (Nat × List Value)} (h : pwJ pw L) (k : Int) (i : Nat) : (mkL k i L).map rawA = L.map rawA := by
  apply List.ext_getElem
  · simp [mkL]
  · intro j h1 h2
    simp at h2
    obtain ⟨q, hq⟩ := pwJ_at h h2
    simp only [mkL, List.getElem_map, List.getElem_range, List.getD_eq_getElem?_getD, List.getElem?_eq_getElem h2, Option.getD_some, hq, rawA]
    split <;> rfl
theorem mkL_dat (k : Int) (L : List (Nat × List Value)) : (mkL k L.length L).map datA = (mkP k L.length).map pwD := by
  have : (mkL k L.length L).map datA = ((mkL k L.length L).map (·.2)).map fun vs => [.sl 1 (vs.map fun v => [.v v])] := by rw [List.map_map]; rfl
  rw [this, mkL_all, List.map_map]; rfl
theorem markIntSS_raw {pw : List (Int × Int)} {L : List (Nat × List Value)} (hJ : pwJ pw L) (k : Int) (hn : L.length ≤ 1048576) (hk : 0 ≤ k ∧ k ≤ 1048576) {I : Nat → Nat → Prop} {w : World} {vals : Array Value} (hI : ∀ b o, I b o → (w.cell? ⟨b, o, none⟩).isSome = true) (hobs : ∀ p ∈ L, w.heap[p.1]? = some (objA 3 p).2) (hdis : ∀ p ∈ L, ∀ o, ¬ I p.1 o) (hargs : dreps I w [.sl 1 (L.map rawA), vi k] vals.toList) :
    Calls Try.prog 82 vals w fun e w' => e = .returned (.int .i64 (k + 2 * L.length)) ∧ BelowM w.heap.size (fun b => ∃ p ∈ L, p.1 = b) w w' ∧ ∀ p ∈ (mkL k L.length L).map (objA 3), w'.heap[p.1]? = some p.2 := by
  refine callsIn_wide.1 (callsIn_of_WK (n := 0) (args := [.sl 1 (L.map rawA), vi k]) Try.func82 Try.ntmps82 Try.results82 rfl rfl rfl hI (reps_of_dreps (g := gh0 I) hargs) fun fn hrs => ?_)
  have hR0 : Rt w I (fun b => ∃ p ∈ L, p.1 = b) w (fun _ => False) I ((mkL k 0 L).map (objA 3)) := by
    rw [mkL_zero]
    refine ⟨BelowM.refl _ _ _, fun _ h => h.elim, fun _ _ h => h, fun _ _ h => .inl h, fun p hp => ?_⟩
    obtain ⟨q, hq, rfl⟩ := List.mem_map.1 hp
    exact ⟨hobs q hq, hdis q hq, .inr ⟨q, hq, rfl⟩, fun h => h⟩
  have hlen : (L.map rawA).length = L.length := by simp
  refine WK_seqN ?_
  (repeat (first | refine WL_nil ?_ | (apply wl0 (hd := rfl); (first | exact qv0 | exact QV_bne Try.underlying4 rfl rfl | exact QV_beq Try.underlying4 rfl rfl | exact qv1); (exact gy0)) | (apply wlb (hd := rfl); (first | exact q_box rfl rfl rfl | exact q_alloc); (exact gy0); rfl) | refine wln ⟨_, rfl, rfl⟩ rfl ?_ | refine wlnu ⟨_, rfl, rfl⟩ rfl ?_ | refine wst rfl rfl rfl List.not_mem_nil rfl rfl rfl rfl rfl rfl ?_ | refine W_seq ?_ | refine W_condT rfl ?_ | refine W_condF rfl ?_ | refine W_region ?_ | refine W_skip ?_ | refine W_ret ?_ | refine W_block ?_ | refine W_exit ?_))
  refine ⟨rfl, WK_seqL (WK_seqN ?_)⟩
  (repeat (first | refine WL_nil ?_ | (apply wl0 (hd := rfl); (first | exact qv0 | exact QV_bne Try.underlying4 rfl rfl | exact QV_beq Try.underlying4 rfl rfl | exact qv1); (exact gy0)) | (apply wlb (hd := rfl); (first | exact q_box rfl rfl rfl | exact q_alloc); (exact gy0); rfl) | refine wln ⟨_, rfl, rfl⟩ rfl ?_ | refine wlnu ⟨_, rfl, rfl⟩ rfl ?_ | refine wst rfl rfl rfl List.not_mem_nil rfl rfl rfl rfl rfl rfl ?_ | refine W_seq ?_ | refine W_condT rfl ?_ | refine W_condF rfl ?_ | refine W_region ?_ | refine W_skip ?_ | refine W_ret ?_ | refine W_block ?_ | refine W_exit ?_))
  refine ⟨rfl, WK_block (WK_loopO (M0 := fun b => ∃ p ∈ L, p.1 = b) (fun i => i ≤ L.length) (fun i => L.length - i) (fun i => ⟨[(0, .sl 1 (L.map rawA)), (1, vi (k + 2 * i)), (5, vi i)], [], []⟩) (fun i => (mkL k i L).map (objA 3)) 0 hR0 (Nat.zero_le _) (by rw [show k + 2 * ((0 : Nat) : Int) = k by omega]; exact (weak_mk (by repeat' (first | exact trivial | refine And.intro ?_ ?_ | exact Le.refl | exact Le.nilOwn rfl | exact Le.nilSl | exact Le.ownSl | exact Le.top)) (by repeat' (first | exact trivial | refine And.intro ?_ ?_ | exact ⟨_, rfl, Les.refl _⟩ | exact ⟨_, rfl, by repeat' (first | exact Les.nil | exact Les.cons Le.refl (Les.refl _) | refine Les.cons (by first | exact Le.top | exact Le.refl | exact Le.ownSl | exact Le.nilSl) ?_)⟩)) rfl (by repeat' (first | exact trivial | refine And.intro ?_ ?_ | exact rfl | exact refs_fill (fun _ => rfl) rfl | exact refs_map (fun _ => rfl))) (fun _ _ _ h => by first | exact h.elim | (obtain ⟨rfl, rfl, rfl⟩ := h; simp)))) ?_)⟩
  rintro i hi w1 M1 I1 hR
  by_cases hlt : i < L.length
  · obtain ⟨q, hq⟩ := pwJ_at hJ hlt
    have hrow : (L.map rawA)[i]? = some [.v (.slice (some ⟨L[i].1, 0, none⟩) 2 2)] := by
      rw [List.getElem?_map, List.getElem?_eq_getElem hlt]
      simp only [Option.map_some, rawA, hq]
      rfl
    obtain ⟨v, hv⟩ : ∃ v, v = k + 2 * (i : Int) := ⟨_, rfl⟩
    simp only [← hv]
    have hm := markIntS_ok [q.1, q.2] v (by simp) (by omega)
    refine WK_seqL (WK_seqN ?_)
    (repeat (first | refine WL_nil ?_ | (apply wl0 (hd := rfl); (first | exact qv0 | exact QV_bne Try.underlying4 rfl rfl | exact QV_beq Try.underlying4 rfl rfl | exact qv1); (exact gy0)) | (apply wlb (hd := rfl); (first | exact q_box rfl rfl rfl | exact q_alloc); (exact gy0); rfl) | refine wln ⟨_, rfl, rfl⟩ rfl ?_ | refine wlnu ⟨_, rfl, rfl⟩ rfl ?_ | refine wst rfl rfl rfl List.not_mem_nil rfl rfl rfl rfl rfl rfl ?_ | refine W_seq ?_ | refine W_condT rfl ?_ | refine W_condF rfl ?_ | refine W_region ?_ | refine W_skip ?_ | refine W_ret ?_ | refine W_block ?_ | refine W_exit ?_))
    refine ⟨rfl, WK_cond rfl (fun _ => WK_skip (kQ_then (WK_seqL (WK_block (WK_region (WLK_cut 5 ?_)))))) (fun h => absurd h (by simp; omega))⟩
    (repeat (first | refine WL_nil ?_ | (apply wl0 (hd := rfl); (first | exact qv0 | exact QV_bne Try.underlying4 rfl rfl | exact QV_beq Try.underlying4 rfl rfl | exact qv1 | exact QV_indexAddr rfl rfl rfl rfl hrow); (exact gy0)) | (apply wlb (hd := rfl); (first | exact q_box rfl rfl rfl | exact q_alloc); (exact gy0); rfl) | refine wln ⟨_, rfl, rfl⟩ rfl ?_ | refine wlnu ⟨_, rfl, rfl⟩ rfl ?_ | refine wst rfl rfl rfl List.not_mem_nil rfl rfl rfl rfl rfl rfl ?_ | refine W_seq ?_ | refine W_condT rfl ?_ | refine W_condF rfl ?_ | refine W_region ?_ | refine W_skip ?_ | refine W_ret ?_ | refine W_block ?_ | refine W_exit ?_))
    refine ⟨rfl, WLK_opB hR rfl rfl fun g a wr hI hobs => ?_⟩
    have e1 : rep g wr (.v (.slice (some ⟨L[i].1, 0, none⟩) 2 2)) (a.eval (.tmp 15)) := rep_ev hI.tm (.tmp 15)
    have e2 : rep g wr (vi v) (a.eval (.tmp 16)) := rep_ev hI.tm (.tmp 16)
    simp only [rep] at e1 e2
    have hb : wr.heap[L[i].1]? = some (.cells #[.int .i64 q.1, .int .i64 q.2] 3 (0, 0)) := by
      have := hobs _ (List.mem_map.2 ⟨_, mem_mkL (k := k) (i := i) hlt, rfl⟩)
      simpa [hq] using this
    refine upon_callF rfl (vals := #[.slice (some ⟨L[i].1, 0, none⟩) 2 2, .int .i64 v]) (by simp [e1, e2]) ?_
    refine (hm wr L[i].1 #[.slice (some ⟨L[i].1, 0, none⟩) 2 2, .int .i64 v] #[.int .i64 q.1, .int .i64 q.2] [] (fun r hr => by simp at hr) hb (by simp [reps, rep]) (by simp [reps, rep, gM])).mono ?_
    rintro e' w' ⟨rfl, hB, arr', h1, g', h2⟩
    have h3 : arr' = #[.int .i64 v, .int .i64 (v + 1)] := by
      have h4 : ((mks markInt v [q.1, q.2].length).map iRow ++ ([] : List (List AV))).flatten = [Value.int .i64 v, .int .i64 (v + 1)].map AV.v := by simp [mks, markInt, List.range_succ]
      rw [h4] at h2
      apply Array.ext'
      simpa using reps_vals h2
    rw [h3] at h1
    refine ⟨_, rfl, (mkL k (i + 1) L).map (objA 3), hB.mono fun c hc => ?_, fun p hp => ?_, fun M2 I2 hR => ?_⟩
    · subst hc
      exact ⟨_, List.mem_map.2 ⟨_, mem_mkL (k := k) (i := i) hlt, rfl⟩⟩
    · obtain ⟨p', hp', rfl⟩ := List.mem_map.1 hp
      obtain ⟨j, hj, rfl⟩ := mkL_mem hp'
      refine ⟨?_, .inl ⟨_, List.mem_map.2 ⟨_, mem_mkL (k := k) (i := i) hj, rfl⟩⟩⟩
      by_cases hij : i = j
      · subst hij
        have hv1 : (v + 1 : Int) = k + 2 * (i : Int) + 1 := by omega
        rw [hv1, hv] at h1
        simpa using h1
      · have h4 := hobs _ (List.mem_map.2 ⟨_, mem_mkL (k := k) (i := i) hj, rfl⟩)
        have h5 := hB.block L[j].1 (Array.getElem?_eq_some_iff.1 h4).1 (fun e => pwJ_ne hJ hlt hj hij e.symm)
        have e6 : (j < i + 1) ↔ (j < i) := by omega
        simp only [e6]
        exact h5.trans h4
    · refine WLK_of ?_
      (repeat (first | refine WL_nil ?_ | (apply wl0 (hd := rfl); (first | exact qv0 | exact QV_bne Try.underlying4 rfl rfl | exact QV_beq Try.underlying4 rfl rfl | exact qv1); (exact gy0)) | (apply wlb (hd := rfl); (first | exact q_box rfl rfl rfl | exact q_alloc); (exact gy0); rfl) | refine wln ⟨_, rfl, rfl⟩ rfl ?_ | refine wlnu ⟨_, rfl, rfl⟩ rfl ?_ | refine wst rfl rfl rfl List.not_mem_nil rfl rfl rfl rfl rfl rfl ?_ | refine W_seq ?_ | refine W_condT rfl ?_ | refine W_condF rfl ?_ | refine W_region ?_ | refine W_skip ?_ | refine W_ret ?_ | refine W_block ?_ | refine W_exit ?_))
      refine kQ_blk (kQ_then (WK_of ?_))
      (repeat (first | refine WL_nil ?_ | (apply wl0 (hd := rfl); (first | exact qv0 | exact QV_bne Try.underlying4 rfl rfl | exact QV_beq Try.underlying4 rfl rfl | exact qv1); (exact gy0)) | (apply wlb (hd := rfl); (first | exact q_box rfl rfl rfl | exact q_alloc); (exact gy0); rfl) | refine wln ⟨_, rfl, rfl⟩ rfl ?_ | refine wlnu ⟨_, rfl, rfl⟩ rfl ?_ | refine wst rfl rfl rfl List.not_mem_nil rfl rfl rfl rfl rfl rfl ?_ | refine W_seq ?_ | refine W_condT rfl ?_ | refine W_condF rfl ?_ | refine W_region ?_ | refine W_skip ?_ | refine W_ret ?_ | refine W_block ?_ | refine W_exit ?_))
      have ev : v + 1 * (([q.1, q.2].length : Nat) : Int) = k + 2 * ((i + 1 : Nat) : Int) := by simp; omega
      simp only [ev]
      exact kQ_next (M0 := fun b => ∃ p ∈ L, p.1 = b) (i + 1) hlt (by omega) hR rfl (weak_mk (by repeat' (first | exact trivial | refine And.intro ?_ ?_ | exact Le.refl | exact Le.nilOwn rfl | exact Le.nilSl | exact Le.ownSl | exact Le.top)) (by repeat' (first | exact trivial | refine And.intro ?_ ?_ | exact ⟨_, rfl, Les.refl _⟩ | exact ⟨_, rfl, by repeat' (first | exact Les.nil | exact Les.cons Le.refl (Les.refl _) | refine Les.cons (by first | exact Le.top | exact Le.refl | exact Le.ownSl | exact Le.nilSl) ?_)⟩)) rfl (by repeat' (first | exact trivial | refine And.intro ?_ ?_ | exact rfl | exact refs_fill (fun _ => rfl) rfl | exact refs_map (fun _ => rfl))) (fun _ _ _ h => by first | exact h.elim | (obtain ⟨rfl, rfl, rfl⟩ := h; simp)))
  · have hi' : i = L.length := by omega
    subst hi'
    refine WK_seqL (WK_seqN ?_)
    (repeat (first | refine WL_nil ?_ | (apply wl0 (hd := rfl); (first | exact qv0 | exact QV_bne Try.underlying4 rfl rfl | exact QV_beq Try.underlying4 rfl rfl | exact qv1); (exact gy0)) | (apply wlb (hd := rfl); (first | exact q_box rfl rfl rfl | exact q_alloc); (exact gy0); rfl) | refine wln ⟨_, rfl, rfl⟩ rfl ?_ | refine wlnu ⟨_, rfl, rfl⟩ rfl ?_ | refine wst rfl rfl rfl List.not_mem_nil rfl rfl rfl rfl rfl rfl ?_ | refine W_seq ?_ | refine W_condT rfl ?_ | refine W_condF rfl ?_ | refine W_region ?_ | refine W_skip ?_ | refine W_ret ?_ | refine W_block ?_ | refine W_exit ?_))
    refine ⟨rfl, WK_cond rfl (fun h => absurd h (by simp)) (fun _ => WK_exit (kQ_thenE (kQ_nextE (kQ_exit (kQ_then (WK_of ?_))))))⟩
    (repeat (first | refine WL_nil ?_ | (apply wl0 (hd := rfl); (first | exact qv0 | exact QV_bne Try.underlying4 rfl rfl | exact QV_beq Try.underlying4 rfl rfl | exact qv1); (exact gy0)) | (apply wlb (hd := rfl); (first | exact q_box rfl rfl rfl | exact q_alloc); (exact gy0); rfl) | refine wln ⟨_, rfl, rfl⟩ rfl ?_ | refine wlnu ⟨_, rfl, rfl⟩ rfl ?_ | refine wst rfl rfl rfl List.not_mem_nil rfl rfl rfl rfl rfl rfl ?_ | refine W_seq ?_ | refine W_condT rfl ?_ | refine W_condF rfl ?_ | refine W_region ?_ | refine W_skip ?_ | refine W_ret ?_ | refine W_block ?_ | refine W_exit ?_))
    exact fun g a w hi => leaves_plain hrs hR hi (resA_tmp rfl rfl) fun h1 h2 => ⟨rfl, h1, h2⟩
end Go.Proofs.Ytkadjimnamcjbaa
