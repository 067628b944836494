/- Forces that are chosen suit all piers, and stronger piers never harm. (P23) -/
import Derived.Test.YtikbndfbjgdldaaABf
import Derived.Test.YtikbndfbjgdldaaAAt
import Derived.Test.YtikbndfbjgdldaaACode
namespace Go.Proofs.Ytikbndfbjgdldaa
open Go.ChangeShapes Go.WideShapes Go.ChangeAt Go.RowKit Go.Deep Go.Eng

theorem spanB_iff {s : T3} : spanB s = true ↔ (0 ≤ s.a ∧ s.a ≤ 10000) ∧ (s.a ≤ s.b ∧ s.b ≤ 10000) ∧ 0 ≤ s.c ∧ s.c ≤ 10000 := by
  simp only [spanB, Bool.and_eq_true, inR_true]
  constructor <;> (intro h; omega)
theorem lone_spans {s : T3} {r : List T3} {x : Int} (h : spansB (s :: r) = true) (hx : s.a ≤ x ∧ x ≤ s.b) : spansB (lone x (s :: r)) = true := by
  simp only [spansB, lone, List.length_cons, List.all_cons, Bool.and_eq_true] at h ⊢
  obtain ⟨h1, h2, h3⟩ := h
  have := spanB_iff.1 h2
  exact ⟨h1, spanB_iff.2 (by simp only; omega), h3⟩
theorem str_spans {xs : List T3} (h : spansB xs = true) (hc : ∀ s ∈ xs, s.c < 14) : spansB (xs.map str) = true := by
  simp only [spansB, Bool.and_eq_true, List.length_map, List.all_eq_true] at h ⊢
  refine ⟨h.1, fun q hq => ?_⟩
  obtain ⟨s, hs, rfl⟩ := List.mem_map.1 hq
  have := spanB_iff.1 (h.2 s hs)
  have := hc s hs
  exact spanB_iff.2 (by simp only [str]; omega)
theorem drawn_spans {xs : List T3} (hl : 1 ≤ xs.length ∧ xs.length ≤ 6) (h : ∀ s ∈ xs, SpanD s) : spansB xs = true := by
  simp only [spansB, Bool.and_eq_true, List.all_eq_true, inR_true]
  refine ⟨by omega, fun s hs => spanB_iff.2 ?_⟩
  have := h s hs
  unfold SpanD at this
  omega
/-- The first force alone: which do. -/
theorem lone_iff {s : T3} {r : List T3} {x : Int} (h : spansB (s :: r) = true) (hx : s.a ≤ x ∧ x ≤ s.b) : bridgeB (lone x (s :: r)) = true ↔ ((atR (backs (s :: r)) 0).a ≤ x ∧ x ≤ (atR (backs (s :: r)) 0).b) ∧ ∀ i, i + 1 < (s :: r).length → (atR (backs (s :: r)) (i + 1)).a ≤ (atR (backs (s :: r)) (i + 1)).b := by
  rw [bridgeB, lone_spans h hx, Bool.true_and, lone_ok x s r hx]
set_option maxRecDepth 100000
attribute [local irreducible] QV TV WL HW W CallOk Weak
set_option maxHeartbeats 4000000 in
theorem law_FnBridges (l : List Int) (hu : ∀ x ∈ l, isU8 x) (_hlen : l.length ≤ 9223372036854775807) : CallOk Try.prog 3 [slU l] (fun r => r = vb true) := by
  refine callOk Try.func3 Try.ntmps3 Try.results3 rfl rfl rfl fun B w0 I0 => ?_
  (repeat (first | refine WL_nil ?_ | (apply wl0 (hd := rfl); (first | exact qv0 | exact QV_bne Try.underlying4 rfl rfl | exact QV_beq Try.underlying4 rfl rfl | exact qv1 | exact q_callA (lbig_ok l)); (exact gy0)) | (apply wlb (hd := rfl); (first | exact q_box rfl rfl rfl | exact q_alloc); (exact gy0); rfl) | refine wln ⟨_, rfl, rfl⟩ rfl ?_ | refine wlnu ⟨_, rfl, rfl⟩ rfl ?_ | refine wst rfl rfl rfl List.not_mem_nil rfl rfl rfl rfl rfl rfl ?_ | refine W_seq ?_ | refine W_condT rfl ?_ | refine W_condF rfl ?_ | refine W_region ?_ | refine W_skip ?_ | refine W_ret ?_ | refine W_block ?_ | refine W_exit ?_))
  (refine W_cond rfl (fun hc => ?_) (fun hc => ?_))
  · (repeat (first | refine WL_nil ?_ | (apply wl0 (hd := rfl); (first | exact qv0 | exact QV_bne Try.underlying4 rfl rfl | exact QV_beq Try.underlying4 rfl rfl | exact qv1); (exact gy0)) | (apply wlb (hd := rfl); (first | exact q_box rfl rfl rfl | exact q_alloc); (exact gy0); rfl) | refine wln ⟨_, rfl, rfl⟩ rfl ?_ | refine wlnu ⟨_, rfl, rfl⟩ rfl ?_ | refine wst rfl rfl rfl List.not_mem_nil rfl rfl rfl rfl rfl rfl ?_ | refine W_seq ?_ | refine W_condT rfl ?_ | refine W_condF rfl ?_ | refine W_region ?_ | refine W_skip ?_ | refine W_ret ?_ | refine W_block ?_ | refine W_exit ?_))
    refine Exists.intro _ ⟨Weak.refl _, Exists.intro _ ⟨resA_tmp rfl rfl, ?_, rfl⟩⟩
    rfl
  · have hl : Bts l := ⟨hu, by simp at hc; omega⟩
    clear hc
    (repeat (first | refine WL_nil ?_ | (apply wl0 (hd := rfl); (first | exact qv0 | exact QV_bne Try.underlying4 rfl rfl | exact QV_beq Try.underlying4 rfl rfl | exact qv1); (exact gy0)) | (apply wlb (hd := rfl); (first | exact q_box rfl rfl rfl | exact q_alloc); (exact gy0); rfl) | refine wln ⟨_, rfl, rfl⟩ rfl ?_ | refine wlnu ⟨_, rfl, rfl⟩ rfl ?_ | refine wst rfl rfl rfl List.not_mem_nil rfl rfl rfl rfl rfl rfl ?_ | refine W_seq ?_ | refine W_condT rfl ?_ | refine W_condF rfl ?_ | refine W_region ?_ | refine W_skip ?_ | refine W_ret ?_ | refine W_block ?_ | refine W_exit ?_))
    refine wlc (drawSpans_ok l hl) rfl (by (repeat' (first | exact LeDs.nil | refine LeDs.cons (by first | exact LeD.v | exact LeD.sl | exact LeD.own | exact LeD.nil | exact LeD.top) ?_ | refine LeDs.agg ?_ ?_)); first | done | fail "open") (fun r ⟨_, _, _, hr⟩ => by subst hr; rfl) rfl (fun r hR => ?_)
    obtain ⟨xs, hn6, hsd, rfl⟩ := hR
    have hsp := drawn_spans hn6 hsd
    obtain ⟨hal, h0, h10⟩ := spans_all hsp
    obtain ⟨s, r, hxs⟩ : ∃ s r, xs = s :: r := by
      cases xs with
      | nil => simp at h0
      | cons s r => exact ⟨s, r, rfl⟩
    have e0 : atS xs 0 = s := by rw [hxs]; rfl
    have hs0 := atS_lt (xs := xs) (i := 0) (by omega)
    rw [e0] at hs0
    have hb0 := spans_cs hal (i := 0) (by omega)
    rw [e0] at hb0
    have c1 := cSpansOk xs (by omega)
    rw [hsp] at c1
    have cB := cBridge xs (by omega)
    have cL : ∀ x, s.a ≤ x → x ≤ s.b → CallOk Try.prog 11 [sl3 xs, vi x] (fun q => q = vb (bridgeB (lone x xs))) := fun x hx1 hx2 => by
      have := loneSpans_ok s r x (by rw [← hxs]; exact hsp) (inR_true.2 ⟨hx1, hx2⟩)
      rwa [← hxs] at this
    have lI : ∀ x, s.a ≤ x → x ≤ s.b → (bridgeB (lone x xs) = true ↔ ((atR (backs xs) 0).a ≤ x ∧ x ≤ (atR (backs xs) 0).b) ∧ ∀ i, i + 1 < xs.length → (atR (backs xs) (i + 1)).a ≤ (atR (backs xs) (i + 1)).b) := fun x hx1 hx2 => by
      have := lone_iff (x := x) (by rw [← hxs]; exact hsp) ⟨hx1, hx2⟩
      rwa [← hxs] at this
    clear hxs
    cases hok : (backs xs).all rangeOk
    · have cF := bridgeForces_no xs hsp hok
      rw [bridgeB, hsp, hok, Bool.and_false] at cB
      have lF : ∀ x, s.a ≤ x → x ≤ s.b → bridgeB (lone x xs) = false := fun x hx1 hx2 => by
        cases h : bridgeB (lone x xs)
        · rfl
        · exfalso
          obtain ⟨k1, k2⟩ := (lI x hx1 hx2).1 h
          have : (backs xs).all rangeOk = true := range_all fun i hi => by
            cases i with
            | zero => omega
            | succ i => exact k2 i hi
          rw [hok] at this; cases this
      (repeat (first | refine WL_nil ?_ | (apply wl0 (hd := rfl); (first | exact qv0 | exact QV_bne Try.underlying4 rfl rfl | exact QV_beq Try.underlying4 rfl rfl | exact qv1 | exact q_callA (cF)); (exact gy0)) | (apply wlb (hd := rfl); (first | exact q_box rfl rfl rfl | exact q_alloc); (exact gy0); rfl) | refine wln ⟨_, rfl, rfl⟩ rfl ?_ | refine wlnu ⟨_, rfl, rfl⟩ rfl ?_ | (apply wln1 (hd := rfl); exact q_buildSlice 20 rfl rfl rfl rfl; (exact gy0); rfl) | refine wst rfl rfl rfl List.not_mem_nil rfl rfl rfl rfl rfl rfl ?_ | refine W_seq ?_ | refine W_condT rfl ?_ | refine W_condF rfl ?_ | refine W_region ?_ | refine W_skip ?_ | refine W_ret ?_ | refine W_block ?_ | refine W_exit ?_))
      refine W_loop (fun n q => ∃ (k : Nat) (rows : List (List AV)), k ≤ xs.length ∧ n = xs.length - k ∧ rows = ((xs.take k).map str).map row3 ∧ q = ⟨[(3, sl3 xs), (4, (.v (.slice none 0 0))), (5, vb false), (6, .own 20 30 3 rows), (7, vi k)], [], [20]⟩) ⟨_, _, ⟨0, [], by omega, rfl, rfl, rfl⟩, (weak_mk (by repeat' (first | exact trivial | refine And.intro ?_ ?_ | exact Le.refl | exact Le.nilOwn rfl | exact Le.nilSl | exact Le.ownSl | exact Le.top)) (by repeat' (first | exact trivial | refine And.intro ?_ ?_ | exact ⟨_, rfl, Les.refl _⟩ | exact ⟨_, rfl, by repeat' (first | exact Les.nil | exact Les.cons Le.refl (Les.refl _) | refine Les.cons (by first | exact Le.top | exact Le.refl | exact Le.ownSl | exact Le.nilSl) ?_)⟩)) rfl (by repeat' (first | exact trivial | refine And.intro ?_ ?_ | exact rfl | exact refs_fill (fun _ => rfl) rfl | exact refs_map (fun _ => rfl))) (fun _ _ _ h => by first | exact h.elim | (obtain ⟨rfl, rfl, rfl⟩ := h; simp)))⟩ ?_
      rintro n q ⟨k, rows, hk, rfl, hrows, rfl⟩
      have hrl : rows.length = k := by rw [hrows]; simp; omega
      by_cases hlt : k < xs.length
      · have d1 : abin .lss .i64 (k : Int) (xs.length : Int) = some (.bool true) := by simp [abin]; omega
        have hs := atS_lt hlt
        have hb := spans_cs hal hlt
        have hw : rows.length + [row3 (str (atS xs k))].length ≤ 1048576 := by simp only [List.length_cons, List.length_nil]; omega
        (repeat (first | refine WL_nil ?_ | (apply wl0 (hd := rfl); (first | exact QV_bin rfl rfl d1 | exact qv0 | exact QV_bne Try.underlying4 rfl rfl | exact QV_beq Try.underlying4 rfl rfl | exact qv1); (exact gy0)) | (apply wlb (hd := rfl); (first | exact q_box rfl rfl rfl | exact q_alloc); (exact gy0); rfl) | refine wln ⟨_, rfl, rfl⟩ rfl ?_ | refine wlnu ⟨_, rfl, rfl⟩ rfl ?_ | refine wst rfl rfl rfl List.not_mem_nil rfl rfl rfl rfl rfl rfl ?_ | refine W_seq ?_ | refine W_condT rfl ?_ | refine W_condF rfl ?_ | refine W_region ?_ | refine W_skip ?_ | refine W_ret ?_ | refine W_block ?_ | refine W_exit ?_))
        refine wdraw 19 (by kernel_rfl) (by kernel_rfl) (by kernel_rfl) rfl ?_
        (repeat (first | refine HW_nil ?_ | (apply hw0 (hd := rfl); (first | exact qv0 | exact QV_bne Try.underlying4 rfl rfl | exact QV_beq Try.underlying4 rfl rfl | exact qv1 | exact QV_indexAddr rfl rfl rfl rfl (row_at hs)); (exact gy0)) | (apply hwb (hd := rfl); (first | exact q_box rfl rfl rfl | exact q_alloc); (exact gy0); rfl) | refine hwn ⟨_, rfl, rfl⟩ rfl ?_ | refine hwnu ⟨_, rfl, rfl⟩ rfl ?_ | (apply hwn1 (hd := rfl); exact q_buildSlice 45 rfl rfl rfl rfl; (exact gy0); rfl)))
        (repeat (first | refine WL_nil ?_ | (apply wl0 (hd := rfl); (first | exact qv0 | exact QV_bne Try.underlying4 rfl rfl | exact QV_beq Try.underlying4 rfl rfl | exact qv1); (exact gy0)) | (apply wlb (hd := rfl); (first | exact q_box rfl rfl rfl | exact q_alloc); (exact gy0); rfl) | refine wln ⟨_, rfl, rfl⟩ rfl ?_ | refine wlnu ⟨_, rfl, rfl⟩ rfl ?_ | refine wst rfl rfl rfl List.not_mem_nil rfl rfl rfl rfl rfl rfl ?_ | refine wapp (rows2 := [row3 (str (atS xs k))]) rfl rfl rfl (row3_cells _) (row3_lens _) hw rfl rfl rfl rfl ?_ | refine W_seq ?_ | refine W_condT rfl ?_ | refine W_condF rfl ?_ | refine W_region ?_ | refine W_skip ?_ | refine W_ret ?_ | refine W_block ?_ | refine W_exit ?_))
        refine Exists.intro _ (Exists.intro _ ⟨?_, ⟨k + 1, rows ++ [row3 (str (atS xs k))], by omega, rfl, by rw [hrows, List.take_add_one, hs]; simp, rfl⟩, (weak_mk (by repeat' (first | exact trivial | refine And.intro ?_ ?_ | exact Le.refl | exact Le.nilOwn rfl | exact Le.nilSl | exact Le.ownSl | exact Le.top)) (by repeat' (first | exact trivial | refine And.intro ?_ ?_ | exact ⟨_, rfl, Les.refl _⟩ | exact ⟨_, rfl, by repeat' (first | exact Les.nil | exact Les.cons Le.refl (Les.refl _) | refine Les.cons (by first | exact Le.top | exact Le.refl | exact Le.ownSl | exact Le.nilSl) ?_)⟩)) rfl (by repeat' (first | exact trivial | refine And.intro ?_ ?_ | exact rfl | exact refs_fill (fun _ => rfl) rfl | exact refs_map (fun _ => rfl))) (fun _ _ _ h => by first | exact h.elim | (obtain ⟨rfl, rfl, rfl⟩ := h; simp)))⟩)
        omega
      have d1 : abin .lss .i64 (k : Int) (xs.length : Int) = some (.bool false) := by simp [abin]; omega
      have hk' : k = xs.length := by omega
      subst hk'
      rw [List.take_length] at hrows
      subst hrows
      (repeat (first | refine WL_nil ?_ | (apply wl0 (hd := rfl); (first | exact QV_bin rfl rfl d1 | exact qv0 | exact QV_bne Try.underlying4 rfl rfl | exact QV_beq Try.underlying4 rfl rfl | exact qv1 | exact q_callA (cB) | exact q_callA (c1) | exact QV_indexAddr rfl rfl rfl rfl (row_at hs0)); (exact gy0)) | (apply wlb (hd := rfl); (first | exact q_box rfl rfl rfl | exact q_alloc); (exact gy0); rfl) | refine wln ⟨_, rfl, rfl⟩ rfl ?_ | refine wlnu ⟨_, rfl, rfl⟩ rfl ?_ | refine wst rfl rfl rfl List.not_mem_nil rfl rfl rfl rfl rfl rfl ?_ | refine W_seq ?_ | refine W_condT rfl ?_ | refine W_condF rfl ?_ | refine W_region ?_ | refine W_skip ?_ | refine W_ret ?_ | refine W_block ?_ | refine W_exit ?_))
      refine W_loop (fun n q => ∃ x : Int, s.a ≤ x ∧ n = (s.b + 1 - x).toNat ∧ q = ⟨[(3, sl3 xs), (5, vb false), (8, vb false), (9, vi x)], [], [20]⟩) ⟨_, _, ⟨s.a, Int.le_refl _, rfl, rfl⟩, (weak_mk (by repeat' (first | exact trivial | refine And.intro ?_ ?_ | exact Le.refl | exact Le.nilOwn rfl | exact Le.nilSl | exact Le.ownSl | exact Le.top)) (by repeat' (first | exact trivial | refine And.intro ?_ ?_ | exact ⟨_, rfl, Les.refl _⟩ | exact ⟨_, rfl, by repeat' (first | exact Les.nil | exact Les.cons Le.refl (Les.refl _) | refine Les.cons (by first | exact Le.top | exact Le.refl | exact Le.ownSl | exact Le.nilSl) ?_)⟩)) rfl (by repeat' (first | exact trivial | refine And.intro ?_ ?_ | exact rfl | exact refs_fill (fun _ => rfl) rfl | exact refs_map (fun _ => rfl))) (fun _ _ _ h => by first | exact h.elim | (obtain ⟨rfl, rfl, rfl⟩ := h; simp)))⟩ ?_
      rintro n q ⟨x, hx1, rfl, rfl⟩
      by_cases hx2 : x ≤ s.b
      · have d2 : abin .leq .i64 x s.b = some (.bool true) := by simp [abin, hx2]
        have cl := cL x hx1 hx2
        rw [lF x hx1 hx2] at cl
        (repeat (first | refine WL_nil ?_ | (apply wl0 (hd := rfl); (first | exact QV_bin rfl rfl d2 | exact qv0 | exact QV_bne Try.underlying4 rfl rfl | exact QV_beq Try.underlying4 rfl rfl | exact qv1 | exact q_callA (cl) | exact QV_indexAddr rfl rfl rfl rfl (row_at hs0)); (exact gy0)) | (apply wlb (hd := rfl); (first | exact q_box rfl rfl rfl | exact q_alloc); (exact gy0); rfl) | refine wln ⟨_, rfl, rfl⟩ rfl ?_ | refine wlnu ⟨_, rfl, rfl⟩ rfl ?_ | refine wst rfl rfl rfl List.not_mem_nil rfl rfl rfl rfl rfl rfl ?_ | refine W_seq ?_ | refine W_condT rfl ?_ | refine W_condF rfl ?_ | refine W_region ?_ | refine W_skip ?_ | refine W_ret ?_ | refine W_block ?_ | refine W_exit ?_))
        refine Exists.intro _ (Exists.intro _ ⟨?_, ⟨x + 1, by omega, rfl, rfl⟩, (weak_mk (by repeat' (first | exact trivial | refine And.intro ?_ ?_ | exact Le.refl | exact Le.nilOwn rfl | exact Le.nilSl | exact Le.ownSl | exact Le.top)) (by repeat' (first | exact trivial | refine And.intro ?_ ?_ | exact ⟨_, rfl, Les.refl _⟩ | exact ⟨_, rfl, by repeat' (first | exact Les.nil | exact Les.cons Le.refl (Les.refl _) | refine Les.cons (by first | exact Le.top | exact Le.refl | exact Le.ownSl | exact Le.nilSl) ?_)⟩)) rfl (by repeat' (first | exact trivial | refine And.intro ?_ ?_ | exact rfl | exact refs_fill (fun _ => rfl) rfl | exact refs_map (fun _ => rfl))) (fun _ _ _ h => by first | exact h.elim | (obtain ⟨rfl, rfl, rfl⟩ := h; simp)))⟩)
        omega
      · have d2 : abin .leq .i64 x s.b = some (.bool false) := by simp [abin]; omega
        have d3 : abin .lss .i64 ((0 : Nat) : Int) (xs.length : Int) = some (.bool true) := by simp [abin]; omega
        (repeat (first | refine WL_nil ?_ | (apply wl0 (hd := rfl); (first | exact QV_bin rfl rfl d2 | exact qv0 | exact QV_bne Try.underlying4 rfl rfl | exact QV_beq Try.underlying4 rfl rfl | exact qv1 | exact QV_indexAddr rfl rfl rfl rfl (row_at hs0)); (exact gy0)) | (apply wlb (hd := rfl); (first | exact q_box rfl rfl rfl | exact q_alloc); (exact gy0); rfl) | refine wln ⟨_, rfl, rfl⟩ rfl ?_ | refine wlnu ⟨_, rfl, rfl⟩ rfl ?_ | refine wst rfl rfl rfl List.not_mem_nil rfl rfl rfl rfl rfl rfl ?_ | refine W_seq ?_ | refine W_condT rfl ?_ | refine W_condF rfl ?_ | refine W_region ?_ | refine W_skip ?_ | refine W_ret ?_ | refine W_block ?_ | refine W_exit ?_))
        refine W_loop (fun n q => n = 0 ∧ q = ⟨[(3, sl3 xs), (5, vb false), (8, vb false), (10, vi (0 : Nat))], [], [20]⟩) ⟨_, _, ⟨rfl, rfl⟩, (weak_mk (by repeat' (first | exact trivial | refine And.intro ?_ ?_ | exact Le.refl | exact Le.nilOwn rfl | exact Le.nilSl | exact Le.ownSl | exact Le.top)) (by repeat' (first | exact trivial | refine And.intro ?_ ?_ | exact ⟨_, rfl, Les.refl _⟩ | exact ⟨_, rfl, by repeat' (first | exact Les.nil | exact Les.cons Le.refl (Les.refl _) | refine Les.cons (by first | exact Le.top | exact Le.refl | exact Le.ownSl | exact Le.nilSl) ?_)⟩)) rfl (by repeat' (first | exact trivial | refine And.intro ?_ ?_ | exact rfl | exact refs_fill (fun _ => rfl) rfl | exact refs_map (fun _ => rfl))) (fun _ _ _ h => by first | exact h.elim | (obtain ⟨rfl, rfl, rfl⟩ := h; simp)))⟩ ?_
        rintro n q ⟨rfl, rfl⟩
        (repeat (first | refine WL_nil ?_ | (apply wl0 (hd := rfl); (first | exact QV_bin rfl rfl d3 | exact qv0 | exact QV_bne Try.underlying4 rfl rfl | exact QV_beq Try.underlying4 rfl rfl | exact qv1); (exact gy0)) | (apply wlb (hd := rfl); (first | exact q_box rfl rfl rfl | exact q_alloc); (exact gy0); rfl) | refine wln ⟨_, rfl, rfl⟩ rfl ?_ | refine wlnu ⟨_, rfl, rfl⟩ rfl ?_ | refine wst rfl rfl rfl List.not_mem_nil rfl rfl rfl rfl rfl rfl ?_ | refine W_seq ?_ | refine W_condT rfl ?_ | refine W_condF rfl ?_ | refine W_region ?_ | refine W_skip ?_ | refine W_ret ?_ | refine W_block ?_ | refine W_exit ?_))
        refine wdraw 33 (by kernel_rfl) (by kernel_rfl) (by kernel_rfl) rfl ?_
        (repeat (first | refine HW_nil ?_ | (apply hw0 (hd := rfl); (first | exact qv0 | exact QV_bne Try.underlying4 rfl rfl | exact QV_beq Try.underlying4 rfl rfl | exact qv1); (exact gy0)) | (apply hwb (hd := rfl); (first | exact q_box rfl rfl rfl | exact q_alloc); (exact gy0); rfl) | refine hwn ⟨_, rfl, rfl⟩ rfl ?_ | refine hwnu ⟨_, rfl, rfl⟩ rfl ?_))
        (repeat (first | refine WL_nil ?_ | (apply wl0 (hd := rfl); (first | exact qv0 | exact QV_bne Try.underlying4 rfl rfl | exact QV_beq Try.underlying4 rfl rfl | exact qv1); (exact gy0)) | (apply wlb (hd := rfl); (first | exact q_box rfl rfl rfl | exact q_alloc); (exact gy0); rfl) | refine wln ⟨_, rfl, rfl⟩ rfl ?_ | refine wlnu ⟨_, rfl, rfl⟩ rfl ?_ | refine wst rfl rfl rfl List.not_mem_nil rfl rfl rfl rfl rfl rfl ?_ | refine W_seq ?_ | refine W_condT rfl ?_ | refine W_condF rfl ?_ | refine W_region ?_ | refine W_skip ?_ | refine W_ret ?_ | refine W_block ?_ | refine W_exit ?_))
        refine Exists.intro _ ⟨Weak.refl _, Exists.intro _ ⟨resA_tmp rfl rfl, ?_, rfl⟩⟩
        rfl
    · have cF := bridgeForces_yes xs hsp hok
      rw [bridgeB, hsp, hok, Bool.and_self] at cB
      have cS := cBridge (xs.map str) (by simp; omega)
      rw [bridgeB, str_spans hsp (fun q hq => (hsd q hq).2.2.2), str_ok hok, Bool.and_self] at cS
      have hcs : ∀ i, i < xs.length → 0 ≤ (atS xs i).c := fun i hi => (spans_cs hal hi).2.1
      have hf := fun i (hi : i < xs.length) => force_in hok hcs i hi
      have hbi := fun i (hi : i < xs.length) => back_in (xs := xs) hi
      obtain ⟨f0, hf0⟩ : ∃ f0, f0 = force xs 0 := ⟨_, rfl⟩
      have hf0' : f0 = (atR (backs xs) 0).a := hf0
      have q1 := hf 0 (by omega)
      have q2 := hbi 0 (by omega)
      rw [e0] at q2
      have hfl : s.a ≤ f0 ∧ f0 ≤ s.b := by omega
      have lT : bridgeB (lone f0 xs) = true := (lI f0 hfl.1 hfl.2).2 ⟨by omega, fun i hi => range_at hok hi⟩
      have kl : abin .neq .i64 ((forcesR xs xs.length).length : Int) (xs.length : Int) = some (.bool false) := by simp [abin, forcesR]
      have kl2 : abin .neq .i64 ((List.range xs.length).length : Int) (xs.length : Int) = some (.bool false) := by simp [abin]
      (repeat (first | refine WL_nil ?_ | (apply wl0 (hd := rfl); (first | exact qv0 | exact QV_bne Try.underlying4 rfl rfl | exact QV_beq Try.underlying4 rfl rfl | exact qv1 | exact q_callA (cF)); (exact gy0)) | (apply wlb (hd := rfl); (first | exact q_box rfl rfl rfl | exact q_alloc); (exact gy0); rfl) | refine wln ⟨_, rfl, rfl⟩ rfl ?_ | refine wlnu ⟨_, rfl, rfl⟩ rfl ?_ | (apply wln1 (hd := rfl); exact q_buildSlice 20 rfl rfl rfl rfl; (exact gy0); rfl) | refine wst rfl rfl rfl List.not_mem_nil rfl rfl rfl rfl rfl rfl ?_ | refine W_seq ?_ | refine W_condT rfl ?_ | refine W_condF rfl ?_ | refine W_region ?_ | refine W_skip ?_ | refine W_ret ?_ | refine W_block ?_ | refine W_exit ?_))
      refine W_loop (fun n q => ∃ (k : Nat) (rows : List (List AV)), k ≤ xs.length ∧ n = xs.length - k ∧ rows = ((xs.take k).map str).map row3 ∧ q = ⟨[(3, sl3 xs), (4, (.sl 1 (forcesR xs xs.length))), (5, vb true), (6, .own 20 30 3 rows), (7, vi k)], [], [20]⟩) ⟨_, _, ⟨0, [], by omega, rfl, rfl, rfl⟩, (weak_mk (by repeat' (first | exact trivial | refine And.intro ?_ ?_ | exact Le.refl | exact Le.nilOwn rfl | exact Le.nilSl | exact Le.ownSl | exact Le.top)) (by repeat' (first | exact trivial | refine And.intro ?_ ?_ | exact ⟨_, rfl, Les.refl _⟩ | exact ⟨_, rfl, by repeat' (first | exact Les.nil | exact Les.cons Le.refl (Les.refl _) | refine Les.cons (by first | exact Le.top | exact Le.refl | exact Le.ownSl | exact Le.nilSl) ?_)⟩)) rfl (by repeat' (first | exact trivial | refine And.intro ?_ ?_ | exact rfl | exact refs_fill (fun _ => rfl) rfl | exact refs_map (fun _ => rfl))) (fun _ _ _ h => by first | exact h.elim | (obtain ⟨rfl, rfl, rfl⟩ := h; simp)))⟩ ?_
      rintro n q ⟨k, rows, hk, rfl, hrows, rfl⟩
      have hrl : rows.length = k := by rw [hrows]; simp; omega
      by_cases hlt : k < xs.length
      · have d1 : abin .lss .i64 (k : Int) (xs.length : Int) = some (.bool true) := by simp [abin]; omega
        have hs := atS_lt hlt
        have hb := spans_cs hal hlt
        have hw : rows.length + [row3 (str (atS xs k))].length ≤ 1048576 := by simp only [List.length_cons, List.length_nil]; omega
        (repeat (first | refine WL_nil ?_ | (apply wl0 (hd := rfl); (first | exact QV_bin rfl rfl d1 | exact qv0 | exact QV_bne Try.underlying4 rfl rfl | exact QV_beq Try.underlying4 rfl rfl | exact qv1); (exact gy0)) | (apply wlb (hd := rfl); (first | exact q_box rfl rfl rfl | exact q_alloc); (exact gy0); rfl) | refine wln ⟨_, rfl, rfl⟩ rfl ?_ | refine wlnu ⟨_, rfl, rfl⟩ rfl ?_ | refine wst rfl rfl rfl List.not_mem_nil rfl rfl rfl rfl rfl rfl ?_ | refine W_seq ?_ | refine W_condT rfl ?_ | refine W_condF rfl ?_ | refine W_region ?_ | refine W_skip ?_ | refine W_ret ?_ | refine W_block ?_ | refine W_exit ?_))
        refine wdraw 19 (by kernel_rfl) (by kernel_rfl) (by kernel_rfl) rfl ?_
        (repeat (first | refine HW_nil ?_ | (apply hw0 (hd := rfl); (first | exact qv0 | exact QV_bne Try.underlying4 rfl rfl | exact QV_beq Try.underlying4 rfl rfl | exact qv1 | exact QV_indexAddr rfl rfl rfl rfl (row_at hs)); (exact gy0)) | (apply hwb (hd := rfl); (first | exact q_box rfl rfl rfl | exact q_alloc); (exact gy0); rfl) | refine hwn ⟨_, rfl, rfl⟩ rfl ?_ | refine hwnu ⟨_, rfl, rfl⟩ rfl ?_ | (apply hwn1 (hd := rfl); exact q_buildSlice 45 rfl rfl rfl rfl; (exact gy0); rfl)))
        (repeat (first | refine WL_nil ?_ | (apply wl0 (hd := rfl); (first | exact qv0 | exact QV_bne Try.underlying4 rfl rfl | exact QV_beq Try.underlying4 rfl rfl | exact qv1); (exact gy0)) | (apply wlb (hd := rfl); (first | exact q_box rfl rfl rfl | exact q_alloc); (exact gy0); rfl) | refine wln ⟨_, rfl, rfl⟩ rfl ?_ | refine wlnu ⟨_, rfl, rfl⟩ rfl ?_ | refine wst rfl rfl rfl List.not_mem_nil rfl rfl rfl rfl rfl rfl ?_ | refine wapp (rows2 := [row3 (str (atS xs k))]) rfl rfl rfl (row3_cells _) (row3_lens _) hw rfl rfl rfl rfl ?_ | refine W_seq ?_ | refine W_condT rfl ?_ | refine W_condF rfl ?_ | refine W_region ?_ | refine W_skip ?_ | refine W_ret ?_ | refine W_block ?_ | refine W_exit ?_))
        refine Exists.intro _ (Exists.intro _ ⟨?_, ⟨k + 1, rows ++ [row3 (str (atS xs k))], by omega, rfl, by rw [hrows, List.take_add_one, hs]; simp, rfl⟩, (weak_mk (by repeat' (first | exact trivial | refine And.intro ?_ ?_ | exact Le.refl | exact Le.nilOwn rfl | exact Le.nilSl | exact Le.ownSl | exact Le.top)) (by repeat' (first | exact trivial | refine And.intro ?_ ?_ | exact ⟨_, rfl, Les.refl _⟩ | exact ⟨_, rfl, by repeat' (first | exact Les.nil | exact Les.cons Le.refl (Les.refl _) | refine Les.cons (by first | exact Le.top | exact Le.refl | exact Le.ownSl | exact Le.nilSl) ?_)⟩)) rfl (by repeat' (first | exact trivial | refine And.intro ?_ ?_ | exact rfl | exact refs_fill (fun _ => rfl) rfl | exact refs_map (fun _ => rfl))) (fun _ _ _ h => by first | exact h.elim | (obtain ⟨rfl, rfl, rfl⟩ := h; simp)))⟩)
        omega
      have d1 : abin .lss .i64 (k : Int) (xs.length : Int) = some (.bool false) := by simp [abin]; omega
      have hk' : k = xs.length := by omega
      subst hk'
      rw [List.take_length] at hrows
      subst hrows
      (repeat (first | refine WL_nil ?_ | (apply wl0 (hd := rfl); (first | exact QV_bin rfl rfl d1 | exact QV_bin rfl rfl kl | exact QV_bin rfl rfl kl2 | exact qv0 | exact QV_bne Try.underlying4 rfl rfl | exact QV_beq Try.underlying4 rfl rfl | exact qv1 | exact q_callA (cB) | exact q_callA (cS) | exact q_callA (c1) | exact QV_indexAddr rfl rfl rfl rfl (row_at hs0)); (exact gy0)) | (apply wlb (hd := rfl); (first | exact q_box rfl rfl rfl | exact q_alloc); (exact gy0); rfl) | refine wln ⟨_, rfl, rfl⟩ rfl ?_ | refine wlnu ⟨_, rfl, rfl⟩ rfl ?_ | refine wst rfl rfl rfl List.not_mem_nil rfl rfl rfl rfl rfl rfl ?_ | refine W_seq ?_ | refine W_condT rfl ?_ | refine W_condF rfl ?_ | refine W_region ?_ | refine W_skip ?_ | refine W_ret ?_ | refine W_block ?_ | refine W_exit ?_))
      refine W_loop (fun n q => ∃ (x : Int) (any : Bool), s.a ≤ x ∧ n = (s.b + 1 - x).toNat ∧ (f0 < x → any = true) ∧ q = ⟨[(3, sl3 xs), (4, (.sl 1 (forcesR xs xs.length))), (5, vb true), (8, vb any), (9, vi x)], [], [20]⟩) ⟨_, _, ⟨s.a, false, Int.le_refl _, rfl, fun h => by omega, rfl⟩, (weak_mk (by repeat' (first | exact trivial | refine And.intro ?_ ?_ | exact Le.refl | exact Le.nilOwn rfl | exact Le.nilSl | exact Le.ownSl | exact Le.top)) (by repeat' (first | exact trivial | refine And.intro ?_ ?_ | exact ⟨_, rfl, Les.refl _⟩ | exact ⟨_, rfl, by repeat' (first | exact Les.nil | exact Les.cons Le.refl (Les.refl _) | refine Les.cons (by first | exact Le.top | exact Le.refl | exact Le.ownSl | exact Le.nilSl) ?_)⟩)) rfl (by repeat' (first | exact trivial | refine And.intro ?_ ?_ | exact rfl | exact refs_fill (fun _ => rfl) rfl | exact refs_map (fun _ => rfl))) (fun _ _ _ h => by first | exact h.elim | (obtain ⟨rfl, rfl, rfl⟩ := h; simp)))⟩ ?_
      rintro n q ⟨x, any, hx1, rfl, hany, rfl⟩
      by_cases hx2 : x ≤ s.b
      · have d2 : abin .leq .i64 x s.b = some (.bool true) := by simp [abin, hx2]
        have cl := cL x hx1 hx2
        cases any
        · have hlast : f0 < x + 1 → bridgeB (lone x xs) = true := fun h => by
            have h9 : ¬ f0 < x := fun h9 => absurd (hany h9) (by decide)
            have hx3 : x = f0 := by omega
            rw [hx3]; exact lT
          (repeat (first | refine WL_nil ?_ | (apply wl0 (hd := rfl); (first | exact QV_bin rfl rfl d2 | exact qv0 | exact QV_bne Try.underlying4 rfl rfl | exact QV_beq Try.underlying4 rfl rfl | exact qv1 | exact q_callA (cl) | exact QV_indexAddr rfl rfl rfl rfl (row_at hs0)); (exact gy0)) | (apply wlb (hd := rfl); (first | exact q_box rfl rfl rfl | exact q_alloc); (exact gy0); rfl) | refine wln ⟨_, rfl, rfl⟩ rfl ?_ | refine wlnu ⟨_, rfl, rfl⟩ rfl ?_ | refine wst rfl rfl rfl List.not_mem_nil rfl rfl rfl rfl rfl rfl ?_ | refine W_seq ?_ | refine W_condT rfl ?_ | refine W_condF rfl ?_ | refine W_region ?_ | refine W_skip ?_ | refine W_ret ?_ | refine W_block ?_ | refine W_exit ?_))
          refine Exists.intro _ (Exists.intro _ ⟨?_, ⟨x + 1, bridgeB (lone x xs), by omega, rfl, hlast, rfl⟩, (weak_mk (by repeat' (first | exact trivial | refine And.intro ?_ ?_ | exact Le.refl | exact Le.nilOwn rfl | exact Le.nilSl | exact Le.ownSl | exact Le.top)) (by repeat' (first | exact trivial | refine And.intro ?_ ?_ | exact ⟨_, rfl, Les.refl _⟩ | exact ⟨_, rfl, by repeat' (first | exact Les.nil | exact Les.cons Le.refl (Les.refl _) | refine Les.cons (by first | exact Le.top | exact Le.refl | exact Le.ownSl | exact Le.nilSl) ?_)⟩)) rfl (by repeat' (first | exact trivial | refine And.intro ?_ ?_ | exact rfl | exact refs_fill (fun _ => rfl) rfl | exact refs_map (fun _ => rfl))) (fun _ _ _ h => by first | exact h.elim | (obtain ⟨rfl, rfl, rfl⟩ := h; simp)))⟩)
          omega
        · (repeat (first | refine WL_nil ?_ | (apply wl0 (hd := rfl); (first | exact QV_bin rfl rfl d2 | exact qv0 | exact QV_bne Try.underlying4 rfl rfl | exact QV_beq Try.underlying4 rfl rfl | exact qv1 | exact QV_indexAddr rfl rfl rfl rfl (row_at hs0)); (exact gy0)) | (apply wlb (hd := rfl); (first | exact q_box rfl rfl rfl | exact q_alloc); (exact gy0); rfl) | refine wln ⟨_, rfl, rfl⟩ rfl ?_ | refine wlnu ⟨_, rfl, rfl⟩ rfl ?_ | refine wst rfl rfl rfl List.not_mem_nil rfl rfl rfl rfl rfl rfl ?_ | refine W_seq ?_ | refine W_condT rfl ?_ | refine W_condF rfl ?_ | refine W_region ?_ | refine W_skip ?_ | refine W_ret ?_ | refine W_block ?_ | refine W_exit ?_))
          refine Exists.intro _ (Exists.intro _ ⟨?_, ⟨x + 1, true, by omega, rfl, fun _ => rfl, rfl⟩, (weak_mk (by repeat' (first | exact trivial | refine And.intro ?_ ?_ | exact Le.refl | exact Le.nilOwn rfl | exact Le.nilSl | exact Le.ownSl | exact Le.top)) (by repeat' (first | exact trivial | refine And.intro ?_ ?_ | exact ⟨_, rfl, Les.refl _⟩ | exact ⟨_, rfl, by repeat' (first | exact Les.nil | exact Les.cons Le.refl (Les.refl _) | refine Les.cons (by first | exact Le.top | exact Le.refl | exact Le.ownSl | exact Le.nilSl) ?_)⟩)) rfl (by repeat' (first | exact trivial | refine And.intro ?_ ?_ | exact rfl | exact refs_fill (fun _ => rfl) rfl | exact refs_map (fun _ => rfl))) (fun _ _ _ h => by first | exact h.elim | (obtain ⟨rfl, rfl, rfl⟩ := h; simp)))⟩)
          omega
      · have d2 : abin .leq .i64 x s.b = some (.bool false) := by simp [abin]; omega
        have hT : any = true := hany (by omega)
        subst hT
        (repeat (first | refine WL_nil ?_ | (apply wl0 (hd := rfl); (first | exact QV_bin rfl rfl d2 | exact qv0 | exact QV_bne Try.underlying4 rfl rfl | exact QV_beq Try.underlying4 rfl rfl | exact qv1 | exact QV_indexAddr rfl rfl rfl rfl (row_at hs0)); (exact gy0)) | (apply wlb (hd := rfl); (first | exact q_box rfl rfl rfl | exact q_alloc); (exact gy0); rfl) | refine wln ⟨_, rfl, rfl⟩ rfl ?_ | refine wlnu ⟨_, rfl, rfl⟩ rfl ?_ | refine wst rfl rfl rfl List.not_mem_nil rfl rfl rfl rfl rfl rfl ?_ | refine W_seq ?_ | refine W_condT rfl ?_ | refine W_condF rfl ?_ | refine W_region ?_ | refine W_skip ?_ | refine W_ret ?_ | refine W_block ?_ | refine W_exit ?_))
        refine W_loop (fun n q => ∃ k : Nat, k ≤ xs.length ∧ n = xs.length - k ∧ q = ⟨[(3, sl3 xs), (4, (.sl 1 (forcesR xs xs.length))), (5, vb true), (8, vb true), (10, vi k)], [], [20]⟩) ⟨_, _, ⟨0, by omega, rfl, rfl⟩, (weak_mk (by repeat' (first | exact trivial | refine And.intro ?_ ?_ | exact Le.refl | exact Le.nilOwn rfl | exact Le.nilSl | exact Le.ownSl | exact Le.top)) (by repeat' (first | exact trivial | refine And.intro ?_ ?_ | exact ⟨_, rfl, Les.refl _⟩ | exact ⟨_, rfl, by repeat' (first | exact Les.nil | exact Les.cons Le.refl (Les.refl _) | refine Les.cons (by first | exact Le.top | exact Le.refl | exact Le.ownSl | exact Le.nilSl) ?_)⟩)) rfl (by repeat' (first | exact trivial | refine And.intro ?_ ?_ | exact rfl | exact refs_fill (fun _ => rfl) rfl | exact refs_map (fun _ => rfl))) (fun _ _ _ h => by first | exact h.elim | (obtain ⟨rfl, rfl, rfl⟩ := h; simp)))⟩ ?_
        rintro n q ⟨k, hk, rfl, rfl⟩
        have frow : ∀ i, i < xs.length → (forcesR xs xs.length)[i]? = some [vi (force xs i)] := fun i hi => by simp [forcesR, hi]
        by_cases hlt : k < xs.length
        · have d3 : abin .lss .i64 (k : Int) (xs.length : Int) = some (.bool true) := by simp [abin]; omega
          have fk := frow k hlt
          have sk := atS_lt hlt
          have b1 := hf k hlt
          have b2 := hbi k hlt
          have b3 := spans_cs hal hlt
          have d4 : abin .lss .i64 (force xs k) (atS xs k).a = some (.bool false) := by simp [abin]; omega
          have d5 : abin .gtr .i64 (force xs k) (atS xs k).b = some (.bool false) := by simp [abin]; omega
          cases k with
          | zero =>
            have d6 : abin .gtr .i64 ((0 : Nat) : Int) 0 = some (.bool false) := rfl
            (repeat (first | refine WL_nil ?_ | (apply wl0 (hd := rfl); (first | exact QV_bin rfl rfl d3 | exact qv0 | exact QV_bne Try.underlying4 rfl rfl | exact QV_beq Try.underlying4 rfl rfl | exact qv1); (exact gy0)) | (apply wlb (hd := rfl); (first | exact q_box rfl rfl rfl | exact q_alloc); (exact gy0); rfl) | refine wln ⟨_, rfl, rfl⟩ rfl ?_ | refine wlnu ⟨_, rfl, rfl⟩ rfl ?_ | refine wst rfl rfl rfl List.not_mem_nil rfl rfl rfl rfl rfl rfl ?_ | refine W_seq ?_ | refine W_condT rfl ?_ | refine W_condF rfl ?_ | refine W_region ?_ | refine W_skip ?_ | refine W_ret ?_ | refine W_block ?_ | refine W_exit ?_))
            refine wdraw 55 (by kernel_rfl) (by kernel_rfl) (by kernel_rfl) rfl ?_
            (repeat (first | refine HW_nil ?_ | (apply hw0 (hd := rfl); (first | exact QV_bin rfl rfl d4 | exact QV_bin rfl rfl d5 | exact QV_bin rfl rfl d6 | exact qv0 | exact QV_bne Try.underlying4 rfl rfl | exact QV_beq Try.underlying4 rfl rfl | exact qv1 | exact QV_indexAddr rfl rfl rfl rfl fk | exact QV_indexAddr rfl rfl rfl rfl (row_at sk)); (exact gy0)) | (apply hwb (hd := rfl); (first | exact q_box rfl rfl rfl | exact q_alloc); (exact gy0); rfl) | refine hwn ⟨_, rfl, rfl⟩ rfl ?_ | refine hwnu ⟨_, rfl, rfl⟩ rfl ?_))
            (repeat (first | refine WL_nil ?_ | (apply wl0 (hd := rfl); (first | exact qv0 | exact QV_bne Try.underlying4 rfl rfl | exact QV_beq Try.underlying4 rfl rfl | exact qv1); (exact gy0)) | (apply wlb (hd := rfl); (first | exact q_box rfl rfl rfl | exact q_alloc); (exact gy0); rfl) | refine wln ⟨_, rfl, rfl⟩ rfl ?_ | refine wlnu ⟨_, rfl, rfl⟩ rfl ?_ | refine wst rfl rfl rfl List.not_mem_nil rfl rfl rfl rfl rfl rfl ?_ | refine W_seq ?_ | refine W_condT rfl ?_ | refine W_condF rfl ?_ | refine W_region ?_ | refine W_skip ?_ | refine W_ret ?_ | refine W_block ?_ | refine W_exit ?_))
            refine Exists.intro _ (Exists.intro _ ⟨?_, ⟨1, by omega, rfl, rfl⟩, (weak_mk (by repeat' (first | exact trivial | refine And.intro ?_ ?_ | exact Le.refl | exact Le.nilOwn rfl | exact Le.nilSl | exact Le.ownSl | exact Le.top)) (by repeat' (first | exact trivial | refine And.intro ?_ ?_ | exact ⟨_, rfl, Les.refl _⟩ | exact ⟨_, rfl, by repeat' (first | exact Les.nil | exact Les.cons Le.refl (Les.refl _) | refine Les.cons (by first | exact Le.top | exact Le.refl | exact Le.ownSl | exact Le.nilSl) ?_)⟩)) rfl (by repeat' (first | exact trivial | refine And.intro ?_ ?_ | exact rfl | exact refs_fill (fun _ => rfl) rfl | exact refs_map (fun _ => rfl))) (fun _ _ _ h => by first | exact h.elim | (obtain ⟨rfl, rfl, rfl⟩ := h; simp)))⟩)
            omega
          | succ j =>
            have d6 : abin .gtr .i64 ((j + 1 : Nat) : Int) 0 = some (.bool true) := by simp [abin] <;> omega
            have fj := frow j (by omega)
            have sj := atS_lt (xs := xs) (i := j) (by omega)
            have b4 := hf j (by omega)
            have b5 := hbi j (by omega)
            have b6 := spans_cs hal (i := j) (by omega)
            have b7 := force_step hok hcs (i := j) hlt
            obtain ⟨u, hu⟩ : ∃ u, u = force xs j := ⟨_, rfl⟩
            obtain ⟨v, hv⟩ : ∃ v, v = force xs (j + 1) := ⟨_, rfl⟩
            rw [← hu] at fj b4 b7
            rw [← hv] at fk d4 d5 b1 b7
            have d7 : abin .gtr .i64 (max (v - u) (u - v)) (atS xs j).c = some (.bool false) := by simp [abin]; omega
            (repeat (first | refine WL_nil ?_ | (apply wl0 (hd := rfl); (first | exact QV_bin rfl rfl d3 | exact qv0 | exact QV_bne Try.underlying4 rfl rfl | exact QV_beq Try.underlying4 rfl rfl | exact qv1); (exact gy0)) | (apply wlb (hd := rfl); (first | exact q_box rfl rfl rfl | exact q_alloc); (exact gy0); rfl) | refine wln ⟨_, rfl, rfl⟩ rfl ?_ | refine wlnu ⟨_, rfl, rfl⟩ rfl ?_ | refine wst rfl rfl rfl List.not_mem_nil rfl rfl rfl rfl rfl rfl ?_ | refine W_seq ?_ | refine W_condT rfl ?_ | refine W_condF rfl ?_ | refine W_region ?_ | refine W_skip ?_ | refine W_ret ?_ | refine W_block ?_ | refine W_exit ?_))
            refine wdraw 55 (by kernel_rfl) (by kernel_rfl) (by kernel_rfl) rfl ?_
            (repeat (first | refine HW_nil ?_ | (apply hw0 (hd := rfl); (first | exact QV_bin rfl rfl d4 | exact QV_bin rfl rfl d5 | exact QV_bin rfl rfl d6 | exact QV_bin rfl rfl d7 | exact qv0 | exact QV_bne Try.underlying4 rfl rfl | exact QV_beq Try.underlying4 rfl rfl | exact qv1 | exact QV_indexAddr rfl rfl rfl rfl fk | exact QV_indexAddr rfl rfl rfl rfl (row_at sk) | exact QV_indexAddr rfl rfl rfl (pred_at j) fj | exact QV_indexAddr rfl rfl rfl (pred_at j) (row_at sj)); (exact gy0)) | (apply hwb (hd := rfl); (first | exact q_box rfl rfl rfl | exact q_alloc); (exact gy0); rfl) | refine hwn ⟨_, rfl, rfl⟩ rfl ?_ | refine hwnu ⟨_, rfl, rfl⟩ rfl ?_))
            (repeat (first | refine WL_nil ?_ | (apply wl0 (hd := rfl); (first | exact qv0 | exact QV_bne Try.underlying4 rfl rfl | exact QV_beq Try.underlying4 rfl rfl | exact qv1); (exact gy0)) | (apply wlb (hd := rfl); (first | exact q_box rfl rfl rfl | exact q_alloc); (exact gy0); rfl) | refine wln ⟨_, rfl, rfl⟩ rfl ?_ | refine wlnu ⟨_, rfl, rfl⟩ rfl ?_ | refine wst rfl rfl rfl List.not_mem_nil rfl rfl rfl rfl rfl rfl ?_ | refine W_seq ?_ | refine W_condT rfl ?_ | refine W_condF rfl ?_ | refine W_region ?_ | refine W_skip ?_ | refine W_ret ?_ | refine W_block ?_ | refine W_exit ?_))
            refine Exists.intro _ (Exists.intro _ ⟨?_, ⟨j + 1 + 1, by omega, rfl, rfl⟩, (weak_mk (by repeat' (first | exact trivial | refine And.intro ?_ ?_ | exact Le.refl | exact Le.nilOwn rfl | exact Le.nilSl | exact Le.ownSl | exact Le.top)) (by repeat' (first | exact trivial | refine And.intro ?_ ?_ | exact ⟨_, rfl, Les.refl _⟩ | exact ⟨_, rfl, by repeat' (first | exact Les.nil | exact Les.cons Le.refl (Les.refl _) | refine Les.cons (by first | exact Le.top | exact Le.refl | exact Le.ownSl | exact Le.nilSl) ?_)⟩)) rfl (by repeat' (first | exact trivial | refine And.intro ?_ ?_ | exact rfl | exact refs_fill (fun _ => rfl) rfl | exact refs_map (fun _ => rfl))) (fun _ _ _ h => by first | exact h.elim | (obtain ⟨rfl, rfl, rfl⟩ := h; simp)))⟩)
            omega
        · have d3 : abin .lss .i64 (k : Int) (xs.length : Int) = some (.bool false) := by simp [abin]; omega
          have fz := frow 0 (by omega)
          rw [← hf0] at fz
          have cl0 := cL f0 hfl.1 hfl.2
          rw [lT] at cl0
          (repeat (first | refine WL_nil ?_ | (apply wl0 (hd := rfl); (first | exact QV_bin rfl rfl d3 | exact qv0 | exact QV_bne Try.underlying4 rfl rfl | exact QV_beq Try.underlying4 rfl rfl | exact qv1); (exact gy0)) | (apply wlb (hd := rfl); (first | exact q_box rfl rfl rfl | exact q_alloc); (exact gy0); rfl) | refine wln ⟨_, rfl, rfl⟩ rfl ?_ | refine wlnu ⟨_, rfl, rfl⟩ rfl ?_ | refine wst rfl rfl rfl List.not_mem_nil rfl rfl rfl rfl rfl rfl ?_ | refine W_seq ?_ | refine W_condT rfl ?_ | refine W_condF rfl ?_ | refine W_region ?_ | refine W_skip ?_ | refine W_ret ?_ | refine W_block ?_ | refine W_exit ?_))
          by_cases he : f0 = s.a
          · have d8 : abin .eql .i64 f0 s.a = some (.bool true) := by simp [abin, he]
            refine wdraw 33 (by kernel_rfl) (by kernel_rfl) (by kernel_rfl) rfl ?_
            (repeat (first | refine HW_nil ?_ | (apply hw0 (hd := rfl); (first | exact QV_bin rfl rfl d8 | exact qv0 | exact QV_bne Try.underlying4 rfl rfl | exact QV_beq Try.underlying4 rfl rfl | exact qv1 | exact q_callA (cl0) | exact QV_indexAddr rfl rfl rfl rfl fz | exact QV_indexAddr rfl rfl rfl rfl (row_at hs0)); (exact gy0)) | (apply hwb (hd := rfl); (first | exact q_box rfl rfl rfl | exact q_alloc); (exact gy0); rfl) | refine hwn ⟨_, rfl, rfl⟩ rfl ?_ | refine hwnu ⟨_, rfl, rfl⟩ rfl ?_))
            (repeat (first | refine WL_nil ?_ | (apply wl0 (hd := rfl); (first | exact qv0 | exact QV_bne Try.underlying4 rfl rfl | exact QV_beq Try.underlying4 rfl rfl | exact qv1); (exact gy0)) | (apply wlb (hd := rfl); (first | exact q_box rfl rfl rfl | exact q_alloc); (exact gy0); rfl) | refine wln ⟨_, rfl, rfl⟩ rfl ?_ | refine wlnu ⟨_, rfl, rfl⟩ rfl ?_ | refine wst rfl rfl rfl List.not_mem_nil rfl rfl rfl rfl rfl rfl ?_ | refine W_seq ?_ | refine W_condT rfl ?_ | refine W_condF rfl ?_ | refine W_region ?_ | refine W_skip ?_ | refine W_ret ?_ | refine W_block ?_ | refine W_exit ?_))
            refine Exists.intro _ ⟨Weak.refl _, Exists.intro _ ⟨resA_tmp rfl rfl, ?_, rfl⟩⟩
            rfl
          · have d8 : abin .eql .i64 f0 s.a = some (.bool false) := by simp [abin, he]
            have cl1 := cL (f0 - 1) (by omega) (by omega)
            have lN : bridgeB (lone (f0 - 1) xs) = false := by
              cases h : bridgeB (lone (f0 - 1) xs)
              · rfl
              · have := ((lI (f0 - 1) (by omega) (by omega)).1 h).1
                omega
            rw [lN] at cl1
            refine wdraw 33 (by kernel_rfl) (by kernel_rfl) (by kernel_rfl) rfl ?_
            (repeat (first | refine HW_nil ?_ | (apply hw0 (hd := rfl); (first | exact QV_bin rfl rfl d8 | exact qv0 | exact QV_bne Try.underlying4 rfl rfl | exact QV_beq Try.underlying4 rfl rfl | exact qv1 | exact q_callA (cl0) | exact q_callA (cl1) | exact QV_indexAddr rfl rfl rfl rfl fz | exact QV_indexAddr rfl rfl rfl rfl (row_at hs0)); (exact gy0)) | (apply hwb (hd := rfl); (first | exact q_box rfl rfl rfl | exact q_alloc); (exact gy0); rfl) | refine hwn ⟨_, rfl, rfl⟩ rfl ?_ | refine hwnu ⟨_, rfl, rfl⟩ rfl ?_))
            (repeat (first | refine WL_nil ?_ | (apply wl0 (hd := rfl); (first | exact qv0 | exact QV_bne Try.underlying4 rfl rfl | exact QV_beq Try.underlying4 rfl rfl | exact qv1); (exact gy0)) | (apply wlb (hd := rfl); (first | exact q_box rfl rfl rfl | exact q_alloc); (exact gy0); rfl) | refine wln ⟨_, rfl, rfl⟩ rfl ?_ | refine wlnu ⟨_, rfl, rfl⟩ rfl ?_ | refine wst rfl rfl rfl List.not_mem_nil rfl rfl rfl rfl rfl rfl ?_ | refine W_seq ?_ | refine W_condT rfl ?_ | refine W_condF rfl ?_ | refine W_region ?_ | refine W_skip ?_ | refine W_ret ?_ | refine W_block ?_ | refine W_exit ?_))
            refine Exists.intro _ ⟨Weak.refl _, Exists.intro _ ⟨resA_tmp rfl rfl, ?_, rfl⟩⟩
            rfl

theorem walk_FnBridges {H : Type} (enc : TypeId × Value → H) (W : World) (base : Nat) (args : Array Value) (ds : List (DataW H)) (p : List MemPlace) (hval : ∀ (j : Nat) (t : TypeId) (v : Value), Try.f3.params[j]? = some t → args[j]? = some v → Value.okWide Try.prog W .any base t v) (hA : DataW.TrodAll enc Try.prog W 0 (fun _ => true) true Try.f3.params.toList args.toList ds p) (hlt : ∀ x ∈ p, x.block < W.heap.size) :
    Calls Try.prog 3 args W fun e w' => e = .returned (.bool true) ∧ Bel W w' := by
  rw [Try.params3] at hA hval
  obtain ⟨v0, vs0, t0, ds0, p0, q0, hargs, rfl, rfl, h0, r0⟩ := trodAll_cons hA
  obtain ⟨rfl, rfl, rfl⟩ := trodAll_nil r0
  obtain rfl : args = #[v0] := by cases args; simp_all
  obtain ⟨c, bc, lc, dc⟩ := open_code (hval 0 22 v0 rfl rfl) h0 (fun x hx => hlt x (by simp [hx]))
  exact law_of_call (law_FnBridges c bc lc) (by simp only [dreps]; exact ⟨_, _, rfl, dc, rfl⟩)

set_option maxRecDepth 100000 in
theorem lifted_FnBridges (os : Os) (started : os.Started) (H : Type) (enc : TypeId × Value → H) :
    ReturnsInHanded {} Try.checked os 3 .any (Rows.fnBridgesSpec.pre6 enc Try.prog Try.f3 Rows.fnBridgesRow.domain false) (Rows.fnBridgesSpec.post enc Try.prog Try.f3 false true false false) :=
  law_lifted (tb := 4) started (by kernel_rfl) Try.func3
    (ChangeSpec.witness6 (enc := enc) (C := Try.checked) false ⟨#[], #[.slice none 0 0], []⟩ 8 (by kernel_rfl) (by kernel_rfl) (by kernel_rfl) (by kernel_rfl))
    rfl Try.underlying4 (by kernel_rfl) rfl (fun ds h => by match ds, h with | [d0], _ => rfl)
    (walk_FnBridges enc)

/-- THE STATEMENT. -/
theorem holds_FnBridges : Rows.FnBridgesSaid :=
  OpenClaim.holds_of_wide 3 Try.f3 rfl rfl rfl rfl rfl rfl rfl ⟨rfl, rfl, rfl, rfl, rfl⟩ rfl rfl rfl rfl rfl (by kernel_rfl) Try.func3 (by kernel_rfl)
    (of_decide_eq_true (by kernel_rfl)) (by unfold Func.isWrapper; first | (rw [if_pos (by decide +kernel)]; kernel_rfl) | (rw [if_neg (by decide +kernel)]; exact ⟨rfl, rfl⟩))
    (fun os started H enc _ => lifted_FnBridges os started H enc)
end Go.Proofs.Ytikbndfbjgdldaa
