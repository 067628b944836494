/- PlacesOf, TouchedJoints, both ways. -/
import Derived.Test.YtkadjimnamcjbaaAPl
import Derived.Test.YtkadjimnamcjbaaAHi
import Derived.Test.YtkadjimnamcjbaaEJ
namespace Go.Proofs.Ytkadjimnamcjbaa
open Go.Eng
set_option maxRecDepth 100000
attribute [local irreducible] QV TV WL HW W CallOk Weak

def pllB (js : List Jt) (ls : List Ld) (t : Th) : Bool := (List.range js.length).all fun k => placB js ls t k
def plR (js : List Jt) (ls : List Ld) (t : Th) (k : Nat) : List AV := [vi (plN js ls t k), vi (plD js ls t k)]
def plS (js : List Jt) (ls : List Ld) (t : Th) (k : Nat) : List AV := [.sl 1 [[vi (plN js ls t k)], [vi (plD js ls t k)]]]
def plTo (f : Nat → List AV) : Nat → List (List AV)
  | 0 => []
  | m + 1 => plTo f m ++ [f m]
theorem plTo_len (f : Nat → List AV) : ∀ m : Nat, (plTo f m).length = m
  | 0 => rfl
  | m + 1 => by simp [plTo, plTo_len f m]
theorem plTo_succ (f : Nat → List AV) (m : Nat) : plTo f m ++ [f m] = plTo f (m + 1) := rfl
theorem plTo_at (f : Nat → List AV) {k : Nat} : ∀ {m : Nat}, k < m → (plTo f m)[k]? = some (f k)
  | m + 1, h => by
    simp only [plTo]
    by_cases e : k = m
    · subst e
      rw [List.getElem?_append_right (by rw [plTo_len]; exact Nat.le_refl _), plTo_len, Nat.sub_self]; rfl
    · rw [List.getElem?_append_left (by rw [plTo_len]; omega)]
      exact plTo_at f (by omega)
theorem plA_all {p : Nat → Bool} {m : Nat} (h : (List.range m).all p = true) (hm : p m = true) : (List.range (m + 1)).all p = true := by
  rw [all_range_succ, h, hm]; rfl
theorem pl_cells (js : List Jt) (ls : List Ld) (t : Th) (k : Nat) : ∀ x ∈ [plR js ls t k].flatten, isCell x = true := by
  intro x hx
  simp only [plR, List.flatten_cons, List.flatten_nil, List.append_nil, List.mem_cons, List.not_mem_nil, or_false] at hx
  rcases hx with rfl | rfl <;> rfl
theorem pl_lens (js : List Jt) (ls : List Ld) (t : Th) (k : Nat) : ∀ r ∈ [plR js ls t k], r.length = 2 := by
  intro r hr
  rw [List.mem_singleton.1 hr]; rfl
theorem ps_cells (js : List Jt) (ls : List Ld) (t : Th) (k : Nat) : ∀ x ∈ [plS js ls t k].flatten, isCell x = true := by
  intro x hx
  simp only [plS, List.flatten_cons, List.flatten_nil, List.append_nil, List.mem_cons, List.not_mem_nil, or_false] at hx
  rcases hx with rfl; rfl
theorem ps_lens (js : List Jt) (ls : List Ld) (t : Th) (k : Nat) : ∀ r ∈ [plS js ls t k], r.length = 1 := by
  intro r hr
  rw [List.mem_singleton.1 hr]; rfl
theorem placesOf_ok (js : List Jt) (ls : List Ld) (t : Th) (hj : js.length ≤ 1048576) (hn : ls.length ≤ 1048576) : CallOk Try.prog 79 [.agg [slJt js], slLd ls, t.av] (fun r => r = .sl 1 (bif pllB js ls t then plTo (plS js ls t) js.length else [])) := by
  refine callOk_dat (X := bif pllB js ls t then .own 12 82 1 (plTo (plS js ls t) js.length) else .own 31 82 1 []) ?_ (by cases pllB js ls t <;> rfl)
  refine callOk Try.func79 Try.ntmps79 Try.results79 rfl rfl rfl fun B w0 I0 => ?_
  (repeat (first | refine WL_nil ?_ | (apply wl0 (hd := rfl); (first | exact qv0 | exact QV_bne Try.underlying4 rfl rfl | exact QV_beq Try.underlying4 rfl rfl | exact qv1); (exact gy0)) | (apply wlb (hd := rfl); (first | exact q_box rfl rfl rfl | exact q_alloc); (exact gy0); rfl) | refine wln ⟨_, rfl, rfl⟩ rfl ?_ | (apply wln1 (hd := rfl); exact q_buildSlice 12 rfl rfl rfl rfl; (exact gy0); rfl) | refine wst rfl rfl rfl List.not_mem_nil rfl rfl rfl rfl rfl rfl ?_ | refine W_seq ?_ | refine W_condT rfl ?_ | refine W_condF rfl ?_ | refine W_region ?_ | refine W_skip ?_ | refine W_ret ?_ | refine W_block ?_ | refine W_exit ?_))
  refine W_loop (fun n s => ∃ k : Nat, k ≤ js.length ∧ n = js.length - k ∧ ((List.range k).all fun i => placB js ls t i) = true ∧ s = ⟨[(1, slLd ls), (3, .ptr 3 0), (5, .ptr 5 0), (7, .own 12 82 1 (plTo (plS js ls t) k)), (8, vi k)], [(5, t.row), (3, [slJt js])], [12]⟩) ⟨_, _, ⟨0, by omega, rfl, rfl, rfl⟩, (weak_mk (by repeat' (first | exact trivial | refine And.intro ?_ ?_ | exact Le.refl | exact Le.nilOwn rfl | exact Le.nilSl | exact Le.ownSl | exact Le.top)) (by repeat' (first | exact trivial | refine And.intro ?_ ?_ | exact ⟨_, rfl, Les.refl _⟩ | exact ⟨_, rfl, by repeat' (first | exact Les.nil | exact Les.cons Le.refl (Les.refl _) | refine Les.cons (by first | exact Le.top | exact Le.refl | exact Le.ownSl | exact Le.nilSl) ?_)⟩)) rfl (by repeat' (first | exact trivial | refine And.intro ?_ ?_ | exact rfl | exact refs_fill (fun _ => rfl) rfl | exact refs_map (fun _ => rfl))) (fun _ _ _ h => by first | exact h.elim | (obtain ⟨rfl, rfl, rfl⟩ := h; simp)))⟩ ?_
  rintro n s ⟨k, hk, rfl, hall, rfl⟩
  by_cases hlt : k < js.length
  · have h1 := placeAt_ok js ls t k hj hn
    have happ : (plTo (plS js ls t) k).length + [plS js ls t k].length ≤ 1048576 := by rw [plTo_len]; simp; omega
    (repeat (first | refine WL_nil ?_ | (apply wl0 (hd := rfl); (first | exact qv0 | exact QV_bne Try.underlying4 rfl rfl | exact QV_beq Try.underlying4 rfl rfl | exact qv1); (exact gy0)) | (apply wlb (hd := rfl); (first | exact q_box rfl rfl rfl | exact q_alloc); (exact gy0); rfl) | refine wln ⟨_, rfl, rfl⟩ rfl ?_ | refine wst rfl rfl rfl List.not_mem_nil rfl rfl rfl rfl rfl rfl ?_ | refine W_seq ?_ | refine W_condT rfl ?_ | refine W_condF rfl ?_ | refine W_region ?_ | refine W_skip ?_ | refine W_ret ?_ | refine W_block ?_ | refine W_exit ?_))
    (refine W_cond rfl (fun hc => ?_) (fun hc => ?_))
    · cases e1 : placB js ls t k
      · rw [e1] at h1
        (repeat (first | refine WL_nil ?_ | (apply wl0 (hd := rfl); (first | exact qv0 | exact QV_bne Try.underlying4 rfl rfl | exact QV_beq Try.underlying4 rfl rfl | exact qv1 | exact q_callA (h1)); (exact gy0)) | (apply wlb (hd := rfl); (first | exact q_box rfl rfl rfl | exact q_alloc); (exact gy0); rfl) | refine wln ⟨_, rfl, rfl⟩ rfl ?_ | (apply wln1 (hd := rfl); exact q_buildSlice 31 rfl rfl rfl rfl; (exact gy0); rfl) | refine wst rfl rfl rfl List.not_mem_nil rfl rfl rfl rfl rfl rfl ?_ | refine W_seq ?_ | refine W_condT rfl ?_ | refine W_condF rfl ?_ | refine W_region ?_ | refine W_skip ?_ | refine W_ret ?_ | refine W_block ?_ | refine W_exit ?_))
        refine Exists.intro _ ⟨Weak.refl _, Exists.intro _ ⟨resA_tmp rfl rfl, ?_, rfl⟩⟩
        rw [pllB, all_range_false hlt e1]
        rfl
      · rw [e1] at h1
        have hall' := plA_all hall e1
        (repeat (first | refine WL_nil ?_ | (apply wl0 (hd := rfl); (first | exact qv0 | exact QV_bne Try.underlying4 rfl rfl | exact QV_beq Try.underlying4 rfl rfl | exact qv1 | exact q_callA (h1)); (exact gy0)) | (apply wlb (hd := rfl); (first | exact q_box rfl rfl rfl | exact q_alloc); (exact gy0); rfl) | refine wln ⟨_, rfl, rfl⟩ rfl ?_ | (apply wln1 (hd := rfl); exact q_buildSlice 35 rfl rfl rfl rfl; (exact gy0); rfl) | (apply wln1 (hd := rfl); exact q_buildSlice 36 rfl rfl rfl rfl; (exact gy0); rfl) | refine wst rfl rfl rfl List.not_mem_nil rfl rfl rfl rfl rfl rfl ?_ | refine wappE rfl rfl rfl (ps_cells js ls t k) (ps_lens js ls t k) happ rfl rfl (plTo_succ _ k) rfl rfl ?_ | refine W_seq ?_ | refine W_condT rfl ?_ | refine W_condF rfl ?_ | refine W_region ?_ | refine W_skip ?_ | refine W_ret ?_ | refine W_block ?_ | refine W_exit ?_))
        refine Exists.intro _ (Exists.intro _ ⟨?_, ⟨k + 1, by omega, rfl, hall', rfl⟩, (weak_mk (by repeat' (first | exact trivial | refine And.intro ?_ ?_ | exact Le.refl | exact Le.nilOwn rfl | exact Le.nilSl | exact Le.ownSl | exact Le.top)) (by repeat' (first | exact trivial | refine And.intro ?_ ?_ | exact ⟨_, rfl, Les.refl _⟩ | exact ⟨_, rfl, by repeat' (first | exact Les.nil | exact Les.cons Le.refl (Les.refl _) | refine Les.cons (by first | exact Le.top | exact Le.refl | exact Le.ownSl | exact Le.nilSl) ?_)⟩)) rfl (by repeat' (first | exact trivial | refine And.intro ?_ ?_ | exact rfl | exact refs_fill (fun _ => rfl) rfl | exact refs_map (fun _ => rfl))) (fun _ _ _ h => by first | exact h.elim | (obtain ⟨rfl, rfl, rfl⟩ := h; simp)))⟩)
        omega
    · simp at hc; omega
  · (repeat (first | refine WL_nil ?_ | (apply wl0 (hd := rfl); (first | exact qv0 | exact QV_bne Try.underlying4 rfl rfl | exact QV_beq Try.underlying4 rfl rfl | exact qv1); (exact gy0)) | (apply wlb (hd := rfl); (first | exact q_box rfl rfl rfl | exact q_alloc); (exact gy0); rfl) | refine wln ⟨_, rfl, rfl⟩ rfl ?_ | refine wst rfl rfl rfl List.not_mem_nil rfl rfl rfl rfl rfl rfl ?_ | refine W_seq ?_ | refine W_condT rfl ?_ | refine W_condF rfl ?_ | refine W_region ?_ | refine W_skip ?_ | refine W_ret ?_ | refine W_block ?_ | refine W_exit ?_))
    (refine W_cond rfl (fun hc => ?_) (fun hc => ?_))
    · simp at hc; omega
    · have hk' : k = js.length := by omega
      subst hk'
      (repeat (first | refine WL_nil ?_ | (apply wl0 (hd := rfl); (first | exact qv0 | exact QV_bne Try.underlying4 rfl rfl | exact QV_beq Try.underlying4 rfl rfl | exact qv1); (exact gy0)) | (apply wlb (hd := rfl); (first | exact q_box rfl rfl rfl | exact q_alloc); (exact gy0); rfl) | refine wln ⟨_, rfl, rfl⟩ rfl ?_ | refine wst rfl rfl rfl List.not_mem_nil rfl rfl rfl rfl rfl rfl ?_ | refine W_seq ?_ | refine W_condT rfl ?_ | refine W_condF rfl ?_ | refine W_region ?_ | refine W_skip ?_ | refine W_ret ?_ | refine W_block ?_ | refine W_exit ?_))
      refine Exists.intro _ ⟨Weak.refl _, Exists.intro _ ⟨resA_tmp rfl rfl, ?_, rfl⟩⟩
      rw [pllB, hall]
      rfl
theorem implPlacesOf_go (js : List Jt) (ls : List Ld) (t : Th) (hj : js.length ≤ 1048576) (hn : ls.length ≤ 1048576) : CallOk Try.prog 134 [.agg [slJt js], slLd ls, t.av] (fun r => r = bif pllB js ls t then .own 7 157 2 (plTo (plR js ls t) js.length) else .v (.slice none 0 0)) := by
  refine callOk Try.func134 Try.ntmps134 Try.results134 rfl rfl rfl fun B w0 I0 => ?_
  (repeat (first | refine WL_nil ?_ | (apply wl0 (hd := rfl); (first | exact qv0 | exact QV_bne Try.underlying4 rfl rfl | exact QV_beq Try.underlying4 rfl rfl | exact qv1); (exact gy0)) | (apply wlb (hd := rfl); (first | exact q_box rfl rfl rfl | exact q_alloc); (exact gy0); rfl) | refine wln ⟨_, rfl, rfl⟩ rfl ?_ | refine wst rfl rfl rfl List.not_mem_nil rfl rfl rfl rfl rfl rfl ?_ | refine W_seq ?_ | refine W_condT rfl ?_ | refine W_condF rfl ?_ | refine W_region ?_ | refine W_skip ?_ | refine W_ret ?_ | refine W_block ?_ | refine W_exit ?_))
  refine W_scope 0 (fun n s => ∃ k : Nat, k ≤ js.length ∧ n = js.length - k ∧ ((List.range k).all fun i => placB js ls t i) = true ∧ s = ⟨[(1, slLd ls), (3, .ptr 3 0), (5, .ptr 5 0), (7, .own 7 157 2 (plTo (plR js ls t) k)), (8, vi k)], [(5, t.row), (3, [slJt js])], [7]⟩) rfl ?_ (fun hfirst => ?_)
  · rintro n s ⟨k, hk, rfl, hall, rfl⟩
    by_cases hlt : k < js.length
    · have c1 : abin .eql .i64 k js.length = some (.bool false) := by simp [abin]; omega
      have h1 := implPlaceAt_ok js ls t k hj hn
      have happ : (plTo (plR js ls t) k).length + [plR js ls t k].length ≤ 1048576 := by rw [plTo_len]; simp; omega
      cases e1 : placB js ls t k
      · rw [e1] at h1
        (repeat (first | refine WL_nil ?_ | (apply wl0 (hd := rfl); (first | exact QV_bin rfl rfl c1 | exact qv0 | exact QV_bne Try.underlying4 rfl rfl | exact QV_beq Try.underlying4 rfl rfl | exact qv1 | exact q_callA (h1)); (exact gy0)) | (apply wlb (hd := rfl); (first | exact q_box rfl rfl rfl | exact q_alloc); (exact gy0); rfl) | refine wln ⟨_, rfl, rfl⟩ rfl ?_ | refine wst rfl rfl rfl List.not_mem_nil rfl rfl rfl rfl rfl rfl ?_ | refine W_seq ?_ | refine W_condT rfl ?_ | refine W_condF rfl ?_ | refine W_region ?_ | refine W_skip ?_ | refine W_ret ?_ | refine W_block ?_ | refine W_exit ?_))
        refine Exists.intro _ ⟨Weak.refl _, Exists.intro _ ⟨resA_tmp rfl rfl, ?_, rfl⟩⟩
        rw [pllB, all_range_false hlt e1]
        rfl
      · rw [e1] at h1
        have hall' := plA_all hall e1
        (repeat (first | refine WL_nil ?_ | (apply wl0 (hd := rfl); (first | exact QV_bin rfl rfl c1 | exact qv0 | exact QV_bne Try.underlying4 rfl rfl | exact QV_beq Try.underlying4 rfl rfl | exact qv1 | exact q_callA (h1)); (exact gy0)) | (apply wlb (hd := rfl); (first | exact q_box rfl rfl rfl | exact q_alloc); (exact gy0); rfl) | refine wln ⟨_, rfl, rfl⟩ rfl ?_ | (apply wln1 (hd := rfl); exact q_buildSlice 33 rfl rfl rfl rfl; (exact gy0); rfl) | refine wst rfl rfl rfl List.not_mem_nil rfl rfl rfl rfl rfl rfl ?_ | refine wappE rfl rfl rfl (pl_cells js ls t k) (pl_lens js ls t k) happ rfl rfl (plTo_succ _ k) rfl rfl ?_ | refine W_goto ?_ | refine W_seq ?_ | refine W_condT rfl ?_ | refine W_condF rfl ?_ | refine W_region ?_ | refine W_skip ?_ | refine W_ret ?_ | refine W_block ?_ | refine W_exit ?_))
        refine And.intro rfl ?_
        refine Exists.intro _ (Exists.intro _ ⟨?_, ⟨k + 1, by omega, rfl, hall', rfl⟩, (weak_mk (by repeat' (first | exact trivial | refine And.intro ?_ ?_ | exact Le.refl | exact Le.nilOwn rfl | exact Le.nilSl | exact Le.ownSl | exact Le.top)) (by repeat' (first | exact trivial | refine And.intro ?_ ?_ | exact ⟨_, rfl, Les.refl _⟩ | exact ⟨_, rfl, by repeat' (first | exact Les.nil | exact Les.cons Le.refl (Les.refl _) | refine Les.cons (by first | exact Le.top | exact Le.refl | exact Le.ownSl | exact Le.nilSl) ?_)⟩)) rfl (by repeat' (first | exact trivial | refine And.intro ?_ ?_ | exact rfl | exact refs_fill (fun _ => rfl) rfl | exact refs_map (fun _ => rfl))) (fun _ _ _ h => by first | exact h.elim | (obtain ⟨rfl, rfl, rfl⟩ := h; simp)))⟩)
        omega
    · have hk' : k = js.length := by omega
      subst hk'
      have c1 : abin .eql .i64 js.length js.length = some (.bool true) := by simp [abin]
      (repeat (first | refine WL_nil ?_ | (apply wl0 (hd := rfl); (first | exact QV_bin rfl rfl c1 | exact qv0 | exact QV_bne Try.underlying4 rfl rfl | exact QV_beq Try.underlying4 rfl rfl | exact qv1); (exact gy0)) | (apply wlb (hd := rfl); (first | exact q_box rfl rfl rfl | exact q_alloc); (exact gy0); rfl) | refine wln ⟨_, rfl, rfl⟩ rfl ?_ | refine wst rfl rfl rfl List.not_mem_nil rfl rfl rfl rfl rfl rfl ?_ | refine W_seq ?_ | refine W_condT rfl ?_ | refine W_condF rfl ?_ | refine W_region ?_ | refine W_skip ?_ | refine W_ret ?_ | refine W_block ?_ | refine W_exit ?_))
      refine Exists.intro _ ⟨Weak.refl _, Exists.intro _ ⟨resA_tmp rfl rfl, ?_, rfl⟩⟩
      rw [pllB, hall]
      rfl
  · (repeat (first | refine WL_nil ?_ | (apply wl0 (hd := rfl); (first | exact qv0 | exact QV_bne Try.underlying4 rfl rfl | exact QV_beq Try.underlying4 rfl rfl | exact qv1); (exact gy0)) | (apply wlb (hd := rfl); (first | exact q_box rfl rfl rfl | exact q_alloc); (exact gy0); rfl) | refine wln ⟨_, rfl, rfl⟩ rfl ?_ | refine wst rfl rfl rfl List.not_mem_nil rfl rfl rfl rfl rfl rfl ?_ | refine W_seq ?_ | refine W_condT rfl ?_ | refine W_condF rfl ?_ | refine W_region ?_ | refine W_skip ?_ | refine W_ret ?_ | refine W_block ?_ | refine W_exit ?_))
    refine W_label ?_
    exact hfirst _ ⟨_, _, ⟨0, by omega, rfl, rfl, rfl⟩, (weak_mk (by repeat' (first | exact trivial | refine And.intro ?_ ?_ | exact Le.refl | exact Le.nilOwn rfl | exact Le.nilSl | exact Le.ownSl | exact Le.top)) (by repeat' (first | exact trivial | refine And.intro ?_ ?_ | exact ⟨_, rfl, Les.refl _⟩ | exact ⟨_, rfl, by repeat' (first | exact Les.nil | exact Les.cons Le.refl (Les.refl _) | refine Les.cons (by first | exact Le.top | exact Le.refl | exact Le.ownSl | exact Le.nilSl) ?_)⟩)) rfl (by repeat' (first | exact trivial | refine And.intro ?_ ?_ | exact rfl | exact refs_fill (fun _ => rfl) rfl | exact refs_map (fun _ => rfl))) (fun _ _ _ h => by first | exact h.elim | (obtain ⟨rfl, rfl, rfl⟩ := h; simp)))⟩
theorem implPlacesOf_ok (js : List Jt) (ls : List Ld) (t : Th) (hj : js.length ≤ 1048576) (hn : ls.length ≤ 1048576) : CallOk Try.prog 134 [.agg [slJt js], slLd ls, t.av] (fun r => r = .sl 2 (bif pllB js ls t then plTo (plR js ls t) js.length else [])) := by
  have h := implPlacesOf_go js ls t hj hn
  cases e : pllB js ls t
  · rw [e] at h
    exact callOk_nilSl h
  · rw [e] at h
    exact callOk_dat h rfl
def tjF (js : List Jt) (ls : List Ld) (t : Th) (k : Nat) : Bool := decide (plN js ls t k = 0) || decide (plN js ls t k = plD js ls t k)
def tjL (js : List Jt) (ls : List Ld) (t : Th) (m : Nat) : List Int := ((List.range m).filter (tjF js ls t)).map fun k : Nat => (k : Int)
def tjA (js : List Jt) (ls : List Ld) (t : Th) : List Int := bif pllB js ls t then tjL js ls t js.length else []
theorem tjL_len (js : List Jt) (ls : List Ld) (t : Th) (m : Nat) : (tjL js ls t m).length ≤ m := by
  unfold tjL
  rw [List.length_map]
  exact Nat.le_trans (List.length_filter_le _ _) (by simp)
theorem tjA_len (js : List Jt) (ls : List Ld) (t : Th) (hj : js.length ≤ 1048576) : (tjA js ls t).length ≤ 1048576 := by
  unfold tjA
  cases pllB js ls t
  · simp
  · exact Nat.le_trans (tjL_len _ _ _ _) hj
theorem tjA_or (js : List Jt) (ls : List Ld) (t : Th) : tjA js ls t = [] ∨ 0 < (tjA js ls t).length := by
  cases h : tjA js ls t
  · exact .inl rfl
  · exact .inr (by simp)
theorem tjL_app {js : List Jt} {ls : List Ld} {t : Th} {m : Nat} (h : tjF js ls t m = true) : (tjL js ls t m).map iRow ++ [iRow m] = (tjL js ls t (m + 1)).map iRow := by
  unfold tjL
  rw [List.range_succ, List.filter_append]
  simp [h]
theorem tjL_same {js : List Jt} {ls : List Ld} {t : Th} {m : Nat} (h : tjF js ls t m = false) : (tjL js ls t m).map iRow = (tjL js ls t (m + 1)).map iRow := by
  unfold tjL
  rw [List.range_succ, List.filter_append]
  simp [h]
theorem i_cells (k : Int) : ∀ x ∈ [iRow k].flatten, isCell x = true := by
  intro x hx
  simp only [iRow, List.flatten_cons, List.flatten_nil, List.append_nil, List.mem_cons, List.not_mem_nil, or_false] at hx
  rcases hx with rfl; rfl
theorem i_lens (k : Int) : ∀ r ∈ [iRow k], r.length = 1 := by
  intro r hr
  rw [List.mem_singleton.1 hr]; rfl
theorem tjF_cases (js : List Jt) (ls : List Ld) (t : Th) (k : Nat) : (plN js ls t k = 0 ∧ tjF js ls t k = true) ∨ (plN js ls t k ≠ 0 ∧ plN js ls t k = plD js ls t k ∧ tjF js ls t k = true) ∨ (plN js ls t k ≠ 0 ∧ plN js ls t k ≠ plD js ls t k ∧ tjF js ls t k = false) := by
  unfold tjF
  by_cases h1 : plN js ls t k = 0
  · exact .inl ⟨h1, by simp [h1]⟩
  · by_cases h2 : plN js ls t k = plD js ls t k
    · exact .inr (.inl ⟨h1, h2, by simp [h2]⟩)
    · exact .inr (.inr ⟨h1, h2, by simp [h1, h2]⟩)
theorem touchedJoints_ok (js : List Jt) (ls : List Ld) (t : Th) (hj : js.length ≤ 1048576) (hn : ls.length ≤ 1048576) : CallOk Try.prog 73 [.agg [slJt js], slLd ls, t.av] (fun r => r = slI (tjA js ls t)) := by
  have h0 := placesOf_ok js ls t hj hn
  refine callOk_dat (X := .own 10 3 1 ((tjA js ls t).map iRow)) ?_ rfl
  unfold tjA
  refine callOk Try.func73 Try.ntmps73 Try.results73 rfl rfl rfl fun B w0 I0 => ?_
  cases e : pllB js ls t
  · rw [e] at h0
    (repeat (first | refine WL_nil ?_ | (apply wl0 (hd := rfl); (first | exact qv0 | exact QV_bne Try.underlying4 rfl rfl | exact QV_beq Try.underlying4 rfl rfl | exact qv1 | exact q_callA (h0)); (exact gy0)) | (apply wlb (hd := rfl); (first | exact q_box rfl rfl rfl | exact q_alloc); (exact gy0); rfl) | refine wln ⟨_, rfl, rfl⟩ rfl ?_ | (apply wln1 (hd := rfl); exact q_buildSlice 10 rfl rfl rfl rfl; (exact gy0); rfl) | refine wst rfl rfl rfl List.not_mem_nil rfl rfl rfl rfl rfl rfl ?_ | refine W_seq ?_ | refine W_condT rfl ?_ | refine W_condF rfl ?_ | refine W_region ?_ | refine W_skip ?_ | refine W_ret ?_ | refine W_block ?_ | refine W_exit ?_))
    refine W_loop (fun n s => n = 0 ∧ s = ⟨[(7, .own 10 3 1 []), (8, .sl 1 []), (9, vi 0)], [], [10]⟩) ⟨_, _, ⟨rfl, rfl⟩, (weak_mk (by repeat' (first | exact trivial | refine And.intro ?_ ?_ | exact Le.refl | exact Le.nilOwn rfl | exact Le.nilSl | exact Le.ownSl | exact Le.top)) (by repeat' (first | exact trivial | refine And.intro ?_ ?_ | exact ⟨_, rfl, Les.refl _⟩ | exact ⟨_, rfl, by repeat' (first | exact Les.nil | exact Les.cons Le.refl (Les.refl _) | refine Les.cons (by first | exact Le.top | exact Le.refl | exact Le.ownSl | exact Le.nilSl) ?_)⟩)) rfl (by repeat' (first | exact trivial | refine And.intro ?_ ?_ | exact rfl | exact refs_fill (fun _ => rfl) rfl | exact refs_map (fun _ => rfl))) (fun _ _ _ h => by first | exact h.elim | (obtain ⟨rfl, rfl, rfl⟩ := h; simp)))⟩ ?_
    rintro n s ⟨rfl, rfl⟩
    (repeat (first | refine WL_nil ?_ | (apply wl0 (hd := rfl); (first | exact qv0 | exact QV_bne Try.underlying4 rfl rfl | exact QV_beq Try.underlying4 rfl rfl | exact qv1); (exact gy0)) | (apply wlb (hd := rfl); (first | exact q_box rfl rfl rfl | exact q_alloc); (exact gy0); rfl) | refine wln ⟨_, rfl, rfl⟩ rfl ?_ | refine wst rfl rfl rfl List.not_mem_nil rfl rfl rfl rfl rfl rfl ?_ | refine W_seq ?_ | refine W_condT rfl ?_ | refine W_condF rfl ?_ | refine W_region ?_ | refine W_skip ?_ | refine W_ret ?_ | refine W_block ?_ | refine W_exit ?_))
    refine Exists.intro _ ⟨Weak.refl _, Exists.intro _ ⟨resA_tmp rfl rfl, ?_, rfl⟩⟩
    rfl
  · rw [e] at h0
    simp only [cond_true] at h0 ⊢
    have hl := plTo_len (plS js ls t) js.length
    (repeat (first | refine WL_nil ?_ | (apply wl0 (hd := rfl); (first | exact qv0 | exact QV_bne Try.underlying4 rfl rfl | exact QV_beq Try.underlying4 rfl rfl | exact qv1 | exact q_callA (h0)); (exact gy0)) | (apply wlb (hd := rfl); (first | exact q_box rfl rfl rfl | exact q_alloc); (exact gy0); rfl) | refine wln ⟨_, rfl, rfl⟩ rfl ?_ | (apply wln1 (hd := rfl); exact q_buildSlice 10 rfl rfl rfl rfl; (exact gy0); rfl) | refine wst rfl rfl rfl List.not_mem_nil rfl rfl rfl rfl rfl rfl ?_ | refine W_seq ?_ | refine W_condT rfl ?_ | refine W_condF rfl ?_ | refine W_region ?_ | refine W_skip ?_ | refine W_ret ?_ | refine W_block ?_ | refine W_exit ?_))
    refine W_loop (fun n s => ∃ k : Nat, k ≤ js.length ∧ n = js.length - k ∧ s = ⟨[(7, .own 10 3 1 ((tjL js ls t k).map iRow)), (8, .sl 1 (plTo (plS js ls t) js.length)), (9, vi k)], [], [10]⟩) ⟨_, _, ⟨0, by omega, rfl, rfl⟩, (weak_mk (by repeat' (first | exact trivial | refine And.intro ?_ ?_ | exact Le.refl | exact Le.nilOwn rfl | exact Le.nilSl | exact Le.ownSl | exact Le.top)) (by repeat' (first | exact trivial | refine And.intro ?_ ?_ | exact ⟨_, rfl, Les.refl _⟩ | exact ⟨_, rfl, by repeat' (first | exact Les.nil | exact Les.cons Le.refl (Les.refl _) | refine Les.cons (by first | exact Le.top | exact Le.refl | exact Le.ownSl | exact Le.nilSl) ?_)⟩)) rfl (by repeat' (first | exact trivial | refine And.intro ?_ ?_ | exact rfl | exact refs_fill (fun _ => rfl) rfl | exact refs_map (fun _ => rfl))) (fun _ _ _ h => by first | exact h.elim | (obtain ⟨rfl, rfl, rfl⟩ := h; simp)))⟩ ?_
    rintro n s ⟨k, hk, rfl, rfl⟩
    by_cases hlt : k < js.length
    · have hp := plTo_at (plS js ls t) hlt
      have hll := tjL_len js ls t k
      have happ : ((tjL js ls t k).map iRow).length + [iRow (k : Int)].length ≤ 1048576 := by simp; omega
      (repeat (first | refine WL_nil ?_ | (apply wl0 (hd := rfl); (first | exact qv0 | exact QV_bne Try.underlying4 rfl rfl | exact QV_beq Try.underlying4 rfl rfl | exact qv1); (exact gy0)) | (apply wlb (hd := rfl); (first | exact q_box rfl rfl rfl | exact q_alloc); (exact gy0); rfl) | refine wln ⟨_, rfl, rfl⟩ rfl ?_ | refine wst rfl rfl rfl List.not_mem_nil rfl rfl rfl rfl rfl rfl ?_ | refine W_seq ?_ | refine W_condT rfl ?_ | refine W_condF rfl ?_ | refine W_region ?_ | refine W_skip ?_ | refine W_ret ?_ | refine W_block ?_ | refine W_exit ?_))
      (refine W_cond rfl (fun hc => ?_) (fun hc => ?_))
      · rcases tjF_cases js ls t k with ⟨z1, z3⟩ | ⟨z1, z2, z3⟩ | ⟨z1, z2, z3⟩
        · have c1 : abin .eql .i64 (plN js ls t k) 0 = some (.bool true) := by simp [abin, z1]
          (repeat (first | refine WL_nil ?_ | (apply wl0 (hd := rfl); (first | exact qv0 | exact QV_bne Try.underlying4 rfl rfl | exact QV_beq Try.underlying4 rfl rfl | exact qv1); (exact gy0)) | (apply wlb (hd := rfl); (first | exact q_box rfl rfl rfl | exact q_alloc); (exact gy0); rfl) | refine wln ⟨_, rfl, rfl⟩ rfl ?_ | refine wst rfl rfl rfl List.not_mem_nil rfl rfl rfl rfl rfl rfl ?_ | refine W_seq ?_ | refine W_condT rfl ?_ | refine W_condF rfl ?_ | refine W_region ?_ | refine W_skip ?_ | refine W_ret ?_ | refine W_block ?_ | refine W_exit ?_))
          refine wdraw 22 (by kernel_rfl) (by kernel_rfl) (by kernel_rfl) rfl ?_
          (repeat (first | refine HW_nil ?_ | (apply hw0 (hd := rfl); (first | exact QV_bin rfl rfl c1 | exact qv0 | exact QV_bne Try.underlying4 rfl rfl | exact QV_beq Try.underlying4 rfl rfl | exact qv1 | exact QV_indexAddr rfl rfl rfl rfl hp | exact QV_indexAddr rfl rfl rfl rfl rfl); (exact gy0)) | (apply hwb (hd := rfl); (first | exact q_box rfl rfl rfl | exact q_alloc); (exact gy0); rfl) | refine hwn ⟨_, rfl, rfl⟩ rfl ?_))
          (repeat (first | refine WL_nil ?_ | (apply wl0 (hd := rfl); (first | exact qv0 | exact QV_bne Try.underlying4 rfl rfl | exact QV_beq Try.underlying4 rfl rfl | exact qv1); (exact gy0)) | (apply wlb (hd := rfl); (first | exact q_box rfl rfl rfl | exact q_alloc); (exact gy0); rfl) | refine wln ⟨_, rfl, rfl⟩ rfl ?_ | (apply wln1 (hd := rfl); exact q_buildSlice 45 rfl rfl rfl rfl; (exact gy0); rfl) | refine wst rfl rfl rfl List.not_mem_nil rfl rfl rfl rfl rfl rfl ?_ | refine wappE rfl rfl rfl (i_cells k) (i_lens k) happ rfl rfl (tjL_app z3) rfl rfl ?_ | refine W_seq ?_ | refine W_condT rfl ?_ | refine W_condF rfl ?_ | refine W_region ?_ | refine W_skip ?_ | refine W_ret ?_ | refine W_block ?_ | refine W_exit ?_))
          refine Exists.intro _ (Exists.intro _ ⟨?_, ⟨k + 1, by omega, rfl, rfl⟩, (weak_mk (by repeat' (first | exact trivial | refine And.intro ?_ ?_ | exact Le.refl | exact Le.nilOwn rfl | exact Le.nilSl | exact Le.ownSl | exact Le.top)) (by repeat' (first | exact trivial | refine And.intro ?_ ?_ | exact ⟨_, rfl, Les.refl _⟩ | exact ⟨_, rfl, by repeat' (first | exact Les.nil | exact Les.cons Le.refl (Les.refl _) | refine Les.cons (by first | exact Le.top | exact Le.refl | exact Le.ownSl | exact Le.nilSl) ?_)⟩)) rfl (by repeat' (first | exact trivial | refine And.intro ?_ ?_ | exact rfl | exact refs_fill (fun _ => rfl) rfl | exact refs_map (fun _ => rfl))) (fun _ _ _ h => by first | exact h.elim | (obtain ⟨rfl, rfl, rfl⟩ := h; simp)))⟩)
          omega
        · have c1 : abin .eql .i64 (plN js ls t k) 0 = some (.bool false) := by simp [abin, z1]
          have c2 : abin .eql .i64 (plN js ls t k) (plD js ls t k) = some (.bool true) := by simp [abin, z2]
          (repeat (first | refine WL_nil ?_ | (apply wl0 (hd := rfl); (first | exact qv0 | exact QV_bne Try.underlying4 rfl rfl | exact QV_beq Try.underlying4 rfl rfl | exact qv1); (exact gy0)) | (apply wlb (hd := rfl); (first | exact q_box rfl rfl rfl | exact q_alloc); (exact gy0); rfl) | refine wln ⟨_, rfl, rfl⟩ rfl ?_ | refine wst rfl rfl rfl List.not_mem_nil rfl rfl rfl rfl rfl rfl ?_ | refine W_seq ?_ | refine W_condT rfl ?_ | refine W_condF rfl ?_ | refine W_region ?_ | refine W_skip ?_ | refine W_ret ?_ | refine W_block ?_ | refine W_exit ?_))
          refine wdraw 22 (by kernel_rfl) (by kernel_rfl) (by kernel_rfl) rfl ?_
          (repeat (first | refine HW_nil ?_ | (apply hw0 (hd := rfl); (first | exact QV_bin rfl rfl c1 | exact QV_bin rfl rfl c2 | exact qv0 | exact QV_bne Try.underlying4 rfl rfl | exact QV_beq Try.underlying4 rfl rfl | exact qv1 | exact QV_indexAddr rfl rfl rfl rfl hp | exact QV_indexAddr rfl rfl rfl rfl rfl); (exact gy0)) | (apply hwb (hd := rfl); (first | exact q_box rfl rfl rfl | exact q_alloc); (exact gy0); rfl) | refine hwn ⟨_, rfl, rfl⟩ rfl ?_))
          (repeat (first | refine WL_nil ?_ | (apply wl0 (hd := rfl); (first | exact qv0 | exact QV_bne Try.underlying4 rfl rfl | exact QV_beq Try.underlying4 rfl rfl | exact qv1); (exact gy0)) | (apply wlb (hd := rfl); (first | exact q_box rfl rfl rfl | exact q_alloc); (exact gy0); rfl) | refine wln ⟨_, rfl, rfl⟩ rfl ?_ | (apply wln1 (hd := rfl); exact q_buildSlice 45 rfl rfl rfl rfl; (exact gy0); rfl) | refine wst rfl rfl rfl List.not_mem_nil rfl rfl rfl rfl rfl rfl ?_ | refine wappE rfl rfl rfl (i_cells k) (i_lens k) happ rfl rfl (tjL_app z3) rfl rfl ?_ | refine W_seq ?_ | refine W_condT rfl ?_ | refine W_condF rfl ?_ | refine W_region ?_ | refine W_skip ?_ | refine W_ret ?_ | refine W_block ?_ | refine W_exit ?_))
          refine Exists.intro _ (Exists.intro _ ⟨?_, ⟨k + 1, by omega, rfl, rfl⟩, (weak_mk (by repeat' (first | exact trivial | refine And.intro ?_ ?_ | exact Le.refl | exact Le.nilOwn rfl | exact Le.nilSl | exact Le.ownSl | exact Le.top)) (by repeat' (first | exact trivial | refine And.intro ?_ ?_ | exact ⟨_, rfl, Les.refl _⟩ | exact ⟨_, rfl, by repeat' (first | exact Les.nil | exact Les.cons Le.refl (Les.refl _) | refine Les.cons (by first | exact Le.top | exact Le.refl | exact Le.ownSl | exact Le.nilSl) ?_)⟩)) rfl (by repeat' (first | exact trivial | refine And.intro ?_ ?_ | exact rfl | exact refs_fill (fun _ => rfl) rfl | exact refs_map (fun _ => rfl))) (fun _ _ _ h => by first | exact h.elim | (obtain ⟨rfl, rfl, rfl⟩ := h; simp)))⟩)
          omega
        · have c1 : abin .eql .i64 (plN js ls t k) 0 = some (.bool false) := by simp [abin, z1]
          have c2 : abin .eql .i64 (plN js ls t k) (plD js ls t k) = some (.bool false) := by simp [abin, z2]
          (repeat (first | refine WL_nil ?_ | (apply wl0 (hd := rfl); (first | exact qv0 | exact QV_bne Try.underlying4 rfl rfl | exact QV_beq Try.underlying4 rfl rfl | exact qv1); (exact gy0)) | (apply wlb (hd := rfl); (first | exact q_box rfl rfl rfl | exact q_alloc); (exact gy0); rfl) | refine wln ⟨_, rfl, rfl⟩ rfl ?_ | refine wst rfl rfl rfl List.not_mem_nil rfl rfl rfl rfl rfl rfl ?_ | refine W_seq ?_ | refine W_condT rfl ?_ | refine W_condF rfl ?_ | refine W_region ?_ | refine W_skip ?_ | refine W_ret ?_ | refine W_block ?_ | refine W_exit ?_))
          refine wdraw 22 (by kernel_rfl) (by kernel_rfl) (by kernel_rfl) rfl ?_
          (repeat (first | refine HW_nil ?_ | (apply hw0 (hd := rfl); (first | exact QV_bin rfl rfl c1 | exact QV_bin rfl rfl c2 | exact qv0 | exact QV_bne Try.underlying4 rfl rfl | exact QV_beq Try.underlying4 rfl rfl | exact qv1 | exact QV_indexAddr rfl rfl rfl rfl hp | exact QV_indexAddr rfl rfl rfl rfl rfl); (exact gy0)) | (apply hwb (hd := rfl); (first | exact q_box rfl rfl rfl | exact q_alloc); (exact gy0); rfl) | refine hwn ⟨_, rfl, rfl⟩ rfl ?_))
          rw [tjL_same z3]
          (repeat (first | refine WL_nil ?_ | (apply wl0 (hd := rfl); (first | exact qv0 | exact QV_bne Try.underlying4 rfl rfl | exact QV_beq Try.underlying4 rfl rfl | exact qv1); (exact gy0)) | (apply wlb (hd := rfl); (first | exact q_box rfl rfl rfl | exact q_alloc); (exact gy0); rfl) | refine wln ⟨_, rfl, rfl⟩ rfl ?_ | refine wst rfl rfl rfl List.not_mem_nil rfl rfl rfl rfl rfl rfl ?_ | refine W_seq ?_ | refine W_condT rfl ?_ | refine W_condF rfl ?_ | refine W_region ?_ | refine W_skip ?_ | refine W_ret ?_ | refine W_block ?_ | refine W_exit ?_))
          refine Exists.intro _ (Exists.intro _ ⟨?_, ⟨k + 1, by omega, rfl, rfl⟩, (weak_mk (by repeat' (first | exact trivial | refine And.intro ?_ ?_ | exact Le.refl | exact Le.nilOwn rfl | exact Le.nilSl | exact Le.ownSl | exact Le.top)) (by repeat' (first | exact trivial | refine And.intro ?_ ?_ | exact ⟨_, rfl, Les.refl _⟩ | exact ⟨_, rfl, by repeat' (first | exact Les.nil | exact Les.cons Le.refl (Les.refl _) | refine Les.cons (by first | exact Le.top | exact Le.refl | exact Le.ownSl | exact Le.nilSl) ?_)⟩)) rfl (by repeat' (first | exact trivial | refine And.intro ?_ ?_ | exact rfl | exact refs_fill (fun _ => rfl) rfl | exact refs_map (fun _ => rfl))) (fun _ _ _ h => by first | exact h.elim | (obtain ⟨rfl, rfl, rfl⟩ := h; simp)))⟩)
          omega
      · simp at hc; omega
    · (repeat (first | refine WL_nil ?_ | (apply wl0 (hd := rfl); (first | exact qv0 | exact QV_bne Try.underlying4 rfl rfl | exact QV_beq Try.underlying4 rfl rfl | exact qv1); (exact gy0)) | (apply wlb (hd := rfl); (first | exact q_box rfl rfl rfl | exact q_alloc); (exact gy0); rfl) | refine wln ⟨_, rfl, rfl⟩ rfl ?_ | refine wst rfl rfl rfl List.not_mem_nil rfl rfl rfl rfl rfl rfl ?_ | refine W_seq ?_ | refine W_condT rfl ?_ | refine W_condF rfl ?_ | refine W_region ?_ | refine W_skip ?_ | refine W_ret ?_ | refine W_block ?_ | refine W_exit ?_))
      (refine W_cond rfl (fun hc => ?_) (fun hc => ?_))
      · simp at hc; omega
      · have hk' : k = js.length := by omega
        subst hk'
        (repeat (first | refine WL_nil ?_ | (apply wl0 (hd := rfl); (first | exact qv0 | exact QV_bne Try.underlying4 rfl rfl | exact QV_beq Try.underlying4 rfl rfl | exact qv1); (exact gy0)) | (apply wlb (hd := rfl); (first | exact q_box rfl rfl rfl | exact q_alloc); (exact gy0); rfl) | refine wln ⟨_, rfl, rfl⟩ rfl ?_ | refine wst rfl rfl rfl List.not_mem_nil rfl rfl rfl rfl rfl rfl ?_ | refine W_seq ?_ | refine W_condT rfl ?_ | refine W_condF rfl ?_ | refine W_region ?_ | refine W_skip ?_ | refine W_ret ?_ | refine W_block ?_ | refine W_exit ?_))
        refine Exists.intro _ ⟨Weak.refl _, Exists.intro _ ⟨resA_tmp rfl rfl, ?_, rfl⟩⟩
        rfl
theorem implTouchedJoints_go (js : List Jt) (ls : List Ld) (t : Th) (hj : js.length ≤ 1048576) (hn : ls.length ≤ 1048576) : CallOk Try.prog 75 [.agg [slJt js], slLd ls, t.av] (fun r => r = .own 7 3 1 ((tjA js ls t).map iRow)) := by
  have h0 := implPlacesOf_ok js ls t hj hn
  unfold tjA
  refine callOk Try.func75 Try.ntmps75 Try.results75 rfl rfl rfl fun B w0 I0 => ?_
  cases e : pllB js ls t
  · rw [e] at h0
    (repeat (first | refine WL_nil ?_ | (apply wl0 (hd := rfl); (first | exact qv0 | exact QV_bne Try.underlying4 rfl rfl | exact QV_beq Try.underlying4 rfl rfl | exact qv1 | exact q_callA (h0)); (exact gy0)) | (apply wlb (hd := rfl); (first | exact q_box rfl rfl rfl | exact q_alloc); (exact gy0); rfl) | refine wln ⟨_, rfl, rfl⟩ rfl ?_ | refine wst rfl rfl rfl List.not_mem_nil rfl rfl rfl rfl rfl rfl ?_ | refine W_seq ?_ | refine W_condT rfl ?_ | refine W_condF rfl ?_ | refine W_region ?_ | refine W_skip ?_ | refine W_ret ?_ | refine W_block ?_ | refine W_exit ?_))
    refine W_loop (fun n s => n = 0 ∧ s = ⟨[(7, .own 7 3 1 []), (13, .sl 2 []), (14, vi 0), (15, vi 0)], [], [7]⟩) ⟨_, _, ⟨rfl, rfl⟩, (weak_mk (by repeat' (first | exact trivial | refine And.intro ?_ ?_ | exact Le.refl | exact Le.nilOwn rfl | exact Le.nilSl | exact Le.ownSl | exact Le.top)) (by repeat' (first | exact trivial | refine And.intro ?_ ?_ | exact ⟨_, rfl, Les.refl _⟩ | exact ⟨_, rfl, by repeat' (first | exact Les.nil | exact Les.cons Le.refl (Les.refl _) | refine Les.cons (by first | exact Le.top | exact Le.refl | exact Le.ownSl | exact Le.nilSl) ?_)⟩)) rfl (by repeat' (first | exact trivial | refine And.intro ?_ ?_ | exact rfl | exact refs_fill (fun _ => rfl) rfl | exact refs_map (fun _ => rfl))) (fun _ _ _ h => by first | exact h.elim | (obtain ⟨rfl, rfl, rfl⟩ := h; simp)))⟩ ?_
    rintro n s ⟨rfl, rfl⟩
    (repeat (first | refine WL_nil ?_ | (apply wl0 (hd := rfl); (first | exact qv0 | exact QV_bne Try.underlying4 rfl rfl | exact QV_beq Try.underlying4 rfl rfl | exact qv1); (exact gy0)) | (apply wlb (hd := rfl); (first | exact q_box rfl rfl rfl | exact q_alloc); (exact gy0); rfl) | refine wln ⟨_, rfl, rfl⟩ rfl ?_ | refine wst rfl rfl rfl List.not_mem_nil rfl rfl rfl rfl rfl rfl ?_ | refine W_seq ?_ | refine W_condT rfl ?_ | refine W_condF rfl ?_ | refine W_region ?_ | refine W_skip ?_ | refine W_ret ?_ | refine W_block ?_ | refine W_exit ?_))
    refine Exists.intro _ ⟨Weak.refl _, Exists.intro _ ⟨resA_tmp rfl rfl, ?_, rfl⟩⟩
    rfl
  · rw [e] at h0
    simp only [cond_true] at h0 ⊢
    have hl := plTo_len (plR js ls t) js.length
    (repeat (first | refine WL_nil ?_ | (apply wl0 (hd := rfl); (first | exact qv0 | exact QV_bne Try.underlying4 rfl rfl | exact QV_beq Try.underlying4 rfl rfl | exact qv1 | exact q_callA (h0)); (exact gy0)) | (apply wlb (hd := rfl); (first | exact q_box rfl rfl rfl | exact q_alloc); (exact gy0); rfl) | refine wln ⟨_, rfl, rfl⟩ rfl ?_ | refine wst rfl rfl rfl List.not_mem_nil rfl rfl rfl rfl rfl rfl ?_ | refine W_seq ?_ | refine W_condT rfl ?_ | refine W_condF rfl ?_ | refine W_region ?_ | refine W_skip ?_ | refine W_ret ?_ | refine W_block ?_ | refine W_exit ?_))
    refine W_loop (fun n s => ∃ k : Nat, k ≤ js.length ∧ n = js.length - k ∧ s = ⟨[(7, .own 7 3 1 ((tjL js ls t k).map iRow)), (13, .sl 2 (plTo (plR js ls t) js.length)), (14, vi (plTo (plR js ls t) js.length).length), (15, vi k)], [], [7]⟩) ⟨_, _, ⟨0, by omega, rfl, rfl⟩, (weak_mk (by repeat' (first | exact trivial | refine And.intro ?_ ?_ | exact Le.refl | exact Le.nilOwn rfl | exact Le.nilSl | exact Le.ownSl | exact Le.top)) (by repeat' (first | exact trivial | refine And.intro ?_ ?_ | exact ⟨_, rfl, Les.refl _⟩ | exact ⟨_, rfl, by repeat' (first | exact Les.nil | exact Les.cons Le.refl (Les.refl _) | refine Les.cons (by first | exact Le.top | exact Le.refl | exact Le.ownSl | exact Le.nilSl) ?_)⟩)) rfl (by repeat' (first | exact trivial | refine And.intro ?_ ?_ | exact rfl | exact refs_fill (fun _ => rfl) rfl | exact refs_map (fun _ => rfl))) (fun _ _ _ h => by first | exact h.elim | (obtain ⟨rfl, rfl, rfl⟩ := h; simp)))⟩ ?_
    rintro n s ⟨k, hk, rfl, rfl⟩
    by_cases hlt : k < js.length
    · have hp := plTo_at (plR js ls t) hlt
      have hll := tjL_len js ls t k
      have happ : ((tjL js ls t k).map iRow).length + [iRow (k : Int)].length ≤ 1048576 := by simp; omega
      (repeat (first | refine WL_nil ?_ | (apply wl0 (hd := rfl); (first | exact qv0 | exact QV_bne Try.underlying4 rfl rfl | exact QV_beq Try.underlying4 rfl rfl | exact qv1); (exact gy0)) | (apply wlb (hd := rfl); (first | exact q_box rfl rfl rfl | exact q_alloc); (exact gy0); rfl) | refine wln ⟨_, rfl, rfl⟩ rfl ?_ | refine wst rfl rfl rfl List.not_mem_nil rfl rfl rfl rfl rfl rfl ?_ | refine W_seq ?_ | refine W_condT rfl ?_ | refine W_condF rfl ?_ | refine W_region ?_ | refine W_skip ?_ | refine W_ret ?_ | refine W_block ?_ | refine W_exit ?_))
      (refine W_cond rfl (fun hc => ?_) (fun hc => ?_))
      · rcases tjF_cases js ls t k with ⟨z1, z3⟩ | ⟨z1, z2, z3⟩ | ⟨z1, z2, z3⟩
        · have c1 : abin .eql .i64 (plN js ls t k) 0 = some (.bool true) := by simp [abin, z1]
          (repeat (first | refine WL_nil ?_ | (apply wl0 (hd := rfl); (first | exact QV_bin rfl rfl c1 | exact qv0 | exact QV_bne Try.underlying4 rfl rfl | exact QV_beq Try.underlying4 rfl rfl | exact qv1 | exact QV_indexAddr rfl rfl rfl rfl hp); (exact gy0)) | (apply wlb (hd := rfl); (first | exact q_box rfl rfl rfl | exact q_alloc); (exact gy0); rfl) | refine wln ⟨_, rfl, rfl⟩ rfl ?_ | (apply wln1 (hd := rfl); exact q_buildSlice 32 rfl rfl rfl rfl; (exact gy0); rfl) | refine wst rfl rfl rfl List.not_mem_nil rfl rfl rfl rfl rfl rfl ?_ | refine wappE rfl rfl rfl (i_cells k) (i_lens k) happ rfl rfl (tjL_app z3) rfl rfl ?_ | refine W_seq ?_ | refine W_condT rfl ?_ | refine W_condF rfl ?_ | refine W_region ?_ | refine W_skip ?_ | refine W_ret ?_ | refine W_block ?_ | refine W_exit ?_))
          refine Exists.intro _ (Exists.intro _ ⟨?_, ⟨k + 1, by omega, rfl, rfl⟩, (weak_mk (by repeat' (first | exact trivial | refine And.intro ?_ ?_ | exact Le.refl | exact Le.nilOwn rfl | exact Le.nilSl | exact Le.ownSl | exact Le.top)) (by repeat' (first | exact trivial | refine And.intro ?_ ?_ | exact ⟨_, rfl, Les.refl _⟩ | exact ⟨_, rfl, by repeat' (first | exact Les.nil | exact Les.cons Le.refl (Les.refl _) | refine Les.cons (by first | exact Le.top | exact Le.refl | exact Le.ownSl | exact Le.nilSl) ?_)⟩)) rfl (by repeat' (first | exact trivial | refine And.intro ?_ ?_ | exact rfl | exact refs_fill (fun _ => rfl) rfl | exact refs_map (fun _ => rfl))) (fun _ _ _ h => by first | exact h.elim | (obtain ⟨rfl, rfl, rfl⟩ := h; simp)))⟩)
          omega
        · have c1 : abin .eql .i64 (plN js ls t k) 0 = some (.bool false) := by simp [abin, z1]
          have c2 : abin .eql .i64 (plN js ls t k) (plD js ls t k) = some (.bool true) := by simp [abin, z2]
          (repeat (first | refine WL_nil ?_ | (apply wl0 (hd := rfl); (first | exact QV_bin rfl rfl c1 | exact QV_bin rfl rfl c2 | exact qv0 | exact QV_bne Try.underlying4 rfl rfl | exact QV_beq Try.underlying4 rfl rfl | exact qv1 | exact QV_indexAddr rfl rfl rfl rfl hp); (exact gy0)) | (apply wlb (hd := rfl); (first | exact q_box rfl rfl rfl | exact q_alloc); (exact gy0); rfl) | refine wln ⟨_, rfl, rfl⟩ rfl ?_ | (apply wln1 (hd := rfl); exact q_buildSlice 32 rfl rfl rfl rfl; (exact gy0); rfl) | refine wst rfl rfl rfl List.not_mem_nil rfl rfl rfl rfl rfl rfl ?_ | refine wappE rfl rfl rfl (i_cells k) (i_lens k) happ rfl rfl (tjL_app z3) rfl rfl ?_ | refine W_seq ?_ | refine W_condT rfl ?_ | refine W_condF rfl ?_ | refine W_region ?_ | refine W_skip ?_ | refine W_ret ?_ | refine W_block ?_ | refine W_exit ?_))
          refine Exists.intro _ (Exists.intro _ ⟨?_, ⟨k + 1, by omega, rfl, rfl⟩, (weak_mk (by repeat' (first | exact trivial | refine And.intro ?_ ?_ | exact Le.refl | exact Le.nilOwn rfl | exact Le.nilSl | exact Le.ownSl | exact Le.top)) (by repeat' (first | exact trivial | refine And.intro ?_ ?_ | exact ⟨_, rfl, Les.refl _⟩ | exact ⟨_, rfl, by repeat' (first | exact Les.nil | exact Les.cons Le.refl (Les.refl _) | refine Les.cons (by first | exact Le.top | exact Le.refl | exact Le.ownSl | exact Le.nilSl) ?_)⟩)) rfl (by repeat' (first | exact trivial | refine And.intro ?_ ?_ | exact rfl | exact refs_fill (fun _ => rfl) rfl | exact refs_map (fun _ => rfl))) (fun _ _ _ h => by first | exact h.elim | (obtain ⟨rfl, rfl, rfl⟩ := h; simp)))⟩)
          omega
        · have c1 : abin .eql .i64 (plN js ls t k) 0 = some (.bool false) := by simp [abin, z1]
          have c2 : abin .eql .i64 (plN js ls t k) (plD js ls t k) = some (.bool false) := by simp [abin, z2]
          rw [tjL_same z3]
          (repeat (first | refine WL_nil ?_ | (apply wl0 (hd := rfl); (first | exact QV_bin rfl rfl c1 | exact QV_bin rfl rfl c2 | exact qv0 | exact QV_bne Try.underlying4 rfl rfl | exact QV_beq Try.underlying4 rfl rfl | exact qv1 | exact QV_indexAddr rfl rfl rfl rfl hp); (exact gy0)) | (apply wlb (hd := rfl); (first | exact q_box rfl rfl rfl | exact q_alloc); (exact gy0); rfl) | refine wln ⟨_, rfl, rfl⟩ rfl ?_ | refine wst rfl rfl rfl List.not_mem_nil rfl rfl rfl rfl rfl rfl ?_ | refine W_seq ?_ | refine W_condT rfl ?_ | refine W_condF rfl ?_ | refine W_region ?_ | refine W_skip ?_ | refine W_ret ?_ | refine W_block ?_ | refine W_exit ?_))
          refine Exists.intro _ (Exists.intro _ ⟨?_, ⟨k + 1, by omega, rfl, rfl⟩, (weak_mk (by repeat' (first | exact trivial | refine And.intro ?_ ?_ | exact Le.refl | exact Le.nilOwn rfl | exact Le.nilSl | exact Le.ownSl | exact Le.top)) (by repeat' (first | exact trivial | refine And.intro ?_ ?_ | exact ⟨_, rfl, Les.refl _⟩ | exact ⟨_, rfl, by repeat' (first | exact Les.nil | exact Les.cons Le.refl (Les.refl _) | refine Les.cons (by first | exact Le.top | exact Le.refl | exact Le.ownSl | exact Le.nilSl) ?_)⟩)) rfl (by repeat' (first | exact trivial | refine And.intro ?_ ?_ | exact rfl | exact refs_fill (fun _ => rfl) rfl | exact refs_map (fun _ => rfl))) (fun _ _ _ h => by first | exact h.elim | (obtain ⟨rfl, rfl, rfl⟩ := h; simp)))⟩)
          omega
      · simp at hc; omega
    · (repeat (first | refine WL_nil ?_ | (apply wl0 (hd := rfl); (first | exact qv0 | exact QV_bne Try.underlying4 rfl rfl | exact QV_beq Try.underlying4 rfl rfl | exact qv1); (exact gy0)) | (apply wlb (hd := rfl); (first | exact q_box rfl rfl rfl | exact q_alloc); (exact gy0); rfl) | refine wln ⟨_, rfl, rfl⟩ rfl ?_ | refine wst rfl rfl rfl List.not_mem_nil rfl rfl rfl rfl rfl rfl ?_ | refine W_seq ?_ | refine W_condT rfl ?_ | refine W_condF rfl ?_ | refine W_region ?_ | refine W_skip ?_ | refine W_ret ?_ | refine W_block ?_ | refine W_exit ?_))
      (refine W_cond rfl (fun hc => ?_) (fun hc => ?_))
      · simp at hc; omega
      · have hk' : k = js.length := by omega
        subst hk'
        (repeat (first | refine WL_nil ?_ | (apply wl0 (hd := rfl); (first | exact qv0 | exact QV_bne Try.underlying4 rfl rfl | exact QV_beq Try.underlying4 rfl rfl | exact qv1); (exact gy0)) | (apply wlb (hd := rfl); (first | exact q_box rfl rfl rfl | exact q_alloc); (exact gy0); rfl) | refine wln ⟨_, rfl, rfl⟩ rfl ?_ | refine wst rfl rfl rfl List.not_mem_nil rfl rfl rfl rfl rfl rfl ?_ | refine W_seq ?_ | refine W_condT rfl ?_ | refine W_condF rfl ?_ | refine W_region ?_ | refine W_skip ?_ | refine W_ret ?_ | refine W_block ?_ | refine W_exit ?_))
        refine Exists.intro _ ⟨Weak.refl _, Exists.intro _ ⟨resA_tmp rfl rfl, ?_, rfl⟩⟩
        rfl
end Go.Proofs.Ytkadjimnamcjbaa
