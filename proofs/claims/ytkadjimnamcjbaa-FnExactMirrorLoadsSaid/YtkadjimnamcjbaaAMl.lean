/- MirrorLoads, both ways. -/
import Derived.Test.YtkadjimnamcjbaaALd
import Derived.Test.YtkadjimnamcjbaaECp
namespace Go.Proofs.Ytkadjimnamcjbaa
open Go.Eng
set_option maxRecDepth 100000
attribute [local irreducible] QV TV WL HW W CallOk Weak

def mir (n : Nat) (x : Int) (l : Ld) : Ld := ⟨(n : Int) - 2 - l.s, l.w, 2 * x - l.x⟩
def mirX (x : Int) (l : Ld) : Bool := inR (2 * x - l.x) (-60) 60
def mirB (js : List Jt) (ls : List Ld) (x : Int) : Bool := loadsB js ls && (inR x (-60) 60 && ls.all (mirX x))
def mirL (js : List Jt) (ls : List Ld) (x : Int) : List Ld := ls.map (mir js.length x)
theorem ld_cells (l : List Ld) : ∀ x ∈ (l.map Ld.row).flatten, isCell x = true := by
  intro x hx
  obtain ⟨r, hr, hx⟩ := List.mem_flatten.1 hx
  obtain ⟨p, _, rfl⟩ := List.mem_map.1 hr
  simp only [Ld.row, List.mem_cons, List.not_mem_nil, or_false] at hx
  rcases hx with rfl | rfl | rfl <;> rfl
theorem ld_lens (l : List Ld) : ∀ r ∈ l.map Ld.row, r.length = 3 := by
  intro r hr
  obtain ⟨p, _, rfl⟩ := List.mem_map.1 hr
  rfl
theorem loads_in {js : List Jt} {ls : List Ld} (h : loadsB js ls = true) {k : Nat} (hk : k < ls.length) : (0 ≤ (lat ls k).s ∧ (lat ls k).s ≤ js.length - 2) ∧ (0 ≤ (lat ls k).w ∧ (lat ls k).w ≤ 10000) ∧ -60 ≤ (lat ls k).x ∧ (lat ls k).x ≤ 60 := by
  simp only [loadsB, Bool.and_eq_true, List.all_eq_true] at h
  have := h.2.2 (lat ls k) (List.mem_of_getElem? (lat_lt hk))
  simp only [ldOk, Bool.and_eq_true, inR_true] at this
  exact this
theorem mirL_app {js : List Jt} {ls : List Ld} {x : Int} {k : Nat} (h : k < ls.length) : ((ls.take k).map (mir js.length x)).map Ld.row ++ [(mir js.length x (lat ls k)).row] = ((ls.take (k + 1)).map (mir js.length x)).map Ld.row := by
  rw [List.take_add_one, lat_lt h]
  simp
theorem mirL_set {js : List Jt} {ls : List Ld} {x : Int} {k : Nat} (h : k < ls.length) : (((ls.take k).map (mir js.length x) ++ ls.drop k).map Ld.row).set k (mir js.length x (lat ls k)).row = ((ls.take (k + 1)).map (mir js.length x) ++ ls.drop (k + 1)).map Ld.row := by
  have hk : k < ls.length := h
  have hlen : (((ls.take k).map (mir js.length x)).map Ld.row).length = k := by simp; omega
  have hd : ls.drop k = lat ls k :: ls.drop (k + 1) := by
    rw [List.drop_eq_getElem_cons hk]
    have := lat_lt h
    rw [List.getElem?_eq_getElem hk] at this
    rw [Option.some.inj this]
  rw [List.map_append, List.set_append_right _ _ (by omega), hlen, Nat.sub_self, hd, List.take_add_one, lat_lt h]
  simp
theorem mirL_at {js : List Jt} {ls : List Ld} {x : Int} {k : Nat} (h : k < ls.length) : (((ls.take k).map (mir js.length x) ++ ls.drop k).map Ld.row)[k]? = some (lat ls k).row := by
  rw [List.map_append, List.getElem?_append_right (by rw [List.length_map, List.length_map, List.length_take]; omega), List.getElem?_map, List.getElem?_drop]
  have : k + (k - (((ls.take k).map (mir js.length x)).map Ld.row).length) = k := by simp; omega
  rw [this, lat_lt h]
  rfl
theorem mirrorLoads_ok (js : List Jt) (ls : List Ld) (x : Int) (hj : js.length ≤ 1048576) (hn : ls.length ≤ 1048576) : CallOk Try.prog 56 [.agg [slJt js], slLd ls, vi x] (fun r => r = bif mirB js ls x then .tup [slLd (mirL js ls x), vb true] else .tup [slLd [], vb false]) := by
  have hlo := loadsOk_ok js ls hj hn
  have hx := l01In_ok x (-60) 60
  unfold mirB
  cases e1 : loadsB js ls
  · rw [e1] at hlo
    refine callOk_dat (X := .tup [.own 11 145 3 [], vb false]) ?_ rfl
    refine callOk Try.func56 Try.ntmps56 Try.results56 rfl rfl rfl fun B w0 I0 => ?_
    (repeat (first | refine WL_nil ?_ | (apply wl0 (hd := rfl); (first | exact qv0 | exact QV_bne Try.underlying4 rfl rfl | exact QV_beq Try.underlying4 rfl rfl | exact qv1 | exact q_callA (hlo)); (exact gy0)) | (apply wlb (hd := rfl); (first | exact q_box rfl rfl rfl | exact q_alloc); (exact gy0); rfl) | refine wln ⟨_, rfl, rfl⟩ rfl ?_ | (apply wln1 (hd := rfl); exact q_buildSlice 11 rfl rfl rfl rfl; (exact gy0); rfl) | refine wst rfl rfl rfl List.not_mem_nil rfl rfl rfl rfl rfl rfl ?_ | refine W_seq ?_ | refine W_condT rfl ?_ | refine W_condF rfl ?_ | refine W_region ?_ | refine W_skip ?_ | refine W_ret ?_ | refine W_block ?_ | refine W_exit ?_))
    refine Exists.intro _ ⟨Weak.refl _, Exists.intro _ ⟨resA_tmp rfl (resA_tmp rfl rfl), ?_, rfl⟩⟩
    rfl
  · rw [e1] at hlo
    cases e2 : inR x (-60) 60
    · rw [e2] at hx
      refine callOk_dat (X := .tup [.own 11 145 3 [], vb false]) ?_ rfl
      refine callOk Try.func56 Try.ntmps56 Try.results56 rfl rfl rfl fun B w0 I0 => ?_
      (repeat (first | refine WL_nil ?_ | (apply wl0 (hd := rfl); (first | exact qv0 | exact QV_bne Try.underlying4 rfl rfl | exact QV_beq Try.underlying4 rfl rfl | exact qv1 | exact q_callA (hlo) | exact q_callA (hx)); (exact gy0)) | (apply wlb (hd := rfl); (first | exact q_box rfl rfl rfl | exact q_alloc); (exact gy0); rfl) | refine wln ⟨_, rfl, rfl⟩ rfl ?_ | (apply wln1 (hd := rfl); exact q_buildSlice 11 rfl rfl rfl rfl; (exact gy0); rfl) | refine wst rfl rfl rfl List.not_mem_nil rfl rfl rfl rfl rfl rfl ?_ | refine W_seq ?_ | refine W_condT rfl ?_ | refine W_condF rfl ?_ | refine W_region ?_ | refine W_skip ?_ | refine W_ret ?_ | refine W_block ?_ | refine W_exit ?_))
      refine Exists.intro _ ⟨Weak.refl _, Exists.intro _ ⟨resA_tmp rfl (resA_tmp rfl rfl), ?_, rfl⟩⟩
      rfl
    · rw [e2] at hx
      have hx2 := inR_true.1 e2
      have h8 := arch_len (loads_arch e1)
      refine callOk_dat (X := bif ls.all (mirX x) then .tup [.own 11 145 3 ((mirL js ls x).map Ld.row), vb true] else .tup [.own 56 145 3 [], vb false]) ?_ (by simp only [Bool.true_and]; cases ls.all (mirX x) <;> rfl)
      refine callOk Try.func56 Try.ntmps56 Try.results56 rfl rfl rfl fun B w0 I0 => ?_
      (repeat (first | refine WL_nil ?_ | (apply wl0 (hd := rfl); (first | exact qv0 | exact QV_bne Try.underlying4 rfl rfl | exact QV_beq Try.underlying4 rfl rfl | exact qv1 | exact q_callA (hlo) | exact q_callA (hx)); (exact gy0)) | (apply wlb (hd := rfl); (first | exact q_box rfl rfl rfl | exact q_alloc); (exact gy0); rfl) | refine wln ⟨_, rfl, rfl⟩ rfl ?_ | (apply wln1 (hd := rfl); exact q_buildSlice 11 rfl rfl rfl rfl; (exact gy0); rfl) | refine wst rfl rfl rfl List.not_mem_nil rfl rfl rfl rfl rfl rfl ?_ | refine W_seq ?_ | refine W_condT rfl ?_ | refine W_condF rfl ?_ | refine W_region ?_ | refine W_skip ?_ | refine W_ret ?_ | refine W_block ?_ | refine W_exit ?_))
      refine W_loop (fun n s => ∃ k : Nat, k ≤ ls.length ∧ n = ls.length - k ∧ (ls.take k).all (mirX x) = true ∧ s = ⟨[(1, slLd ls), (2, vi x), (3, .ptr 3 0), (8, .own 11 145 3 (((ls.take k).map (mir js.length x)).map Ld.row)), (9, vi k)], [(3, [slJt js])], [11]⟩) ⟨_, _, ⟨0, by omega, rfl, rfl, rfl⟩, (weak_mk (by repeat' (first | exact trivial | refine And.intro ?_ ?_ | exact Le.refl | exact Le.nilOwn rfl | exact Le.nilSl | exact Le.ownSl | exact Le.top)) (by repeat' (first | exact trivial | refine And.intro ?_ ?_ | exact ⟨_, rfl, Les.refl _⟩ | exact ⟨_, rfl, by repeat' (first | exact Les.nil | exact Les.cons Le.refl (Les.refl _) | refine Les.cons (by first | exact Le.top | exact Le.refl | exact Le.ownSl | exact Le.nilSl) ?_)⟩)) rfl (by repeat' (first | exact trivial | refine And.intro ?_ ?_ | exact rfl | exact refs_fill (fun _ => rfl) rfl | exact refs_map (fun _ => rfl))) (fun _ _ _ h => by first | exact h.elim | (obtain ⟨rfl, rfl, rfl⟩ := h; simp)))⟩ ?_
      rintro n s ⟨k, hk, rfl, hall, rfl⟩
      by_cases hlt : k < ls.length
      · have hp := lat_lt hlt
        have hb := loads_in e1 hlt
        have h1 := l01In_ok (2 * x - (lat ls k).x) (-60) 60
        have happ : (((ls.take k).map (mir js.length x)).map Ld.row).length + [(mir js.length x (lat ls k)).row].length ≤ 1048576 := by simp; omega
        (repeat (first | refine WL_nil ?_ | (apply wl0 (hd := rfl); (first | exact qv0 | exact QV_bne Try.underlying4 rfl rfl | exact QV_beq Try.underlying4 rfl rfl | exact qv1); (exact gy0)) | (apply wlb (hd := rfl); (first | exact q_box rfl rfl rfl | exact q_alloc); (exact gy0); rfl) | refine wln ⟨_, rfl, rfl⟩ rfl ?_ | refine wst rfl rfl rfl List.not_mem_nil rfl rfl rfl rfl rfl rfl ?_ | refine W_seq ?_ | refine W_condT rfl ?_ | refine W_condF rfl ?_ | refine W_region ?_ | refine W_skip ?_ | refine W_ret ?_ | refine W_block ?_ | refine W_exit ?_))
        (refine W_cond rfl (fun hc => ?_) (fun hc => ?_))
        · (repeat (first | refine WL_nil ?_ | (apply wl0 (hd := rfl); (first | exact qv0 | exact QV_bne Try.underlying4 rfl rfl | exact QV_beq Try.underlying4 rfl rfl | exact qv1); (exact gy0)) | (apply wlb (hd := rfl); (first | exact q_box rfl rfl rfl | exact q_alloc); (exact gy0); rfl) | refine wln ⟨_, rfl, rfl⟩ rfl ?_ | refine wst rfl rfl rfl List.not_mem_nil rfl rfl rfl rfl rfl rfl ?_ | refine W_seq ?_ | refine W_condT rfl ?_ | refine W_condF rfl ?_ | refine W_region ?_ | refine W_skip ?_ | refine W_ret ?_ | refine W_block ?_ | refine W_exit ?_))
          refine wdraw 25 (by kernel_rfl) (by kernel_rfl) (by kernel_rfl) rfl ?_
          (repeat (first | refine HW_nil ?_ | (apply hw0 (hd := rfl); (first | exact qv0 | exact QV_bne Try.underlying4 rfl rfl | exact QV_beq Try.underlying4 rfl rfl | exact qv1 | exact QV_indexAddr rfl rfl rfl rfl (row_at hp)); (exact gy0)) | (apply hwb (hd := rfl); (first | exact q_box rfl rfl rfl | exact q_allocT rfl); (exact gy0); rfl) | refine hwn ⟨_, rfl, rfl⟩ rfl ?_ | refine hwi rfl rfl List.not_mem_nil rfl rfl rfl rfl rfl ?_))
          cases e3 : mirX x (lat ls k)
          · unfold mirX at e3
            rw [e3] at h1
            (repeat (first | refine WL_nil ?_ | (apply wl0 (hd := rfl); (first | exact qv0 | exact QV_bne Try.underlying4 rfl rfl | exact QV_beq Try.underlying4 rfl rfl | exact qv1 | exact q_callA (h1)); (exact gy0)) | (apply wlb (hd := rfl); (first | exact q_box rfl rfl rfl | exact q_alloc); (exact gy0); rfl) | refine wln ⟨_, rfl, rfl⟩ rfl ?_ | (apply wln1 (hd := rfl); exact q_buildSlice 56 rfl rfl rfl rfl; (exact gy0); rfl) | refine wst rfl rfl rfl List.not_mem_nil rfl rfl rfl rfl rfl rfl ?_ | refine W_seq ?_ | refine W_condT rfl ?_ | refine W_condF rfl ?_ | refine W_region ?_ | refine W_skip ?_ | refine W_ret ?_ | refine W_block ?_ | refine W_exit ?_))
            refine Exists.intro _ ⟨Weak.refl _, Exists.intro _ ⟨resA_tmp rfl (resA_tmp rfl rfl), ?_, rfl⟩⟩
            rw [all_at_false hp e3]
            rfl
          · have hall' : (ls.take (k + 1)).all (mirX x) = true := by rw [all_take_succ hp, hall, e3]; rfl
            unfold mirX at e3
            rw [e3] at h1
            (repeat (first | refine WL_nil ?_ | (apply wl0 (hd := rfl); (first | exact qv0 | exact QV_bne Try.underlying4 rfl rfl | exact QV_beq Try.underlying4 rfl rfl | exact qv1 | exact q_callA (h1)); (exact gy0)) | (apply wlb (hd := rfl); (first | exact q_box rfl rfl rfl | exact q_alloc); (exact gy0); rfl) | refine wln ⟨_, rfl, rfl⟩ rfl ?_ | (apply wln1 (hd := rfl); exact q_buildSlice 59 rfl rfl rfl rfl; (exact gy0); rfl) | refine wst rfl rfl rfl List.not_mem_nil rfl rfl rfl rfl rfl rfl ?_ | refine wappE rfl rfl rfl (ld_cells [mir js.length x (lat ls k)]) (ld_lens [mir js.length x (lat ls k)]) happ rfl rfl (mirL_app hlt) rfl rfl ?_ | refine W_seq ?_ | refine W_condT rfl ?_ | refine W_condF rfl ?_ | refine W_region ?_ | refine W_skip ?_ | refine W_ret ?_ | refine W_block ?_ | refine W_exit ?_))
            refine Exists.intro _ (Exists.intro _ ⟨?_, ⟨k + 1, by omega, rfl, hall', rfl⟩, (weak_mk (by repeat' (first | exact trivial | refine And.intro ?_ ?_ | exact Le.refl | exact Le.nilOwn rfl | exact Le.nilSl | exact Le.ownSl | exact Le.top)) (by repeat' (first | exact trivial | refine And.intro ?_ ?_ | exact ⟨_, rfl, Les.refl _⟩ | exact ⟨_, rfl, by repeat' (first | exact Les.nil | exact Les.cons Le.refl (Les.refl _) | refine Les.cons (by first | exact Le.top | exact Le.refl | exact Le.ownSl | exact Le.nilSl) ?_)⟩)) rfl (by repeat' (first | exact trivial | refine And.intro ?_ ?_ | exact rfl | exact refs_fill (fun _ => rfl) rfl | exact refs_map (fun _ => rfl))) (fun _ _ _ h => by first | exact h.elim | (obtain ⟨rfl, rfl, rfl⟩ := h; simp)))⟩)
            omega
        · simp at hc; omega
      · (repeat (first | refine WL_nil ?_ | (apply wl0 (hd := rfl); (first | exact qv0 | exact QV_bne Try.underlying4 rfl rfl | exact QV_beq Try.underlying4 rfl rfl | exact qv1); (exact gy0)) | (apply wlb (hd := rfl); (first | exact q_box rfl rfl rfl | exact q_alloc); (exact gy0); rfl) | refine wln ⟨_, rfl, rfl⟩ rfl ?_ | refine wst rfl rfl rfl List.not_mem_nil rfl rfl rfl rfl rfl rfl ?_ | refine W_seq ?_ | refine W_condT rfl ?_ | refine W_condF rfl ?_ | refine W_region ?_ | refine W_skip ?_ | refine W_ret ?_ | refine W_block ?_ | refine W_exit ?_))
        (refine W_cond rfl (fun hc => ?_) (fun hc => ?_))
        · simp at hc; omega
        · have hk' : k = ls.length := by omega
          subst hk'
          rw [List.take_length] at hall
          rw [List.take_length]
          (repeat (first | refine WL_nil ?_ | (apply wl0 (hd := rfl); (first | exact qv0 | exact QV_bne Try.underlying4 rfl rfl | exact QV_beq Try.underlying4 rfl rfl | exact qv1); (exact gy0)) | (apply wlb (hd := rfl); (first | exact q_box rfl rfl rfl | exact q_alloc); (exact gy0); rfl) | refine wln ⟨_, rfl, rfl⟩ rfl ?_ | refine wst rfl rfl rfl List.not_mem_nil rfl rfl rfl rfl rfl rfl ?_ | refine W_seq ?_ | refine W_condT rfl ?_ | refine W_condF rfl ?_ | refine W_region ?_ | refine W_skip ?_ | refine W_ret ?_ | refine W_block ?_ | refine W_exit ?_))
          refine Exists.intro _ ⟨Weak.refl _, Exists.intro _ ⟨resA_tmp rfl (resA_tmp rfl rfl), ?_, rfl⟩⟩
          rw [hall]
          rfl
theorem implMirrorLoads_no (js : List Jt) (ls : List Ld) (x : Int) (hj : js.length ≤ 1048576) (hn : ls.length ≤ 1048576) (hst : mirB js ls x = false) : CallOk Try.prog 58 [.agg [slJt js], slLd ls, vi x] (fun r => r = .tup [.v (.slice none 0 0), vb false]) := by
  have hlo := implLoadsOk_ok js ls hj hn
  have hx := isPlace_ok x
  unfold mirB at hst
  cases e1 : loadsB js ls
  · rw [e1] at hlo
    refine callOk Try.func58 Try.ntmps58 Try.results58 rfl rfl rfl fun B w0 I0 => ?_
    (repeat (first | refine WL_nil ?_ | (apply wl0 (hd := rfl); (first | exact qv0 | exact QV_bne Try.underlying4 rfl rfl | exact QV_beq Try.underlying4 rfl rfl | exact qv1 | exact q_callA (hlo)); (exact gy0)) | (apply wlb (hd := rfl); (first | exact q_box rfl rfl rfl | exact q_alloc); (exact gy0); rfl) | refine wln ⟨_, rfl, rfl⟩ rfl ?_ | refine wst rfl rfl rfl List.not_mem_nil rfl rfl rfl rfl rfl rfl ?_ | refine W_seq ?_ | refine W_condT rfl ?_ | refine W_condF rfl ?_ | refine W_region ?_ | refine W_skip ?_ | refine W_ret ?_ | refine W_block ?_ | refine W_exit ?_))
    refine Exists.intro _ ⟨Weak.refl _, Exists.intro _ ⟨resA_tmp rfl (resA_tmp rfl rfl), ?_, rfl⟩⟩
    rfl
  · rw [e1] at hlo
    cases e2 : inR x (-60) 60
    · rw [e2] at hx
      refine callOk Try.func58 Try.ntmps58 Try.results58 rfl rfl rfl fun B w0 I0 => ?_
      (repeat (first | refine WL_nil ?_ | (apply wl0 (hd := rfl); (first | exact qv0 | exact QV_bne Try.underlying4 rfl rfl | exact QV_beq Try.underlying4 rfl rfl | exact qv1 | exact q_callA (hlo) | exact q_callA (hx)); (exact gy0)) | (apply wlb (hd := rfl); (first | exact q_box rfl rfl rfl | exact q_alloc); (exact gy0); rfl) | refine wln ⟨_, rfl, rfl⟩ rfl ?_ | refine wst rfl rfl rfl List.not_mem_nil rfl rfl rfl rfl rfl rfl ?_ | refine W_seq ?_ | refine W_condT rfl ?_ | refine W_condF rfl ?_ | refine W_region ?_ | refine W_skip ?_ | refine W_ret ?_ | refine W_block ?_ | refine W_exit ?_))
      refine Exists.intro _ ⟨Weak.refl _, Exists.intro _ ⟨resA_tmp rfl (resA_tmp rfl rfl), ?_, rfl⟩⟩
      rfl
    · rw [e2] at hx
      have hx2 := inR_true.1 e2
      have h8 := arch_len (loads_arch e1)
      rw [e1, e2] at hst
      simp only [Bool.true_and] at hst
      have hlen0 : (List.replicate ls.length [vi 0, vi 0, vi 0]).flatten.length = ls.length * 3 := by rw [flatten_length (e := 3) (fun r hr => by rw [List.eq_of_mem_replicate hr]; rfl)]; simp
      refine callOk Try.func58 Try.ntmps58 Try.results58 rfl rfl rfl fun B w0 I0 => ?_
      (repeat (first | refine WL_nil ?_ | (apply wl0 (hd := rfl); (first | exact qv0 | exact QV_bne Try.underlying4 rfl rfl | exact QV_beq Try.underlying4 rfl rfl | exact qv1 | exact QV_lenA rfl | exact q_callA (hlo) | exact q_callA (hx)); (exact gy0)) | (apply wlb (hd := rfl); (first | exact q_box rfl rfl rfl | exact q_alloc | exact QV_makeA rfl rfl rfl rfl hn rfl); (exact gy0); rfl) | refine wln ⟨_, rfl, rfl⟩ rfl ?_ | refine wst rfl rfl rfl List.not_mem_nil rfl rfl rfl rfl rfl rfl ?_ | refine wcopy rfl rfl rfl (List.length_map _) rfl hlen0 (ld_cells ls) List.not_mem_nil rfl rfl ?_ | refine W_seq ?_ | refine W_condT rfl ?_ | refine W_condF rfl ?_ | refine W_region ?_ | refine W_skip ?_ | refine W_ret ?_ | refine W_block ?_ | refine W_exit ?_))
      refine W_loop (fun n s => ∃ k : Nat, k ≤ ls.length ∧ n = ls.length - k ∧ (ls.take k).all (mirX x) = true ∧ s = ⟨[(2, vi x), (3, .ptr 3 0), (8, .arr 22 145 3 ls.length), (27, vi ls.length), (28, vi k)], [(22, (((ls.take k).map (mir js.length x) ++ ls.drop k).map Ld.row).flatten), (3, [slJt js])], []⟩) ⟨_, _, ⟨0, by omega, rfl, rfl, rfl⟩, (weak_mk (by repeat' (first | exact trivial | refine And.intro ?_ ?_ | exact Le.refl | exact Le.nilOwn rfl | exact Le.nilSl | exact Le.ownSl | exact Le.top)) (by repeat' (first | exact trivial | refine And.intro ?_ ?_ | exact ⟨_, rfl, Les.refl _⟩ | exact ⟨_, rfl, by repeat' (first | exact Les.nil | exact Les.cons Le.refl (Les.refl _) | refine Les.cons (by first | exact Le.top | exact Le.refl | exact Le.ownSl | exact Le.nilSl) ?_)⟩)) rfl (by repeat' (first | exact trivial | refine And.intro ?_ ?_ | exact rfl | exact refs_fill (fun _ => rfl) rfl | exact refs_map (fun _ => rfl))) (fun _ _ _ h => by first | exact h.elim | (obtain ⟨rfl, rfl, rfl⟩ := h; simp)))⟩ ?_
      rintro n s ⟨k, hk, rfl, hall, rfl⟩
      by_cases hlt : k < ls.length
      · have hb := loads_in e1 hlt
        have h1 := isPlace_ok (2 * x - (lat ls k).x)
        have r0 : RowAt (((ls.take k).map (mir js.length x) ++ ls.drop k).map Ld.row) k 3 (lat ls k).row := ⟨mirL_at hlt, ld_lens _⟩
        have r1 := r0.set (r' := [vi ((js.length : Int) - 2 - (lat ls k).s), vi (lat ls k).w, vi (lat ls k).x]) rfl
        have r2 := r1.set (r' := (mir js.length x (lat ls k)).row) rfl
        (repeat (first | refine WL_nil ?_ | (apply wl0 (hd := rfl); (first | exact qv0 | exact QV_bne Try.underlying4 rfl rfl | exact QV_beq Try.underlying4 rfl rfl | exact qv1); (exact gy0)) | (apply wlb (hd := rfl); (first | exact q_box rfl rfl rfl | exact q_alloc); (exact gy0); rfl) | refine wln ⟨_, rfl, rfl⟩ rfl ?_ | refine wst rfl rfl rfl List.not_mem_nil rfl rfl rfl rfl rfl rfl ?_ | refine W_seq ?_ | refine W_condT rfl ?_ | refine W_condF rfl ?_ | refine W_region ?_ | refine W_skip ?_ | refine W_ret ?_ | refine W_block ?_ | refine W_exit ?_))
        (refine W_cond rfl (fun hc => ?_) (fun hc => ?_))
        · (repeat (first | refine WL_nil ?_ | (apply wl0 (hd := rfl); (first | exact qv0 | exact QV_bne Try.underlying4 rfl rfl | exact QV_beq Try.underlying4 rfl rfl | exact qv1 | exact QV_indexA rfl rfl rfl hlt); (exact gy0)) | (apply wlb (hd := rfl); (first | exact q_box rfl rfl rfl | exact q_alloc); (exact gy0); rfl) | refine wln ⟨_, rfl, rfl⟩ rfl ?_ | refine wst rfl rfl rfl List.not_mem_nil rfl rfl rfl rfl rfl rfl ?_ | refine W_seq ?_ | refine W_condT rfl ?_ | refine W_condF rfl ?_ | refine W_region ?_ | refine W_skip ?_ | refine W_ret ?_ | refine W_block ?_ | refine W_exit ?_))
          refine wdrawS 20 [1, 11, 12, 17] (by kernel_rfl) (by kernel_rfl) (by kernel_rfl) (by kernel_rfl) rfl ?_
          (repeat (first | refine HS_nil ?_ | (apply hs0 (hd := rfl); exact qv0; (exact gy0)) | (apply hs0 (hd := rfl); exact q_loadA (j := k) rfl rfl r0.len r0.at_ rfl rfl; (exact gy0)) | (apply hs0 (hd := rfl); exact QV_bne Try.underlying4 rfl rfl; (exact gy0)) | (apply hs0 (hd := rfl); exact QV_beq Try.underlying4 rfl rfl; (exact gy0)) | (apply hs0 (hd := rfl); exact qv1; (exact gy0))))
          refine sstP (j := k) (e := 3) (o := 0) rfl rfl rfl List.not_mem_nil rfl rfl rfl rfl r0.at_ rfl r0.len rfl ?_
          (repeat (first | refine WL_nil ?_ | (apply wl0 (hd := rfl); (first | exact qv0 | exact QV_bne Try.underlying4 rfl rfl | exact QV_beq Try.underlying4 rfl rfl | exact qv1); (exact gy0)) | (apply wlb (hd := rfl); (first | exact q_box rfl rfl rfl | exact q_alloc); (exact gy0); rfl) | refine wln ⟨_, rfl, rfl⟩ rfl ?_ | refine wst rfl rfl rfl List.not_mem_nil rfl rfl rfl rfl rfl rfl ?_ | refine wstP (j := k) (e := 3) (o := 2) rfl rfl rfl List.not_mem_nil rfl rfl rfl rfl r1.at_ rfl r1.len rfl ?_ | refine W_seq ?_ | refine W_condT rfl ?_ | refine W_condF rfl ?_ | refine W_region ?_ | refine W_skip ?_ | refine W_ret ?_ | refine W_block ?_ | refine W_exit ?_))
          cases e3 : mirX x (lat ls k)
          · unfold mirX at e3
            rw [e3] at h1
            (repeat (first | refine WL_nil ?_ | (apply wl0 (hd := rfl); (first | exact qv0 | exact QV_bne Try.underlying4 rfl rfl | exact QV_beq Try.underlying4 rfl rfl | exact qv1 | exact q_callA (h1) | exact q_loadA (j := k) rfl rfl r2.len r2.at_ rfl rfl); (exact gy0)) | (apply wlb (hd := rfl); (first | exact q_box rfl rfl rfl | exact q_alloc); (exact gy0); rfl) | refine wln ⟨_, rfl, rfl⟩ rfl ?_ | refine wst rfl rfl rfl List.not_mem_nil rfl rfl rfl rfl rfl rfl ?_ | refine W_seq ?_ | refine W_condT rfl ?_ | refine W_condF rfl ?_ | refine W_region ?_ | refine W_skip ?_ | refine W_ret ?_ | refine W_block ?_ | refine W_exit ?_))
            refine Exists.intro _ ⟨Weak.refl _, Exists.intro _ ⟨resA_tmp rfl (resA_tmp rfl rfl), ?_, rfl⟩⟩
            rfl
          · have hall' : (ls.take (k + 1)).all (mirX x) = true := by rw [all_take_succ (lat_lt hlt), hall, e3]; rfl
            unfold mirX at e3
            rw [e3] at h1
            (repeat (first | refine WL_nil ?_ | (apply wl0 (hd := rfl); (first | exact qv0 | exact QV_bne Try.underlying4 rfl rfl | exact QV_beq Try.underlying4 rfl rfl | exact qv1 | exact q_callA (h1) | exact q_loadA (j := k) rfl rfl r2.len r2.at_ rfl rfl); (exact gy0)) | (apply wlb (hd := rfl); (first | exact q_box rfl rfl rfl | exact q_alloc); (exact gy0); rfl) | refine wln ⟨_, rfl, rfl⟩ rfl ?_ | refine wst rfl rfl rfl List.not_mem_nil rfl rfl rfl rfl rfl rfl ?_ | refine W_seq ?_ | refine W_condT rfl ?_ | refine W_condF rfl ?_ | refine W_region ?_ | refine W_skip ?_ | refine W_ret ?_ | refine W_block ?_ | refine W_exit ?_))
            have hset : ((((ls.take k).map (mir js.length x) ++ ls.drop k).map Ld.row).set k [vi ((js.length : Int) - 2 - (lat ls k).s), vi (lat ls k).w, vi (lat ls k).x]).set k [vi ((js.length : Int) - 2 - (lat ls k).s), vi (lat ls k).w, vi (2 * x - (lat ls k).x)] = ((ls.take (k + 1)).map (mir js.length x) ++ ls.drop (k + 1)).map Ld.row := by
              rw [List.set_set]; exact mirL_set hlt
            rw [hset]
            refine Exists.intro _ (Exists.intro _ ⟨?_, ⟨k + 1, by omega, rfl, hall', rfl⟩, (weak_mk (by repeat' (first | exact trivial | refine And.intro ?_ ?_ | exact Le.refl | exact Le.nilOwn rfl | exact Le.nilSl | exact Le.ownSl | exact Le.top)) (by repeat' (first | exact trivial | refine And.intro ?_ ?_ | exact ⟨_, rfl, Les.refl _⟩ | exact ⟨_, rfl, by repeat' (first | exact Les.nil | exact Les.cons Le.refl (Les.refl _) | refine Les.cons (by first | exact Le.top | exact Le.refl | exact Le.ownSl | exact Le.nilSl) ?_)⟩)) rfl (by repeat' (first | exact trivial | refine And.intro ?_ ?_ | exact rfl | exact refs_fill (fun _ => rfl) rfl | exact refs_map (fun _ => rfl))) (fun _ _ _ h => by first | exact h.elim | (obtain ⟨rfl, rfl, rfl⟩ := h; simp)))⟩)
            omega
        · simp at hc; omega
      · have hk' : k = ls.length := by omega
        subst hk'
        rw [List.take_length, hst] at hall
        cases hall
theorem implMirrorLoads_yes (js : List Jt) (ls : List Ld) (x : Int) (hj : js.length ≤ 1048576) (hn : ls.length ≤ 1048576) (hst : mirB js ls x = true) : CallNew Try.prog 58 [.agg [slJt js], slLd ls, vi x] [(22, ((mirL js ls x).map Ld.row ++ []).flatten)] (.tup [.arr 22 145 3 (mirL js ls x).length, vb true]) := by
  have hlo := implLoadsOk_ok js ls hj hn
  have hx := isPlace_ok x
  simp only [mirB, Bool.and_eq_true] at hst
  obtain ⟨e1, e2, e0⟩ := hst
  rw [e1] at hlo
  rw [e2] at hx
  have hx2 := inR_true.1 e2
  have h8 := arch_len (loads_arch e1)
  have hlen0 : (List.replicate ls.length [vi 0, vi 0, vi 0]).flatten.length = ls.length * 3 := by rw [flatten_length (e := 3) (fun r hr => by rw [List.eq_of_mem_replicate hr]; rfl)]; simp
  have hml : (mirL js ls x).length = ls.length := List.length_map _
  rw [hml]
  refine callNew Try.func58 Try.ntmps58 Try.results58 rfl rfl rfl fun B w0 I0 => ?_
  (repeat (first | refine WL_nil ?_ | (apply wl0 (hd := rfl); (first | exact qv0 | exact QV_bne Try.underlying4 rfl rfl | exact QV_beq Try.underlying4 rfl rfl | exact qv1 | exact QV_lenA rfl | exact q_callA (hlo) | exact q_callA (hx)); (exact gy0)) | (apply wlb (hd := rfl); (first | exact q_box rfl rfl rfl | exact q_alloc | exact QV_makeA rfl rfl rfl rfl hn rfl); (exact gy0); rfl) | refine wln ⟨_, rfl, rfl⟩ rfl ?_ | refine wst rfl rfl rfl List.not_mem_nil rfl rfl rfl rfl rfl rfl ?_ | refine wcopy rfl rfl rfl (List.length_map _) rfl hlen0 (ld_cells ls) List.not_mem_nil rfl rfl ?_ | refine W_seq ?_ | refine W_condT rfl ?_ | refine W_condF rfl ?_ | refine W_region ?_ | refine W_skip ?_ | refine W_ret ?_ | refine W_block ?_ | refine W_exit ?_))
  refine W_loop (fun n s => ∃ k : Nat, k ≤ ls.length ∧ n = ls.length - k ∧ s = ⟨[(2, vi x), (3, .ptr 3 0), (8, .arr 22 145 3 ls.length), (27, vi ls.length), (28, vi k)], [(22, (((ls.take k).map (mir js.length x) ++ ls.drop k).map Ld.row).flatten), (3, [slJt js])], []⟩) ⟨_, _, ⟨0, by omega, rfl, rfl⟩, (weak_mk (by repeat' (first | exact trivial | refine And.intro ?_ ?_ | exact Le.refl | exact Le.nilOwn rfl | exact Le.nilSl | exact Le.ownSl | exact Le.top)) (by repeat' (first | exact trivial | refine And.intro ?_ ?_ | exact ⟨_, rfl, Les.refl _⟩ | exact ⟨_, rfl, by repeat' (first | exact Les.nil | exact Les.cons Le.refl (Les.refl _) | refine Les.cons (by first | exact Le.top | exact Le.refl | exact Le.ownSl | exact Le.nilSl) ?_)⟩)) rfl (by repeat' (first | exact trivial | refine And.intro ?_ ?_ | exact rfl | exact refs_fill (fun _ => rfl) rfl | exact refs_map (fun _ => rfl))) (fun _ _ _ h => by first | exact h.elim | (obtain ⟨rfl, rfl, rfl⟩ := h; simp)))⟩ ?_
  rintro n s ⟨k, hk, rfl, rfl⟩
  by_cases hlt : k < ls.length
  · have hb := loads_in e1 hlt
    have h1 := isPlace_ok (2 * x - (lat ls k).x)
    have e3 : mirX x (lat ls k) = true := List.all_eq_true.1 e0 _ (List.mem_of_getElem? (lat_lt hlt))
    unfold mirX at e3
    rw [e3] at h1
    have r0 : RowAt (((ls.take k).map (mir js.length x) ++ ls.drop k).map Ld.row) k 3 (lat ls k).row := ⟨mirL_at hlt, ld_lens _⟩
    have r1 := r0.set (r' := [vi ((js.length : Int) - 2 - (lat ls k).s), vi (lat ls k).w, vi (lat ls k).x]) rfl
    have r2 := r1.set (r' := (mir js.length x (lat ls k)).row) rfl
    (repeat (first | refine WL_nil ?_ | (apply wl0 (hd := rfl); (first | exact qv0 | exact QV_bne Try.underlying4 rfl rfl | exact QV_beq Try.underlying4 rfl rfl | exact qv1); (exact gy0)) | (apply wlb (hd := rfl); (first | exact q_box rfl rfl rfl | exact q_alloc); (exact gy0); rfl) | refine wln ⟨_, rfl, rfl⟩ rfl ?_ | refine wst rfl rfl rfl List.not_mem_nil rfl rfl rfl rfl rfl rfl ?_ | refine W_seq ?_ | refine W_condT rfl ?_ | refine W_condF rfl ?_ | refine W_region ?_ | refine W_skip ?_ | refine W_ret ?_ | refine W_block ?_ | refine W_exit ?_))
    (refine W_cond rfl (fun hc => ?_) (fun hc => ?_))
    · (repeat (first | refine WL_nil ?_ | (apply wl0 (hd := rfl); (first | exact qv0 | exact QV_bne Try.underlying4 rfl rfl | exact QV_beq Try.underlying4 rfl rfl | exact qv1 | exact QV_indexA rfl rfl rfl hlt); (exact gy0)) | (apply wlb (hd := rfl); (first | exact q_box rfl rfl rfl | exact q_alloc); (exact gy0); rfl) | refine wln ⟨_, rfl, rfl⟩ rfl ?_ | refine wst rfl rfl rfl List.not_mem_nil rfl rfl rfl rfl rfl rfl ?_ | refine W_seq ?_ | refine W_condT rfl ?_ | refine W_condF rfl ?_ | refine W_region ?_ | refine W_skip ?_ | refine W_ret ?_ | refine W_block ?_ | refine W_exit ?_))
      refine wdrawS 20 [1, 11, 12, 17] (by kernel_rfl) (by kernel_rfl) (by kernel_rfl) (by kernel_rfl) rfl ?_
      (repeat (first | refine HS_nil ?_ | (apply hs0 (hd := rfl); exact qv0; (exact gy0)) | (apply hs0 (hd := rfl); exact q_loadA (j := k) rfl rfl r0.len r0.at_ rfl rfl; (exact gy0)) | (apply hs0 (hd := rfl); exact QV_bne Try.underlying4 rfl rfl; (exact gy0)) | (apply hs0 (hd := rfl); exact QV_beq Try.underlying4 rfl rfl; (exact gy0)) | (apply hs0 (hd := rfl); exact qv1; (exact gy0))))
      refine sstP (j := k) (e := 3) (o := 0) rfl rfl rfl List.not_mem_nil rfl rfl rfl rfl r0.at_ rfl r0.len rfl ?_
      (repeat (first | refine WL_nil ?_ | (apply wl0 (hd := rfl); (first | exact qv0 | exact QV_bne Try.underlying4 rfl rfl | exact QV_beq Try.underlying4 rfl rfl | exact qv1); (exact gy0)) | (apply wlb (hd := rfl); (first | exact q_box rfl rfl rfl | exact q_alloc); (exact gy0); rfl) | refine wln ⟨_, rfl, rfl⟩ rfl ?_ | refine wst rfl rfl rfl List.not_mem_nil rfl rfl rfl rfl rfl rfl ?_ | refine wstP (j := k) (e := 3) (o := 2) rfl rfl rfl List.not_mem_nil rfl rfl rfl rfl r1.at_ rfl r1.len rfl ?_ | refine W_seq ?_ | refine W_condT rfl ?_ | refine W_condF rfl ?_ | refine W_region ?_ | refine W_skip ?_ | refine W_ret ?_ | refine W_block ?_ | refine W_exit ?_))
      (repeat (first | refine WL_nil ?_ | (apply wl0 (hd := rfl); (first | exact qv0 | exact QV_bne Try.underlying4 rfl rfl | exact QV_beq Try.underlying4 rfl rfl | exact qv1 | exact q_callA (h1) | exact q_loadA (j := k) rfl rfl r2.len r2.at_ rfl rfl); (exact gy0)) | (apply wlb (hd := rfl); (first | exact q_box rfl rfl rfl | exact q_alloc); (exact gy0); rfl) | refine wln ⟨_, rfl, rfl⟩ rfl ?_ | refine wst rfl rfl rfl List.not_mem_nil rfl rfl rfl rfl rfl rfl ?_ | refine W_seq ?_ | refine W_condT rfl ?_ | refine W_condF rfl ?_ | refine W_region ?_ | refine W_skip ?_ | refine W_ret ?_ | refine W_block ?_ | refine W_exit ?_))
      have hset : ((((ls.take k).map (mir js.length x) ++ ls.drop k).map Ld.row).set k [vi ((js.length : Int) - 2 - (lat ls k).s), vi (lat ls k).w, vi (lat ls k).x]).set k [vi ((js.length : Int) - 2 - (lat ls k).s), vi (lat ls k).w, vi (2 * x - (lat ls k).x)] = ((ls.take (k + 1)).map (mir js.length x) ++ ls.drop (k + 1)).map Ld.row := by
        rw [List.set_set]; exact mirL_set hlt
      rw [hset]
      refine Exists.intro _ (Exists.intro _ ⟨?_, ⟨k + 1, by omega, rfl, rfl⟩, (weak_mk (by repeat' (first | exact trivial | refine And.intro ?_ ?_ | exact Le.refl | exact Le.nilOwn rfl | exact Le.nilSl | exact Le.ownSl | exact Le.top)) (by repeat' (first | exact trivial | refine And.intro ?_ ?_ | exact ⟨_, rfl, Les.refl _⟩ | exact ⟨_, rfl, by repeat' (first | exact Les.nil | exact Les.cons Le.refl (Les.refl _) | refine Les.cons (by first | exact Le.top | exact Le.refl | exact Le.ownSl | exact Le.nilSl) ?_)⟩)) rfl (by repeat' (first | exact trivial | refine And.intro ?_ ?_ | exact rfl | exact refs_fill (fun _ => rfl) rfl | exact refs_map (fun _ => rfl))) (fun _ _ _ h => by first | exact h.elim | (obtain ⟨rfl, rfl, rfl⟩ := h; simp)))⟩)
      omega
    · simp at hc; omega
  · have hk' : k = ls.length := by omega
    subst hk'
    have e9 : ((ls.take ls.length).map (mir js.length x) ++ ls.drop ls.length).map Ld.row = (mirL js ls x).map Ld.row ++ [] := by simp [mirL]
    rw [e9]
    (repeat (first | refine WL_nil ?_ | (apply wl0 (hd := rfl); (first | exact qv0 | exact QV_bne Try.underlying4 rfl rfl | exact QV_beq Try.underlying4 rfl rfl | exact qv1); (exact gy0)) | (apply wlb (hd := rfl); (first | exact q_box rfl rfl rfl | exact q_alloc); (exact gy0); rfl) | refine wln ⟨_, rfl, rfl⟩ rfl ?_ | refine wst rfl rfl rfl List.not_mem_nil rfl rfl rfl rfl rfl rfl ?_ | refine W_seq ?_ | refine W_condT rfl ?_ | refine W_condF rfl ?_ | refine W_region ?_ | refine W_skip ?_ | refine W_ret ?_ | refine W_block ?_ | refine W_exit ?_))
    (refine W_cond rfl (fun hc => ?_) (fun hc => ?_))
    · simp at hc
    · (repeat (first | refine WL_nil ?_ | (apply wl0 (hd := rfl); (first | exact qv0 | exact QV_bne Try.underlying4 rfl rfl | exact QV_beq Try.underlying4 rfl rfl | exact qv1); (exact gy0)) | (apply wlb (hd := rfl); (first | exact q_box rfl rfl rfl | exact q_alloc); (exact gy0); rfl) | refine wln ⟨_, rfl, rfl⟩ rfl ?_ | refine wst rfl rfl rfl List.not_mem_nil rfl rfl rfl rfl rfl rfl ?_ | refine W_seq ?_ | refine W_condT rfl ?_ | refine W_condF rfl ?_ | refine W_region ?_ | refine W_skip ?_ | refine W_ret ?_ | refine W_block ?_ | refine W_exit ?_))
      exact ⟨⟨_, resA_tmp rfl (resA_tmp rfl rfl), rfl⟩, fun p hp => by simp only [List.mem_singleton] at hp; subst hp; simp⟩
end Go.Proofs.Ytkadjimnamcjbaa
