/- RowsOf, StandsWith, PushOnPier, both ways. -/
import Derived.Test.YtkaffcdjhbaifaaGreatYG3
namespace Go.Proofs.YtkaffcdjhbaifaaGreat
open Go.Eng
set_option maxRecDepth 100000
attribute [local irreducible] QV TV WL HW W CallOk Weak

def rowI (js : List Jt) (ls : List Ld) (k : Nat) : Rw := ⟨(jat js k).i.y, -(jat js k).i.x, 1, W64 (lmA js ls k - W64 ((jat js k).i.x * lwA js ls k))⟩
def rowO (js : List Jt) (ls : List Ld) (k : Nat) : Rw := ⟨-(jat js k).o.y, (jat js k).o.x, -1, W64 (W64 ((jat js k).o.x * lwA js ls k) - lmA js ls k)⟩
def rowsV (js : List Jt) (ls : List Ld) : Nat → List (List AV)
  | 0 => []
  | k + 1 => rowsV js ls k ++ [(rowI js ls k).row, (rowO js ls k).row]
def rowsN (js : List Jt) (ls : List Ld) : Nat → List Rw
  | 0 => []
  | k + 1 => rowsN js ls k ++ [rowI js ls k, rowO js ls k]
theorem rowsV_eq (js : List Jt) (ls : List Ld) : ∀ k, rowsV js ls k = (rowsN js ls k).map Rw.row
  | 0 => rfl
  | k + 1 => by simp [rowsV, rowsN, rowsV_eq js ls k]
theorem rowsN_len (js : List Jt) (ls : List Ld) : ∀ k, (rowsN js ls k).length = 2 * k
  | 0 => rfl
  | k + 1 => by simp [rowsN, rowsN_len js ls k]; omega
def rowE : Rw := ⟨-1, 0, 0, 0⟩
def rowsAll (js : List Jt) (ls : List Ld) : List Rw := rowsN js ls js.length ++ [rowE]
theorem rowsAll_len (js : List Jt) (ls : List Ld) : (rowsAll js ls).length = 2 * js.length + 1 := by
  simp [rowsAll, rowsN_len]
theorem rowsAll_V (js : List Jt) (ls : List Ld) : rowsV js ls js.length ++ [rowE.row] = (rowsAll js ls).map Rw.row := by
  simp [rowsAll, rowsV_eq]
def rowsA (js : List Jt) (ls : List Ld) : List Rw := if loadsB js ls && (rowsAll js ls).all rowB then rowsAll js ls else []
theorem rowsA_len (js : List Jt) (ls : List Ld) : (rowsA js ls).length ≤ 1048576 := by
  unfold rowsA
  split
  · rename_i h
    simp only [Bool.and_eq_true] at h
    have := arch_len (loads_arch h.1)
    rw [rowsAll_len]; omega
  · simp
theorem rw_cells (l : List Rw) : ∀ x ∈ (l.map Rw.row).flatten, isCell x = true := by
  intro x hx
  obtain ⟨r, hr, hx⟩ := List.mem_flatten.1 hx
  obtain ⟨p, _, rfl⟩ := List.mem_map.1 hr
  simp only [Rw.row, List.mem_cons, List.not_mem_nil, or_false] at hx
  rcases hx with rfl | rfl | rfl | rfl <;> rfl
theorem rw_lens (l : List Rw) : ∀ r ∈ l.map Rw.row, r.length = 4 := by
  intro r hr
  obtain ⟨p, _, rfl⟩ := List.mem_map.1 hr
  rfl
theorem joint_in {js : List Jt} (h : archB js = true) {k : Nat} (hk : k < js.length) : ptOk (jat js k).i = true ∧ ptOk (jat js k).o = true := by
  have h8 := arch_len h
  have aux : ∀ a b : Jt, stoneB (quad a b) = true → (ptOk a.i = true ∧ ptOk a.o = true) ∧ ptOk b.i = true ∧ ptOk b.o = true := fun a b hs => by
    simp only [stoneB, quad, List.all_cons, List.all_nil, Bool.and_eq_true] at hs
    obtain ⟨_, ⟨h1, h2, h3, h4, _⟩, _⟩ := hs
    exact ⟨⟨h1, h4⟩, h2, h3⟩
  by_cases hk1 : k + 1 < js.length
  · exact (aux _ _ (arch_step h hk1)).1
  · obtain ⟨i, rfl⟩ : ∃ i, k = i + 1 := ⟨k - 1, by omega⟩
    exact (aux _ _ (arch_step h (k := i) (by omega))).2
theorem rowsOf_no (js : List Jt) (ls : List Ld) (hj : js.length ≤ 1048576) (hn : ls.length ≤ 1048576) (h : loadsB js ls = false) : CallOk Tryz.prog 43 [.agg [slJt js], slLd ls] (fun r => r = .own 12 96 4 []) := by
  have hlo := loadsOk_ok js ls hj hn
  rw [h] at hlo
  refine callOk Tryz.func43 Tryz.ntmps43 Tryz.results43 rfl rfl rfl fun B w0 I0 => ?_
  (repeat (first | refine WL_nil ?_ | (apply wl0 (hd := rfl); (first | exact qv9 | exact q_callA (hlo)); (exact gy0)) | (apply wlb (hd := rfl); exact qbx; (exact gy0); rfl) | refine wln ⟨_, rfl, rfl⟩ rfl ?_ | refine wlnu ⟨_, rfl, rfl⟩ rfl ?_ | (apply wln1 (hd := rfl); exact q_buildSlice 12 rfl rfl rfl rfl; (exact gy0); rfl) | refine wst rfl rfl rfl List.not_mem_nil rfl rfl rfl rfl rfl rfl ?_ | refine W_condT rfl ?_ | refine W_condF rfl ?_ | refine W_region ?_ | refine wN rfl ?_))
  refine Exists.intro _ ⟨Weak.refl _, Exists.intro _ ⟨resA_tmp rfl rfl, ?_, rfl⟩⟩
  rfl
theorem rowsOf_go (js : List Jt) (ls : List Ld) (hj : js.length ≤ 1048576) (hn : ls.length ≤ 1048576) (h : loadsB js ls = true) : CallOk Tryz.prog 43 [.agg [slJt js], slLd ls] (fun r => r = bif (rowsAll js ls).all rowB then .own 12 96 4 ((rowsAll js ls).map Rw.row) else .own 98 96 4 []) := by
  have hlo := loadsOk_ok js ls hj hn
  rw [h] at hlo
  have ha := loads_arch h
  have h8 := arch_len ha
  have hl := callOk_dat (l07Left_ok js ls h) rfl
  refine callOk Tryz.func43 Tryz.ntmps43 Tryz.results43 rfl rfl rfl fun B w0 I0 => ?_
  (repeat (first | refine WL_nil ?_ | (apply wl0 (hd := rfl); (first | exact qv9 | exact q_callA (hlo) | exact q_callA (hl)); (exact gy0)) | (apply wlb (hd := rfl); exact qbx; (exact gy0); rfl) | refine wln ⟨_, rfl, rfl⟩ rfl ?_ | refine wlnu ⟨_, rfl, rfl⟩ rfl ?_ | (apply wln1 (hd := rfl); exact q_buildSlice 12 rfl rfl rfl rfl; (exact gy0); rfl) | refine wst rfl rfl rfl List.not_mem_nil rfl rfl rfl rfl rfl rfl ?_ | refine W_condT rfl ?_ | refine W_condF rfl ?_ | refine W_region ?_ | refine wN rfl ?_))
  refine W_loop (fun n s => ∃ k : Nat, k ≤ js.length ∧ n = js.length - k ∧ s = ⟨[(2, .ptr 2 0), (5, .own 12 96 4 (rowsV js ls k)), (6, .sl 1 (rowsTo (lwA js ls) (js.length - 1))), (7, .sl 1 (rowsTo (lmA js ls) (js.length - 1))), (8, vi k)], [(2, [slJt js])], [12]⟩) ⟨_, _, ⟨0, by omega, rfl, rfl⟩, wkA⟩ ?_
  rintro n s ⟨k, hk, rfl, rfl⟩
  by_cases hlt : k < js.length
  · have hp := jat_lt hlt
    have hb := joint_in ha hlt
    have hb1 := ptOk_true.1 hb.1
    have hb2 := ptOk_true.1 hb.2
    have hw := rowsTo_at (lwA js ls) (show k ≤ js.length - 1 by omega)
    have hm := rowsTo_at (lmA js ls) (show k ≤ js.length - 1 by omega)
    have hr : (rowsV js ls k).length + [(rowI js ls k).row, (rowO js ls k).row].length ≤ 1048576 := by rw [rowsV_eq, List.length_map, rowsN_len]; simp; omega
    (repeat (first | refine WL_nil ?_ | (apply wl0 (hd := rfl); (first | exact qv9); (exact gy0)) | (apply wlb (hd := rfl); exact qbx; (exact gy0); rfl) | refine wln ⟨_, rfl, rfl⟩ rfl ?_ | refine wlnu ⟨_, rfl, rfl⟩ rfl ?_ | refine wst rfl rfl rfl List.not_mem_nil rfl rfl rfl rfl rfl rfl ?_ | refine W_condT rfl ?_ | refine W_condF rfl ?_ | refine W_region ?_ | refine wN rfl ?_))
    (refine W_cond rfl (fun hc => ?_) (fun hc => ?_))
    · (repeat (first | refine WL_nil ?_ | (apply wl0 (hd := rfl); (first | exact qv9 | exact QV_indexAddr rfl rfl rfl rfl (row_at hp)); (exact gy0)) | (apply wlb (hd := rfl); exact qbx; (exact gy0); rfl) | refine wln ⟨_, rfl, rfl⟩ rfl ?_ | refine wlnu ⟨_, rfl, rfl⟩ rfl ?_ | refine wst rfl rfl rfl List.not_mem_nil rfl rfl rfl rfl rfl rfl ?_ | refine W_condT rfl ?_ | refine W_condF rfl ?_ | refine W_region ?_ | refine wN rfl ?_))
      refine wdraw 38 (by kernel_rfl) (by kernel_rfl) (by kernel_rfl) rfl ?_
      (repeat (first | refine HW_nil ?_ | (apply hw0 (hd := rfl); (first | exact qv9 | exact QV_indexAddr rfl rfl rfl rfl hw | exact QV_indexAddr rfl rfl rfl rfl hm); (exact gy0)) | (apply hwb (hd := rfl); exact qbx; (exact gy0); rfl) | refine hwn ⟨_, rfl, rfl⟩ rfl ?_ | refine hwnu ⟨_, rfl, rfl⟩ rfl ?_ | (apply hwn1 (hd := rfl); exact q_buildSlice 80 rfl rfl rfl rfl; (exact gy0); rfl)))
      (repeat (first | refine WL_nil ?_ | (apply wl0 (hd := rfl); (first | exact qv9); (exact gy0)) | (apply wlb (hd := rfl); exact qbx; (exact gy0); rfl) | refine wln ⟨_, rfl, rfl⟩ rfl ?_ | refine wlnu ⟨_, rfl, rfl⟩ rfl ?_ | refine wst rfl rfl rfl List.not_mem_nil rfl rfl rfl rfl rfl rfl ?_ | refine wapp rfl rfl rfl (rw_cells [rowI js ls k, rowO js ls k]) (rw_lens [rowI js ls k, rowO js ls k]) hr rfl rfl rfl rfl ?_ | refine W_condT rfl ?_ | refine W_condF rfl ?_ | refine W_region ?_ | refine wN rfl ?_))
      refine Exists.intro _ (Exists.intro _ ⟨?_, ⟨k + 1, by omega, rfl, rfl⟩, wkA⟩)
      omega
    · simp at hc; omega
  · (repeat (first | refine WL_nil ?_ | (apply wl0 (hd := rfl); (first | exact qv9); (exact gy0)) | (apply wlb (hd := rfl); exact qbx; (exact gy0); rfl) | refine wln ⟨_, rfl, rfl⟩ rfl ?_ | refine wlnu ⟨_, rfl, rfl⟩ rfl ?_ | refine wst rfl rfl rfl List.not_mem_nil rfl rfl rfl rfl rfl rfl ?_ | refine W_condT rfl ?_ | refine W_condF rfl ?_ | refine W_region ?_ | refine wN rfl ?_))
    (refine W_cond rfl (fun hc => ?_) (fun hc => ?_))
    · simp at hc; omega
    · have hk' : k = js.length := by omega
      subst hk'
      have hr : (rowsV js ls js.length).length + [rowE.row].length ≤ 1048576 := by rw [rowsV_eq, List.length_map, rowsN_len]; simp; omega
      have hlen := rowsAll_len js ls
      have hn2 : (rowsAll js ls).length ≤ 1048576 := by omega
      (repeat (first | refine WL_nil ?_ | (apply wl0 (hd := rfl); (first | exact qv9); (exact gy0)) | (apply wlb (hd := rfl); exact qbx; (exact gy0); rfl) | refine wln ⟨_, rfl, rfl⟩ rfl ?_ | refine wlnu ⟨_, rfl, rfl⟩ rfl ?_ | (apply wln1 (hd := rfl); exact q_buildSlice 84 rfl rfl rfl rfl; (exact gy0); rfl) | refine wst rfl rfl rfl List.not_mem_nil rfl rfl rfl rfl rfl rfl ?_ | refine wapp (rows2 := [rowE.row]) rfl rfl rfl (rw_cells [rowE]) (rw_lens [rowE]) hr rfl rfl rfl rfl ?_ | refine W_condT rfl ?_ | refine W_condF rfl ?_ | refine W_region ?_ | refine wN rfl ?_))
      rw [rowsAll_V]
      refine W_loop (fun n s => ∃ i : Nat, i ≤ (rowsAll js ls).length ∧ n = (rowsAll js ls).length - i ∧ ((rowsAll js ls).take i).all rowB = true ∧ s = ⟨[(5, .own 12 96 4 ((rowsAll js ls).map Rw.row)), (11, vi i)], [], [12]⟩) ⟨_, _, ⟨0, by omega, rfl, rfl, rfl⟩, wkA⟩ ?_
      rintro n s ⟨i, hi, rfl, hall, rfl⟩
      by_cases hil : i < (rowsAll js ls).length
      · have hp := wat_lt hil
        have h1 := rowOk_ok (wat (rowsAll js ls) i)
        (repeat (first | refine WL_nil ?_ | (apply wl0 (hd := rfl); (first | exact qv9); (exact gy0)) | (apply wlb (hd := rfl); exact qbx; (exact gy0); rfl) | refine wln ⟨_, rfl, rfl⟩ rfl ?_ | refine wlnu ⟨_, rfl, rfl⟩ rfl ?_ | refine wst rfl rfl rfl List.not_mem_nil rfl rfl rfl rfl rfl rfl ?_ | refine W_condT rfl ?_ | refine W_condF rfl ?_ | refine W_region ?_ | refine wN rfl ?_))
        (refine W_cond rfl (fun hc => ?_) (fun hc => ?_))
        · cases e1 : rowB (wat (rowsAll js ls) i)
          · rw [e1] at h1
            (repeat (first | refine WL_nil ?_ | (apply wl0 (hd := rfl); (first | exact qv9 | exact q_callA (h1) | exact QV_indexAddr rfl rfl rfl rfl (row_at hp)); (exact gy0)) | (apply wlb (hd := rfl); exact qbx; (exact gy0); rfl) | refine wln ⟨_, rfl, rfl⟩ rfl ?_ | refine wlnu ⟨_, rfl, rfl⟩ rfl ?_ | (apply wln1 (hd := rfl); exact q_buildSlice 98 rfl rfl rfl rfl; (exact gy0); rfl) | refine wst rfl rfl rfl List.not_mem_nil rfl rfl rfl rfl rfl rfl ?_ | refine W_condT rfl ?_ | refine W_condF rfl ?_ | refine W_region ?_ | refine wN rfl ?_))
            refine Exists.intro _ ⟨Weak.refl _, Exists.intro _ ⟨resA_tmp rfl rfl, ?_, rfl⟩⟩
            rw [all_at_false hp e1]
            rfl
          · rw [e1] at h1
            (repeat (first | refine WL_nil ?_ | (apply wl0 (hd := rfl); (first | exact qv9 | exact q_callA (h1) | exact QV_indexAddr rfl rfl rfl rfl (row_at hp)); (exact gy0)) | (apply wlb (hd := rfl); exact qbx; (exact gy0); rfl) | refine wln ⟨_, rfl, rfl⟩ rfl ?_ | refine wlnu ⟨_, rfl, rfl⟩ rfl ?_ | refine wst rfl rfl rfl List.not_mem_nil rfl rfl rfl rfl rfl rfl ?_ | refine W_condT rfl ?_ | refine W_condF rfl ?_ | refine W_region ?_ | refine wN rfl ?_))
            refine Exists.intro _ (Exists.intro _ ⟨?_, ⟨i + 1, by omega, rfl, by rw [all_take_succ hp, hall, e1]; rfl, rfl⟩, wkA⟩)
            omega
        · simp at hc; omega
      · (repeat (first | refine WL_nil ?_ | (apply wl0 (hd := rfl); (first | exact qv9); (exact gy0)) | (apply wlb (hd := rfl); exact qbx; (exact gy0); rfl) | refine wln ⟨_, rfl, rfl⟩ rfl ?_ | refine wlnu ⟨_, rfl, rfl⟩ rfl ?_ | refine wst rfl rfl rfl List.not_mem_nil rfl rfl rfl rfl rfl rfl ?_ | refine W_condT rfl ?_ | refine W_condF rfl ?_ | refine W_region ?_ | refine wN rfl ?_))
        (refine W_cond rfl (fun hc => ?_) (fun hc => ?_))
        · simp at hc; omega
        · have hi' : i = (rowsAll js ls).length := by omega
          subst hi'
          rw [List.take_length] at hall
          (repeat (first | refine WL_nil ?_ | (apply wl0 (hd := rfl); (first | exact qv9); (exact gy0)) | (apply wlb (hd := rfl); exact qbx; (exact gy0); rfl) | refine wln ⟨_, rfl, rfl⟩ rfl ?_ | refine wlnu ⟨_, rfl, rfl⟩ rfl ?_ | refine wst rfl rfl rfl List.not_mem_nil rfl rfl rfl rfl rfl rfl ?_ | refine W_condT rfl ?_ | refine W_condF rfl ?_ | refine W_region ?_ | refine wN rfl ?_))
          refine Exists.intro _ ⟨Weak.refl _, Exists.intro _ ⟨resA_tmp rfl rfl, ?_, rfl⟩⟩
          rw [hall]
          rfl
theorem rowsOf_ok (js : List Jt) (ls : List Ld) (hj : js.length ≤ 1048576) (hn : ls.length ≤ 1048576) : CallOk Tryz.prog 43 [.agg [slJt js], slLd ls] (fun r => r = slRw (rowsA js ls)) := by
  cases h : loadsB js ls
  · rw [show rowsA js ls = [] by simp [rowsA, h]]
    exact callOk_dat (rowsOf_no js ls hj hn h) rfl
  · have h1 := rowsOf_go js ls hj hn h
    cases h2 : (rowsAll js ls).all rowB
    · rw [h2] at h1
      rw [show rowsA js ls = [] by simp only [rowsA, h, h2]; rfl]
      exact callOk_dat h1 rfl
    · rw [h2] at h1
      rw [show rowsA js ls = rowsAll js ls by simp only [rowsA, h, h2]; rfl]
      exact callOk_dat h1 rfl
theorem rowsFor_ok (js : List Jt) (ls : List Ld) (h : loadsB js ls = true) : CallOk Tryz.prog 30 [.agg [slJt js], .sl 2 ((List.range (js.length - 1)).map (wmRow js ls))] (fun r => r = bif (rowsAll js ls).all rowB then .own 5 96 4 ((rowsAll js ls).map Rw.row) else .v (.slice none 0 0)) := by
  have ha := loads_arch h
  have h8 := arch_len ha
  have hok := rowsOk_ok (rowsAll js ls) (by rw [rowsAll_len]; omega)
  have hlenS : ((List.range (js.length - 1)).map (wmRow js ls)).length = js.length - 1 := by simp
  refine callOk Tryz.func30 Tryz.ntmps30 Tryz.results30 rfl rfl rfl fun B w0 I0 => ?_
  (repeat (first | refine WL_nil ?_ | (apply wl0 (hd := rfl); (first | exact qv9); (exact gy0)) | (apply wlb (hd := rfl); exact qbx; (exact gy0); rfl) | refine wln ⟨_, rfl, rfl⟩ rfl ?_ | refine wlnu ⟨_, rfl, rfl⟩ rfl ?_ | refine wst rfl rfl rfl List.not_mem_nil rfl rfl rfl rfl rfl rfl ?_ | refine W_condT rfl ?_ | refine W_condF rfl ?_ | refine W_region ?_ | refine wN rfl ?_))
  refine W_loop (fun n s => ∃ k c : Nat, k ≤ js.length ∧ n = js.length - k ∧ (k < js.length → c = k) ∧ s = ⟨[(1, .sl 2 ((List.range (js.length - 1)).map (wmRow js ls))), (2, .ptr 2 0), (5, .own 5 96 4 (rowsV js ls k)), (6, .ptr 6 0), (10, slJt js), (11, vi js.length), (12, vi k)], [(6, [vi (lwA js ls c), vi (lmA js ls c)]), (2, [slJt js])], [5]⟩) ⟨_, _, ⟨0, 0, by omega, rfl, fun _ => rfl, rfl⟩, wkA⟩ ?_
  rintro n s ⟨k, c, hk, rfl, hcc, rfl⟩
  by_cases hlt : k < js.length
  · have hck := hcc hlt
    subst hck
    have hp := jat_lt hlt
    have hb := joint_in ha hlt
    have hb1 := ptOk_true.1 hb.1
    have hb2 := ptOk_true.1 hb.2
    have hr : (rowsV js ls c).length + [(rowI js ls c).row, (rowO js ls c).row].length ≤ 1048576 := by rw [rowsV_eq, List.length_map, rowsN_len]; simp; omega
    (repeat (first | refine WL_nil ?_ | (apply wl0 (hd := rfl); (first | exact qv9); (exact gy0)) | (apply wlb (hd := rfl); exact qbx; (exact gy0); rfl) | refine wln ⟨_, rfl, rfl⟩ rfl ?_ | refine wlnu ⟨_, rfl, rfl⟩ rfl ?_ | refine wst rfl rfl rfl List.not_mem_nil rfl rfl rfl rfl rfl rfl ?_ | refine W_condT rfl ?_ | refine W_condF rfl ?_ | refine W_region ?_ | refine wN rfl ?_))
    (refine W_cond rfl (fun hc => ?_) (fun hc => ?_))
    · (repeat (first | refine WL_nil ?_ | (apply wl0 (hd := rfl); (first | exact q_lenE rfl rfl hlenS | exact qv9 | exact QV_indexAddr rfl rfl rfl rfl (row_at hp)); (exact gy0)) | (apply wlb (hd := rfl); exact qbx; (exact gy0); rfl) | refine wln ⟨_, rfl, rfl⟩ rfl ?_ | refine wlnu ⟨_, rfl, rfl⟩ rfl ?_ | (apply wln1 (hd := rfl); exact q_buildSlice 52 rfl rfl rfl rfl; (exact gy0); rfl) | refine wst rfl rfl rfl List.not_mem_nil rfl rfl rfl rfl rfl rfl ?_ | refine wapp rfl rfl rfl (rw_cells [rowI js ls c, rowO js ls c]) (rw_lens [rowI js ls c, rowO js ls c]) hr rfl rfl rfl rfl ?_ | refine W_condT rfl ?_ | refine W_condF rfl ?_ | refine W_region ?_ | refine wN rfl ?_))
      (refine W_cond rfl (fun hc => ?_) (fun hc => ?_))
      · have hlt2 : c < js.length - 1 := by simp at hc; omega
        have hat := range_at hlt2
        (repeat (first | refine WL_nil ?_ | (apply wl0 (hd := rfl); (first | exact qv9); (exact gy0)) | (apply wlb (hd := rfl); exact qbx; (exact gy0); rfl) | refine wln ⟨_, rfl, rfl⟩ rfl ?_ | refine wlnu ⟨_, rfl, rfl⟩ rfl ?_ | refine wst rfl rfl rfl List.not_mem_nil rfl rfl rfl rfl rfl rfl ?_ | refine W_condT rfl ?_ | refine W_condF rfl ?_ | refine W_region ?_ | refine wN rfl ?_))
        refine wdraw 9 (by kernel_rfl) (by kernel_rfl) (by kernel_rfl) rfl ?_
        (repeat (first | refine HW_nil ?_ | (apply hw0 (hd := rfl); (first | exact qv9 | exact QV_indexAddr rfl rfl rfl rfl (row_at hat)); (exact gy0)) | (apply hwb (hd := rfl); exact qbx; (exact gy0); rfl) | refine hwn ⟨_, rfl, rfl⟩ rfl ?_ | refine hwnu ⟨_, rfl, rfl⟩ rfl ?_))
        (repeat (first | refine WL_nil ?_ | (apply wl0 (hd := rfl); (first | exact qv9); (exact gy0)) | (apply wlb (hd := rfl); exact qbx; (exact gy0); rfl) | refine wln ⟨_, rfl, rfl⟩ rfl ?_ | refine wlnu ⟨_, rfl, rfl⟩ rfl ?_ | refine wst rfl rfl rfl List.not_mem_nil rfl rfl rfl rfl rfl rfl ?_ | refine W_condT rfl ?_ | refine W_condF rfl ?_ | refine W_region ?_ | refine wN rfl ?_))
        refine wdraw 9 (by kernel_rfl) (by kernel_rfl) (by kernel_rfl) rfl ?_
        (repeat (first | refine HW_nil ?_ | (apply hw0 (hd := rfl); (first | exact qv9 | exact QV_indexAddr rfl rfl rfl rfl (row_at hat)); (exact gy0)) | (apply hwb (hd := rfl); exact qbx; (exact gy0); rfl) | refine hwn ⟨_, rfl, rfl⟩ rfl ?_ | refine hwnu ⟨_, rfl, rfl⟩ rfl ?_))
        (repeat (first | refine WL_nil ?_ | (apply wl0 (hd := rfl); (first | exact qv9); (exact gy0)) | (apply wlb (hd := rfl); exact qbx; (exact gy0); rfl) | refine wln ⟨_, rfl, rfl⟩ rfl ?_ | refine wlnu ⟨_, rfl, rfl⟩ rfl ?_ | refine wst rfl rfl rfl List.not_mem_nil rfl rfl rfl rfl rfl rfl ?_ | refine W_condT rfl ?_ | refine W_condF rfl ?_ | refine W_region ?_ | refine wN rfl ?_))
        have e1 : IntKind.i64.wrap (lwA js ls c + W64 (weightW (qd js c) + conS Ld.w ls c)) = lwA js ls (c + 1) := w64_add' _ _
        have e2 : IntKind.i64.wrap (lmA js ls c + W64 (overW momF (qd js c) + conS momL ls c)) = lmA js ls (c + 1) := w64_add' _ _
        rw [e1, e2]
        refine Exists.intro _ (Exists.intro _ ⟨?_, ⟨c + 1, c + 1, by omega, rfl, fun _ => rfl, rfl⟩, wkA⟩)
        omega
      · have hlt2 : ¬ c + 1 < js.length := by simp at hc; omega
        (repeat (first | refine WL_nil ?_ | (apply wl0 (hd := rfl); (first | exact qv9); (exact gy0)) | (apply wlb (hd := rfl); exact qbx; (exact gy0); rfl) | refine wln ⟨_, rfl, rfl⟩ rfl ?_ | refine wlnu ⟨_, rfl, rfl⟩ rfl ?_ | refine wst rfl rfl rfl List.not_mem_nil rfl rfl rfl rfl rfl rfl ?_ | refine W_condT rfl ?_ | refine W_condF rfl ?_ | refine W_region ?_ | refine wN rfl ?_))
        refine Exists.intro _ (Exists.intro _ ⟨?_, ⟨c + 1, c, by omega, rfl, fun hx => absurd hx hlt2, rfl⟩, wkA⟩)
        omega
    · simp at hc; omega
  · (repeat (first | refine WL_nil ?_ | (apply wl0 (hd := rfl); (first | exact qv9); (exact gy0)) | (apply wlb (hd := rfl); exact qbx; (exact gy0); rfl) | refine wln ⟨_, rfl, rfl⟩ rfl ?_ | refine wlnu ⟨_, rfl, rfl⟩ rfl ?_ | refine wst rfl rfl rfl List.not_mem_nil rfl rfl rfl rfl rfl rfl ?_ | refine W_condT rfl ?_ | refine W_condF rfl ?_ | refine W_region ?_ | refine wN rfl ?_))
    (refine W_cond rfl (fun hc => ?_) (fun hc => ?_))
    · simp at hc; omega
    · have hk' : k = js.length := by omega
      subst hk'
      have hr : (rowsV js ls js.length).length + [rowE.row].length ≤ 1048576 := by rw [rowsV_eq, List.length_map, rowsN_len]; simp; omega
      cases e1 : (rowsAll js ls).all rowB
      · rw [e1] at hok
        (repeat (first | refine WL_nil ?_ | (apply wl0 (hd := rfl); (first | exact qv9 | exact q_callA (hok)); (exact gy0)) | (apply wlb (hd := rfl); exact qbx; (exact gy0); rfl) | refine wln ⟨_, rfl, rfl⟩ rfl ?_ | refine wlnu ⟨_, rfl, rfl⟩ rfl ?_ | (apply wln1 (hd := rfl); exact q_buildSlice 79 rfl rfl rfl rfl; (exact gy0); rfl) | refine wst rfl rfl rfl List.not_mem_nil rfl rfl rfl rfl rfl rfl ?_ | refine wappE rfl rfl rfl (rw_cells [rowE]) (rw_lens [rowE]) hr rfl rfl (rowsAll_V js ls) rfl rfl ?_ | refine W_condT rfl ?_ | refine W_condF rfl ?_ | refine W_region ?_ | refine wN rfl ?_))
        refine Exists.intro _ ⟨Weak.refl _, Exists.intro _ ⟨resA_tmp rfl rfl, ?_, rfl⟩⟩
        rfl
      · rw [e1] at hok
        (repeat (first | refine WL_nil ?_ | (apply wl0 (hd := rfl); (first | exact qv9 | exact q_callA (hok)); (exact gy0)) | (apply wlb (hd := rfl); exact qbx; (exact gy0); rfl) | refine wln ⟨_, rfl, rfl⟩ rfl ?_ | refine wlnu ⟨_, rfl, rfl⟩ rfl ?_ | (apply wln1 (hd := rfl); exact q_buildSlice 79 rfl rfl rfl rfl; (exact gy0); rfl) | refine wst rfl rfl rfl List.not_mem_nil rfl rfl rfl rfl rfl rfl ?_ | refine wappE rfl rfl rfl (rw_cells [rowE]) (rw_lens [rowE]) hr rfl rfl (rowsAll_V js ls) rfl rfl ?_ | refine W_condT rfl ?_ | refine W_condF rfl ?_ | refine W_region ?_ | refine wN rfl ?_))
        refine Exists.intro _ ⟨Weak.refl _, Exists.intro _ ⟨resA_tmp rfl rfl, ?_, rfl⟩⟩
        rfl
theorem implRowsOf_no (js : List Jt) (ls : List Ld) (hj : js.length ≤ 1048576) (hn : ls.length ≤ 1048576) (h : loadsB js ls = false) : CallOk Tryz.prog 13 [.agg [slJt js], slLd ls] (fun r => r = .v (.slice none 0 0)) := by
  have hlo := implLoadsOk_ok js ls hj hn
  rw [h] at hlo
  refine callOk Tryz.func13 Tryz.ntmps13 Tryz.results13 rfl rfl rfl fun B w0 I0 => ?_
  (repeat (first | refine WL_nil ?_ | (apply wl0 (hd := rfl); (first | exact qv9 | exact q_callA (hlo)); (exact gy0)) | (apply wlb (hd := rfl); exact qbx; (exact gy0); rfl) | refine wln ⟨_, rfl, rfl⟩ rfl ?_ | refine wlnu ⟨_, rfl, rfl⟩ rfl ?_ | refine wst rfl rfl rfl List.not_mem_nil rfl rfl rfl rfl rfl rfl ?_ | refine W_condT rfl ?_ | refine W_condF rfl ?_ | refine W_region ?_ | refine wN rfl ?_))
  refine Exists.intro _ ⟨Weak.refl _, Exists.intro _ ⟨resA_tmp rfl rfl, ?_, rfl⟩⟩
  rfl
theorem implRowsOf_nil (js : List Jt) (ls : List Ld) (hj : js.length ≤ 1048576) (hn : ls.length ≤ 1048576) (h : loadsB js ls = true) (h2 : (rowsAll js ls).all rowB = false) : CallOk Tryz.prog 13 [.agg [slJt js], slLd ls] (fun r => r = .v (.slice none 0 0)) := by
  have hlo := implLoadsOk_ok js ls hj hn
  rw [h] at hlo
  have hw := weightsOf_ok js ls h
  have hr := rowsFor_ok js ls h
  rw [h2] at hr
  refine callOk Tryz.func13 Tryz.ntmps13 Tryz.results13 rfl rfl rfl fun B w0 I0 => ?_
  (repeat (first | refine WL_nil ?_ | (apply wl0 (hd := rfl); (first | exact qv9 | exact q_callA (hlo)); (exact gy0)) | (apply wlb (hd := rfl); exact qbx; (exact gy0); rfl) | refine wln ⟨_, rfl, rfl⟩ rfl ?_ | refine wlnu ⟨_, rfl, rfl⟩ rfl ?_ | refine wst rfl rfl rfl List.not_mem_nil rfl rfl rfl rfl rfl rfl ?_ | refine W_condT rfl ?_ | refine W_condF rfl ?_ | refine W_region ?_ | refine wN rfl ?_))
  refine wdraw 6 (by kernel_rfl) (by kernel_rfl) (by kernel_rfl) rfl ?_
  (repeat (first | refine HW_nil ?_ | (apply hw0 (hd := rfl); (first | exact qv9 | exact q_callA (hr)); (exact gy0)) | (apply hwb (hd := rfl); exact qbx; (exact gy0); rfl) | refine hwn ⟨_, rfl, rfl⟩ rfl ?_ | refine hwnu ⟨_, rfl, rfl⟩ rfl ?_ | (apply hwn1 (hd := rfl); exact q_call1A 0 15 (hw); (exact gy0); rfl)))
  (repeat (first | refine WL_nil ?_ | (apply wl0 (hd := rfl); (first | exact qv9); (exact gy0)) | (apply wlb (hd := rfl); exact qbx; (exact gy0); rfl) | refine wln ⟨_, rfl, rfl⟩ rfl ?_ | refine wlnu ⟨_, rfl, rfl⟩ rfl ?_ | refine wst rfl rfl rfl List.not_mem_nil rfl rfl rfl rfl rfl rfl ?_ | refine W_condT rfl ?_ | refine W_condF rfl ?_ | refine W_region ?_ | refine wN rfl ?_))
  refine Exists.intro _ ⟨Weak.refl _, Exists.intro _ ⟨resA_tmp rfl rfl, ?_, rfl⟩⟩
  rfl
theorem implRowsOf_yes (js : List Jt) (ls : List Ld) (hj : js.length ≤ 1048576) (hn : ls.length ≤ 1048576) (h : loadsB js ls = true) (h2 : (rowsAll js ls).all rowB = true) : CallOk Tryz.prog 13 [.agg [slJt js], slLd ls] (fun r => r = .own 25 96 4 ((rowsAll js ls).map Rw.row)) := by
  have hlo := implLoadsOk_ok js ls hj hn
  rw [h] at hlo
  have hw := weightsOf_ok js ls h
  have hr := rowsFor_ok js ls h
  rw [h2] at hr
  refine callOk Tryz.func13 Tryz.ntmps13 Tryz.results13 rfl rfl rfl fun B w0 I0 => ?_
  (repeat (first | refine WL_nil ?_ | (apply wl0 (hd := rfl); (first | exact qv9 | exact q_callA (hlo)); (exact gy0)) | (apply wlb (hd := rfl); exact qbx; (exact gy0); rfl) | refine wln ⟨_, rfl, rfl⟩ rfl ?_ | refine wlnu ⟨_, rfl, rfl⟩ rfl ?_ | refine wst rfl rfl rfl List.not_mem_nil rfl rfl rfl rfl rfl rfl ?_ | refine W_condT rfl ?_ | refine W_condF rfl ?_ | refine W_region ?_ | refine wN rfl ?_))
  refine wdraw 6 (by kernel_rfl) (by kernel_rfl) (by kernel_rfl) rfl ?_
  (repeat (first | refine HW_nil ?_ | (apply hw0 (hd := rfl); (first | exact qv9); (exact gy0)) | (apply hwb (hd := rfl); exact qbx; (exact gy0); rfl) | refine hwn ⟨_, rfl, rfl⟩ rfl ?_ | refine hwnu ⟨_, rfl, rfl⟩ rfl ?_ | (apply hwn1 (hd := rfl); exact q_call1A 0 15 (hw); (exact gy0); rfl) | (apply hwn1 (hd := rfl); exact q_call1A 20 5 (hr); (exact gy0); rfl)))
  (repeat (first | refine WL_nil ?_ | (apply wl0 (hd := rfl); (first | exact qv9); (exact gy0)) | (apply wlb (hd := rfl); exact qbx; (exact gy0); rfl) | refine wln ⟨_, rfl, rfl⟩ rfl ?_ | refine wlnu ⟨_, rfl, rfl⟩ rfl ?_ | refine wst rfl rfl rfl List.not_mem_nil rfl rfl rfl rfl rfl rfl ?_ | refine W_condT rfl ?_ | refine W_condF rfl ?_ | refine W_region ?_ | refine wN rfl ?_))
  refine Exists.intro _ ⟨Weak.refl _, Exists.intro _ ⟨resA_tmp rfl rfl, ?_, rfl⟩⟩
  rfl
theorem implRowsOf_ok (js : List Jt) (ls : List Ld) (hj : js.length ≤ 1048576) (hn : ls.length ≤ 1048576) : CallOk Tryz.prog 13 [.agg [slJt js], slLd ls] (fun r => r = slRw (rowsA js ls)) := by
  cases h : loadsB js ls
  · rw [show rowsA js ls = [] by simp [rowsA, h]]
    exact callOk_nilSl (implRowsOf_no js ls hj hn h)
  · cases h2 : (rowsAll js ls).all rowB
    · rw [show rowsA js ls = [] by simp only [rowsA, h, h2]; rfl]
      exact callOk_nilSl (implRowsOf_nil js ls hj hn h h2)
    · rw [show rowsA js ls = rowsAll js ls by simp only [rowsA, h, h2]; rfl]
      exact callOk_dat (implRowsOf_yes js ls hj hn h h2) rfl
end Go.Proofs.YtkaffcdjhbaifaaGreat
