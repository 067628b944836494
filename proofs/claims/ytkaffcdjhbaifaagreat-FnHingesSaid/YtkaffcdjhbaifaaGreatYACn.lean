/- SolveRows, CornersOf, ThrustsOf, Stands, LeastThrust of the reference. -/
import Derived.Test.YtkaffcdjhbaifaaGreatYG7
import Derived.Test.YtkaffcdjhbaifaaGreatYARo
import Derived.Test.YtkaffcdjhbaifaaGreatYG3
namespace Go.Proofs.YtkaffcdjhbaifaaGreat
open Go.Eng
set_option maxRecDepth 100000
attribute [local irreducible] QV TV WL HW W CallOk Weak

theorem thO_none : thO none = .tup [thZ.av, vb false] := rfl
theorem thO_some (t : Th) : thO (some t) = .tup [t.av, vb true] := rfl
theorem det0_no {p q r : Rw} (h : ¬ det0 p q r = 0) : rowB p = true ∧ rowB q = true ∧ rowB r = true ∧ det0 p q r = detR p q r := by
  unfold det0 at h ⊢
  cases e1 : rowB p <;> cases e2 : rowB q <;> cases e3 : rowB r <;> simp_all
theorem solveRows_ok (p q r : Rw) : CallOk Tryz.prog 61 [p.av, q.av, r.av] (fun x => x = thO (slv p q r)) := by
  have hd := detOfRows_ok p q r
  refine callOk Tryz.func61 Tryz.ntmps61 Tryz.results61 rfl rfl rfl fun B w0 I0 => ?_
  by_cases z : det0 p q r = 0
  · have c0 : abin .eql .i64 (det0 p q r) 0 = some (.bool true) := by simp [abin, z]
    (repeat (first | refine WL_nil ?_ | (apply wl0 (hd := rfl); (first | exact QV_bin rfl rfl c0 | exact qv9 | exact q_callA (hd)); (exact gy0)) | (apply wlb (hd := rfl); exact qbx; (exact gy0); rfl) | refine wln ⟨_, rfl, rfl⟩ rfl ?_ | refine wlnu ⟨_, rfl, rfl⟩ rfl ?_ | refine wst rfl rfl rfl List.not_mem_nil rfl rfl rfl rfl rfl rfl ?_ | refine W_condT rfl ?_ | refine W_condF rfl ?_ | refine W_region ?_ | refine wN rfl ?_))
    refine Exists.intro _ ⟨Weak.refl _, Exists.intro _ ⟨resA_cell rfl rfl rfl (resA_tmp rfl rfl), ?_, rfl⟩⟩
    rw [show slv p q r = none by simp [slv, z]]
    rfl
  · have c0 : abin .eql .i64 (det0 p q r) 0 = some (.bool false) := by simp [abin, z]
    obtain ⟨e1, e2, e3, e4⟩ := det0_no z
    have b1 := detR_bd e1 e2 e3
    have b2 := detH_bd e1 e2 e3
    have b3 := detV_bd e1 e2 e3
    have b4 := detM_bd e1 e2 e3
    have d1 := l11Det_ok (dbc p) (dbc q) (dbc r)
    have d2 := l11Det_ok (adc p) (adc q) (adc r)
    have d3 := l11Det_ok (abd p) (abd q) (abd r)
    rw [det3W_eq, show det3 (dbc p) (dbc q) (dbc r) = detH p q r from rfl, w64 (by omega)] at d1
    rw [det3W_eq, show det3 (adc p) (adc q) (adc r) = detV p q r from rfl, w64 (by omega)] at d2
    rw [det3W_eq, show det3 (abd p) (abd q) (abd r) = detM p q r from rfl, w64 (by omega)] at d3
    have hm := makeThrust_ok ⟨detH p q r, detV p q r, detM p q r, detR p q r⟩
    have hs : slv p q r = mkT ⟨detH p q r, detV p q r, detM p q r, detR p q r⟩ := by simp [slv, z]
    rw [← hs] at hm
    rw [e4] at hd c0
    (repeat (first | refine WL_nil ?_ | (apply wl0 (hd := rfl); (first | exact QV_bin rfl rfl c0 | exact qv9 | exact q_callA (hd) | exact q_buildAr rfl | exact q_callA (d1) | exact q_callA (d2) | exact q_callA (d3) | exact q_callA (hm)); (exact gy0)) | (apply wlb (hd := rfl); exact qbx; (exact gy0); rfl) | refine wln ⟨_, rfl, rfl⟩ rfl ?_ | refine wlnu ⟨_, rfl, rfl⟩ rfl ?_ | refine wst rfl rfl rfl List.not_mem_nil rfl rfl rfl rfl rfl rfl ?_ | refine W_condT rfl ?_ | refine W_condF rfl ?_ | refine W_region ?_ | refine wN rfl ?_))
    refine Exists.intro _ ⟨Weak.refl _, Exists.intro _ ⟨resA_cell rfl rfl rfl (resA_tmp rfl rfl), ?_, rfl⟩⟩
    rfl
theorem l11Has_ok (l : List Th) (t : Th) (hn : l.length ≤ 1048576) : CallOk Tryz.prog 62 [slTh l, t.av] (fun x => x = vb (hasT l t)) := by
  refine callOk Tryz.func62 Tryz.ntmps62 Tryz.results62 rfl rfl rfl fun B w0 I0 => ?_
  (repeat (first | refine WL_nil ?_ | (apply wl0 (hd := rfl); (first | exact qv9); (exact gy0)) | (apply wlb (hd := rfl); exact qbx; (exact gy0); rfl) | refine wln ⟨_, rfl, rfl⟩ rfl ?_ | refine wlnu ⟨_, rfl, rfl⟩ rfl ?_ | refine wst rfl rfl rfl List.not_mem_nil rfl rfl rfl rfl rfl rfl ?_ | refine W_condT rfl ?_ | refine W_condF rfl ?_ | refine W_region ?_ | refine wN rfl ?_))
  refine W_loop (fun n s => ∃ k : Nat, k ≤ l.length ∧ n = l.length - k ∧ hasT (l.take k) t = false ∧ s = ⟨[(0, slTh l), (3, .ptr 3 0), (5, vi k)], [(3, t.row)], []⟩) ⟨_, _, ⟨0, by omega, rfl, rfl, rfl⟩, wkA⟩ ?_
  rintro n s ⟨k, hk, rfl, hall, rfl⟩
  by_cases hlt : k < l.length
  · have hp := tat_lt hlt
    have hq := th_eqv (tat l k) t
    (repeat (first | refine WL_nil ?_ | (apply wl0 (hd := rfl); (first | exact qv9); (exact gy0)) | (apply wlb (hd := rfl); exact qbx; (exact gy0); rfl) | refine wln ⟨_, rfl, rfl⟩ rfl ?_ | refine wlnu ⟨_, rfl, rfl⟩ rfl ?_ | refine wst rfl rfl rfl List.not_mem_nil rfl rfl rfl rfl rfl rfl ?_ | refine W_condT rfl ?_ | refine W_condF rfl ?_ | refine W_region ?_ | refine wN rfl ?_))
    (refine W_cond rfl (fun hc => ?_) (fun hc => ?_))
    · cases e1 : thEq (tat l k) t
      · rw [e1] at hq
        (repeat (first | refine WL_nil ?_ | (apply wl0 (hd := rfl); (first | exact qv9); (exact gy0)) | (apply wlb (hd := rfl); exact qbx; (exact gy0); rfl) | refine wln ⟨_, rfl, rfl⟩ rfl ?_ | refine wlnu ⟨_, rfl, rfl⟩ rfl ?_ | refine wst rfl rfl rfl List.not_mem_nil rfl rfl rfl rfl rfl rfl ?_ | refine W_condT rfl ?_ | refine W_condF rfl ?_ | refine W_region ?_ | refine wN rfl ?_))
        refine wdraw 6 (by kernel_rfl) (by kernel_rfl) (by kernel_rfl) rfl ?_
        (repeat (first | refine HW_nil ?_ | (apply hw0 (hd := rfl); (first | exact QV_eqA rfl rfl hq | exact qv9 | exact QV_indexAddr rfl rfl rfl rfl (row_at hp)); (exact gy0)) | (apply hwb (hd := rfl); exact qbx; (exact gy0); rfl) | refine hwn ⟨_, rfl, rfl⟩ rfl ?_ | refine hwnu ⟨_, rfl, rfl⟩ rfl ?_))
        (repeat (first | refine WL_nil ?_ | (apply wl0 (hd := rfl); (first | exact qv9); (exact gy0)) | (apply wlb (hd := rfl); exact qbx; (exact gy0); rfl) | refine wln ⟨_, rfl, rfl⟩ rfl ?_ | refine wlnu ⟨_, rfl, rfl⟩ rfl ?_ | refine wst rfl rfl rfl List.not_mem_nil rfl rfl rfl rfl rfl rfl ?_ | refine W_condT rfl ?_ | refine W_condF rfl ?_ | refine W_region ?_ | refine wN rfl ?_))
        refine Exists.intro _ (Exists.intro _ ⟨?_, ⟨k + 1, by omega, rfl, by rw [hasT_take hp, hall, e1]; rfl, rfl⟩, wkA⟩)
        omega
      · rw [e1] at hq
        (repeat (first | refine WL_nil ?_ | (apply wl0 (hd := rfl); (first | exact qv9); (exact gy0)) | (apply wlb (hd := rfl); exact qbx; (exact gy0); rfl) | refine wln ⟨_, rfl, rfl⟩ rfl ?_ | refine wlnu ⟨_, rfl, rfl⟩ rfl ?_ | refine wst rfl rfl rfl List.not_mem_nil rfl rfl rfl rfl rfl rfl ?_ | refine W_condT rfl ?_ | refine W_condF rfl ?_ | refine W_region ?_ | refine wN rfl ?_))
        refine wdraw 6 (by kernel_rfl) (by kernel_rfl) (by kernel_rfl) rfl ?_
        (repeat (first | refine HW_nil ?_ | (apply hw0 (hd := rfl); (first | exact QV_eqA rfl rfl hq | exact qv9 | exact QV_indexAddr rfl rfl rfl rfl (row_at hp)); (exact gy0)) | (apply hwb (hd := rfl); exact qbx; (exact gy0); rfl) | refine hwn ⟨_, rfl, rfl⟩ rfl ?_ | refine hwnu ⟨_, rfl, rfl⟩ rfl ?_))
        (repeat (first | refine WL_nil ?_ | (apply wl0 (hd := rfl); (first | exact qv9); (exact gy0)) | (apply wlb (hd := rfl); exact qbx; (exact gy0); rfl) | refine wln ⟨_, rfl, rfl⟩ rfl ?_ | refine wlnu ⟨_, rfl, rfl⟩ rfl ?_ | refine wst rfl rfl rfl List.not_mem_nil rfl rfl rfl rfl rfl rfl ?_ | refine W_condT rfl ?_ | refine W_condF rfl ?_ | refine W_region ?_ | refine wN rfl ?_))
        refine Exists.intro _ ⟨Weak.refl _, Exists.intro _ ⟨resA_tmp rfl rfl, ?_, rfl⟩⟩
        exact vb_eq (hasT_at hp e1).symm
    · simp at hc; omega
  · (repeat (first | refine WL_nil ?_ | (apply wl0 (hd := rfl); (first | exact qv9); (exact gy0)) | (apply wlb (hd := rfl); exact qbx; (exact gy0); rfl) | refine wln ⟨_, rfl, rfl⟩ rfl ?_ | refine wlnu ⟨_, rfl, rfl⟩ rfl ?_ | refine wst rfl rfl rfl List.not_mem_nil rfl rfl rfl rfl rfl rfl ?_ | refine W_condT rfl ?_ | refine W_condF rfl ?_ | refine W_region ?_ | refine wN rfl ?_))
    (refine W_cond rfl (fun hc => ?_) (fun hc => ?_))
    · simp at hc; omega
    · have hk' : k = l.length := by omega
      subst hk'
      rw [List.take_length] at hall
      (repeat (first | refine WL_nil ?_ | (apply wl0 (hd := rfl); (first | exact qv9); (exact gy0)) | (apply wlb (hd := rfl); exact qbx; (exact gy0); rfl) | refine wln ⟨_, rfl, rfl⟩ rfl ?_ | refine wlnu ⟨_, rfl, rfl⟩ rfl ?_ | refine wst rfl rfl rfl List.not_mem_nil rfl rfl rfl rfl rfl rfl ?_ | refine W_condT rfl ?_ | refine W_condF rfl ?_ | refine W_region ?_ | refine wN rfl ?_))
      refine Exists.intro _ ⟨Weak.refl _, Exists.intro _ ⟨resA_tmp rfl rfl, ?_, rfl⟩⟩
      exact vb_eq hall.symm
theorem all_take_false {α : Type} {f : α → Bool} {l : List α} {i : Nat} (h : (l.take i).all f = false) : l.all f = false := by
  rw [Bool.eq_false_iff] at h ⊢
  intro h2
  exact h (List.all_eq_true.2 fun x hx => List.all_eq_true.1 h2 x (List.mem_of_mem_take hx))
theorem solve_row {l : List Rw} {i : Nat} (h : i < l.length) : (l.map Rw.row)[i]? = some (wat l i).row := row_at (wat_lt h)
theorem addO_has {l : List Rw} {out : List Th} {t : Th} (h : hasT out t = true) : addO l out (some t) = out := by simp [addO, h]
theorem addO_not {l : List Rw} {out : List Th} {t : Th} (h : hasT out t = false) (h2 : l.all (holB t) = false) : addO l out (some t) = out := by simp [addO, h, h2]
theorem addO_new {l : List Rw} {out : List Th} {t : Th} (h : hasT out t = false) (h2 : l.all (holB t) = true) : addO l out (some t) = out ++ [t] := by simp [addO, h, h2]
abbrev oTh (out : List Th) : AV := .own 12 123 4 (out.map Th.row)
theorem cornersOf_no (l : List Rw) (hn : l.length ≤ 1048576) (h : (l.all rowB && inR l.length 3 20) = false) : CallOk Tryz.prog 42 [slRw l] (fun r => r = oTh []) := by
  have hr := l01In_ok l.length 3 20
  refine callOk Tryz.func42 Tryz.ntmps42 Tryz.results42 rfl rfl rfl fun B w0 I0 => ?_
  (repeat (first | refine WL_nil ?_ | (apply wl0 (hd := rfl); (first | exact qv9); (exact gy0)) | (apply wlb (hd := rfl); exact qbx; (exact gy0); rfl) | refine wln ⟨_, rfl, rfl⟩ rfl ?_ | refine wlnu ⟨_, rfl, rfl⟩ rfl ?_ | (apply wln1 (hd := rfl); exact q_buildSlice 12 rfl rfl rfl rfl; (exact gy0); rfl) | refine wst rfl rfl rfl List.not_mem_nil rfl rfl rfl rfl rfl rfl ?_ | refine W_condT rfl ?_ | refine W_condF rfl ?_ | refine W_region ?_ | refine wN rfl ?_))
  refine W_loop (fun n s => ∃ k : Nat, k ≤ l.length ∧ n = l.length - k ∧ (l.take k).all rowB = true ∧ s = ⟨[(0, slRw l), (3, oTh []), (4, vi k)], [], [12]⟩) ⟨_, _, ⟨0, by omega, rfl, rfl, rfl⟩, wkA⟩ ?_
  rintro n s ⟨k, hk, rfl, hall, rfl⟩
  by_cases hlt : k < l.length
  · have h1 := rowOk_ok (wat l k)
    (repeat (first | refine WL_nil ?_ | (apply wl0 (hd := rfl); (first | exact qv9); (exact gy0)) | (apply wlb (hd := rfl); exact qbx; (exact gy0); rfl) | refine wln ⟨_, rfl, rfl⟩ rfl ?_ | refine wlnu ⟨_, rfl, rfl⟩ rfl ?_ | refine wst rfl rfl rfl List.not_mem_nil rfl rfl rfl rfl rfl rfl ?_ | refine W_condT rfl ?_ | refine W_condF rfl ?_ | refine W_region ?_ | refine wN rfl ?_))
    (refine W_cond rfl (fun hc => ?_) (fun hc => ?_))
    · cases e1 : rowB (wat l k)
      · rw [e1] at h1
        (repeat (first | refine WL_nil ?_ | (apply wl0 (hd := rfl); (first | exact qv9 | exact q_callA (h1) | exact QV_indexAddr rfl rfl rfl rfl (solve_row hlt)); (exact gy0)) | (apply wlb (hd := rfl); exact qbx; (exact gy0); rfl) | refine wln ⟨_, rfl, rfl⟩ rfl ?_ | refine wlnu ⟨_, rfl, rfl⟩ rfl ?_ | refine wst rfl rfl rfl List.not_mem_nil rfl rfl rfl rfl rfl rfl ?_ | refine W_condT rfl ?_ | refine W_condF rfl ?_ | refine W_region ?_ | refine wN rfl ?_))
        refine Exists.intro _ ⟨Weak.refl _, Exists.intro _ ⟨resA_tmp rfl rfl, ?_, rfl⟩⟩
        rfl
      · rw [e1] at h1
        (repeat (first | refine WL_nil ?_ | (apply wl0 (hd := rfl); (first | exact qv9 | exact q_callA (h1) | exact QV_indexAddr rfl rfl rfl rfl (solve_row hlt)); (exact gy0)) | (apply wlb (hd := rfl); exact qbx; (exact gy0); rfl) | refine wln ⟨_, rfl, rfl⟩ rfl ?_ | refine wlnu ⟨_, rfl, rfl⟩ rfl ?_ | refine wst rfl rfl rfl List.not_mem_nil rfl rfl rfl rfl rfl rfl ?_ | refine W_condT rfl ?_ | refine W_condF rfl ?_ | refine W_region ?_ | refine wN rfl ?_))
        refine Exists.intro _ (Exists.intro _ ⟨?_, ⟨k + 1, by omega, rfl, by rw [all_take_succ (wat_lt hlt), hall, e1]; rfl, rfl⟩, wkA⟩)
        omega
    · simp at hc; omega
  · have hk' : k = l.length := by omega
    subst hk'
    rw [List.take_length] at hall
    rw [hall, Bool.true_and] at h
    rw [h] at hr
    (repeat (first | refine WL_nil ?_ | (apply wl0 (hd := rfl); (first | exact qv9); (exact gy0)) | (apply wlb (hd := rfl); exact qbx; (exact gy0); rfl) | refine wln ⟨_, rfl, rfl⟩ rfl ?_ | refine wlnu ⟨_, rfl, rfl⟩ rfl ?_ | refine wst rfl rfl rfl List.not_mem_nil rfl rfl rfl rfl rfl rfl ?_ | refine W_condT rfl ?_ | refine W_condF rfl ?_ | refine W_region ?_ | refine wN rfl ?_))
    (refine W_cond rfl (fun hc => ?_) (fun hc => ?_))
    · simp at hc
    · (repeat (first | refine WL_nil ?_ | (apply wl0 (hd := rfl); (first | exact qv9 | exact q_callA (hr)); (exact gy0)) | (apply wlb (hd := rfl); exact qbx; (exact gy0); rfl) | refine wln ⟨_, rfl, rfl⟩ rfl ?_ | refine wlnu ⟨_, rfl, rfl⟩ rfl ?_ | refine wst rfl rfl rfl List.not_mem_nil rfl rfl rfl rfl rfl rfl ?_ | refine W_condT rfl ?_ | refine W_condF rfl ?_ | refine W_region ?_ | refine wN rfl ?_))
      refine Exists.intro _ ⟨Weak.refl _, Exists.intro _ ⟨resA_tmp rfl rfl, ?_, rfl⟩⟩
      rfl
theorem cornersOf_go (l : List Rw) (h : (l.all rowB && inR l.length 3 20) = true) : CallOk Tryz.prog 42 [slRw l] (fun r => r = oTh (cI l l.length)) := by
  have hr := l01In_ok l.length 3 20
  simp only [Bool.and_eq_true] at h
  obtain ⟨hall0, hin⟩ := h
  rw [hin] at hr
  have hb20 := (inR_true.1 hin).2
  have hn20 : l.length ≤ 20 := by omega
  have hlenI := cI_len l hn20
  refine callOk Tryz.func42 Tryz.ntmps42 Tryz.results42 rfl rfl rfl fun B w0 I0 => ?_
  (repeat (first | refine WL_nil ?_ | (apply wl0 (hd := rfl); (first | exact qv9); (exact gy0)) | (apply wlb (hd := rfl); exact qbx; (exact gy0); rfl) | refine wln ⟨_, rfl, rfl⟩ rfl ?_ | refine wlnu ⟨_, rfl, rfl⟩ rfl ?_ | (apply wln1 (hd := rfl); exact q_buildSlice 12 rfl rfl rfl rfl; (exact gy0); rfl) | refine wst rfl rfl rfl List.not_mem_nil rfl rfl rfl rfl rfl rfl ?_ | refine W_condT rfl ?_ | refine W_condF rfl ?_ | refine W_region ?_ | refine wN rfl ?_))
  refine W_loop (fun n s => ∃ k : Nat, k ≤ l.length ∧ n = l.length - k ∧ s = ⟨[(0, slRw l), (3, oTh []), (4, vi k)], [], [12]⟩) ⟨_, _, ⟨0, by omega, rfl, rfl⟩, wkA⟩ ?_
  rintro n s ⟨k, hk, rfl, rfl⟩
  by_cases hlt : k < l.length
  · have h1 := rowOk_ok (wat l k)
    rw [List.all_eq_true.1 hall0 _ (List.mem_of_getElem? (wat_lt hlt))] at h1
    (repeat (first | refine WL_nil ?_ | (apply wl0 (hd := rfl); (first | exact qv9); (exact gy0)) | (apply wlb (hd := rfl); exact qbx; (exact gy0); rfl) | refine wln ⟨_, rfl, rfl⟩ rfl ?_ | refine wlnu ⟨_, rfl, rfl⟩ rfl ?_ | refine wst rfl rfl rfl List.not_mem_nil rfl rfl rfl rfl rfl rfl ?_ | refine W_condT rfl ?_ | refine W_condF rfl ?_ | refine W_region ?_ | refine wN rfl ?_))
    (refine W_cond rfl (fun hc => ?_) (fun hc => ?_))
    · (repeat (first | refine WL_nil ?_ | (apply wl0 (hd := rfl); (first | exact qv9 | exact q_callA (h1) | exact QV_indexAddr rfl rfl rfl rfl (solve_row hlt)); (exact gy0)) | (apply wlb (hd := rfl); exact qbx; (exact gy0); rfl) | refine wln ⟨_, rfl, rfl⟩ rfl ?_ | refine wlnu ⟨_, rfl, rfl⟩ rfl ?_ | refine wst rfl rfl rfl List.not_mem_nil rfl rfl rfl rfl rfl rfl ?_ | refine W_condT rfl ?_ | refine W_condF rfl ?_ | refine W_region ?_ | refine wN rfl ?_))
      refine Exists.intro _ (Exists.intro _ ⟨?_, ⟨k + 1, by omega, rfl, rfl⟩, wkA⟩)
      omega
    · simp at hc; omega
  · (repeat (first | refine WL_nil ?_ | (apply wl0 (hd := rfl); (first | exact qv9); (exact gy0)) | (apply wlb (hd := rfl); exact qbx; (exact gy0); rfl) | refine wln ⟨_, rfl, rfl⟩ rfl ?_ | refine wlnu ⟨_, rfl, rfl⟩ rfl ?_ | refine wst rfl rfl rfl List.not_mem_nil rfl rfl rfl rfl rfl rfl ?_ | refine W_condT rfl ?_ | refine W_condF rfl ?_ | refine W_region ?_ | refine wN rfl ?_))
    (refine W_cond rfl (fun hc => ?_) (fun hc => ?_))
    · simp at hc; omega
    · (repeat (first | refine WL_nil ?_ | (apply wl0 (hd := rfl); (first | exact qv9 | exact q_callA (hr)); (exact gy0)) | (apply wlb (hd := rfl); exact qbx; (exact gy0); rfl) | refine wln ⟨_, rfl, rfl⟩ rfl ?_ | refine wlnu ⟨_, rfl, rfl⟩ rfl ?_ | refine wst rfl rfl rfl List.not_mem_nil rfl rfl rfl rfl rfl rfl ?_ | refine W_condT rfl ?_ | refine W_condF rfl ?_ | refine W_region ?_ | refine wN rfl ?_))
      refine W_loop (fun n s => ∃ i : Nat, i ≤ l.length ∧ n = l.length - i ∧ s = ⟨[(0, slRw l), (3, oTh (cI l i)), (5, vi i)], [], [12]⟩) ⟨_, _, ⟨0, by omega, rfl, rfl⟩, wkA⟩ ?_
      rintro n s ⟨i, hi, rfl, rfl⟩
      by_cases hil : i < l.length
      · have hI := hlenI i
        (repeat (first | refine WL_nil ?_ | (apply wl0 (hd := rfl); (first | exact qv9); (exact gy0)) | (apply wlb (hd := rfl); exact qbx; (exact gy0); rfl) | refine wln ⟨_, rfl, rfl⟩ rfl ?_ | refine wlnu ⟨_, rfl, rfl⟩ rfl ?_ | refine wst rfl rfl rfl List.not_mem_nil rfl rfl rfl rfl rfl rfl ?_ | refine W_condT rfl ?_ | refine W_condF rfl ?_ | refine W_region ?_ | refine wN rfl ?_))
        (refine W_cond rfl (fun hc => ?_) (fun hc => ?_))
        · (repeat (first | refine WL_nil ?_ | (apply wl0 (hd := rfl); (first | exact qv9); (exact gy0)) | (apply wlb (hd := rfl); exact qbx; (exact gy0); rfl) | refine wln ⟨_, rfl, rfl⟩ rfl ?_ | refine wlnu ⟨_, rfl, rfl⟩ rfl ?_ | refine wst rfl rfl rfl List.not_mem_nil rfl rfl rfl rfl rfl rfl ?_ | refine W_condT rfl ?_ | refine W_condF rfl ?_ | refine W_region ?_ | refine wN rfl ?_))
          refine W_loop (fun n s => ∃ k : Nat, k ≤ l.length - (i + 1) ∧ n = l.length - (i + 1) - k ∧ s = ⟨[(0, slRw l), (3, oTh (cK l i (cI l i) k)), (5, vi i), (6, vi (i + 1 + k : Nat))], [], [12]⟩) ⟨_, _, ⟨0, by omega, rfl, rfl⟩, wkA⟩ ?_
          rintro n s ⟨k, hk, rfl, rfl⟩
          have hK := cK_len l hn20 i (cI l i) k
          by_cases hkl : k < l.length - (i + 1)
          · have ck : abin .lss .i64 ((i + 1 + k : Nat) : Int) (l.length : Int) = some (.bool true) := by simp [abin]; omega
            (repeat (first | refine WL_nil ?_ | (apply wl0 (hd := rfl); (first | exact QV_bin rfl rfl ck | exact qv9); (exact gy0)) | (apply wlb (hd := rfl); exact qbx; (exact gy0); rfl) | refine wln ⟨_, rfl, rfl⟩ rfl ?_ | refine wlnu ⟨_, rfl, rfl⟩ rfl ?_ | refine wst rfl rfl rfl List.not_mem_nil rfl rfl rfl rfl rfl rfl ?_ | refine W_condT rfl ?_ | refine W_condF rfl ?_ | refine W_region ?_ | refine wN rfl ?_))
            refine W_loop (fun n s => ∃ m : Nat, m ≤ l.length - (i + 1 + k + 1) ∧ n = l.length - (i + 1 + k + 1) - m ∧ s = ⟨[(0, slRw l), (3, oTh (cM l i (i + 1 + k) (cK l i (cI l i) k) m)), (5, vi i), (6, vi (i + 1 + k : Nat)), (7, vi (i + 1 + k + 1 + m : Nat))], [], [12]⟩) ⟨_, _, ⟨0, by omega, rfl, rfl⟩, wkA⟩ ?_
            rintro n s ⟨m, hm, rfl, rfl⟩
            obtain ⟨out, hout⟩ : ∃ out, cM l i (i + 1 + k) (cK l i (cI l i) k) m = out := ⟨_, rfl⟩
            have hM := cM_len l i (i + 1 + k) (cK l i (cI l i) k) m
            have hstep : cM l i (i + 1 + k) (cK l i (cI l i) k) (m + 1) = addO l out (slvA l i (i + 1 + k) (i + 1 + k + 1 + m)) := by rw [← hout]; rfl
            rw [hout] at hM ⊢
            by_cases hml : m < l.length - (i + 1 + k + 1)
            · have cm : abin .lss .i64 ((i + 1 + k + 1 + m : Nat) : Int) (l.length : Int) = some (.bool true) := by simp [abin]; omega
              have hs := solveRows_ok (wat l i) (wat l (i + 1 + k)) (wat l (i + 1 + k + 1 + m))
              have hle : out.length ≤ 1048576 := by omega
              cases e1 : slv (wat l i) (wat l (i + 1 + k)) (wat l (i + 1 + k + 1 + m)) with
              | none =>
                have hnext : cM l i (i + 1 + k) (cK l i (cI l i) k) (m + 1) = out := by rw [hstep, show slvA l i (i + 1 + k) (i + 1 + k + 1 + m) = none from e1]; rfl
                rw [e1, thO_none] at hs
                (repeat (first | refine WL_nil ?_ | (apply wl0 (hd := rfl); (first | exact QV_bin rfl rfl cm | exact qv9); (exact gy0)) | (apply wlb (hd := rfl); exact qbx; (exact gy0); rfl) | refine wln ⟨_, rfl, rfl⟩ rfl ?_ | refine wlnu ⟨_, rfl, rfl⟩ rfl ?_ | refine wst rfl rfl rfl List.not_mem_nil rfl rfl rfl rfl rfl rfl ?_ | refine W_condT rfl ?_ | refine W_condF rfl ?_ | refine W_region ?_ | refine wN rfl ?_))
                refine wdraw 18 (by kernel_rfl) (by kernel_rfl) (by kernel_rfl) rfl ?_
                (repeat (first | refine HW_nil ?_ | (apply hw0 (hd := rfl); (first | exact qv9 | exact q_callA (hs) | exact QV_indexAddr rfl rfl rfl rfl (solve_row hil) | exact QV_indexAddr rfl rfl rfl rfl (solve_row (show i + 1 + k < l.length by omega)) | exact QV_indexAddr rfl rfl rfl rfl (solve_row (show i + 1 + k + 1 + m < l.length by omega))); (exact gy0)) | (apply hwb (hd := rfl); (first | exact q_box rfl rfl rfl | exact q_allocT rfl); (exact gy0); rfl) | refine hwn ⟨_, rfl, rfl⟩ rfl ?_ | refine hwnu ⟨_, rfl, rfl⟩ rfl ?_ | refine hwi rfl rfl List.not_mem_nil rfl rfl rfl rfl rfl ?_))
                (repeat (first | refine WL_nil ?_ | (apply wl0 (hd := rfl); (first | exact qv9); (exact gy0)) | (apply wlb (hd := rfl); exact qbx; (exact gy0); rfl) | refine wln ⟨_, rfl, rfl⟩ rfl ?_ | refine wlnu ⟨_, rfl, rfl⟩ rfl ?_ | refine wst rfl rfl rfl List.not_mem_nil rfl rfl rfl rfl rfl rfl ?_ | refine W_condT rfl ?_ | refine W_condF rfl ?_ | refine W_region ?_ | refine wN rfl ?_))
                rw [← hnext]
                refine Exists.intro _ (Exists.intro _ ⟨?_, ⟨m + 1, by omega, rfl, rfl⟩, wkA⟩)
                omega
              | some t =>
                have hnext : slvA l i (i + 1 + k) (i + 1 + k + 1 + m) = some t := e1
                rw [hnext] at hstep
                rw [e1, thO_some] at hs
                have hhas := l11Has_ok out t hle
                cases e2 : hasT out t
                · rw [e2] at hhas
                  have ha : (out.map Th.row).length + [t.row].length ≤ 1048576 := by simp; omega
                  (repeat (first | refine WL_nil ?_ | (apply wl0 (hd := rfl); (first | exact QV_bin rfl rfl cm | exact qv9); (exact gy0)) | (apply wlb (hd := rfl); exact qbx; (exact gy0); rfl) | refine wln ⟨_, rfl, rfl⟩ rfl ?_ | refine wlnu ⟨_, rfl, rfl⟩ rfl ?_ | refine wst rfl rfl rfl List.not_mem_nil rfl rfl rfl rfl rfl rfl ?_ | refine W_condT rfl ?_ | refine W_condF rfl ?_ | refine W_region ?_ | refine wN rfl ?_))
                  refine wdraw 18 (by kernel_rfl) (by kernel_rfl) (by kernel_rfl) rfl ?_
                  (repeat (first | refine HW_nil ?_ | (apply hw0 (hd := rfl); (first | exact qv9 | exact q_callA (hs) | exact QV_indexAddr rfl rfl rfl rfl (solve_row hil) | exact QV_indexAddr rfl rfl rfl rfl (solve_row (show i + 1 + k < l.length by omega)) | exact QV_indexAddr rfl rfl rfl rfl (solve_row (show i + 1 + k + 1 + m < l.length by omega))); (exact gy0)) | (apply hwb (hd := rfl); (first | exact q_box rfl rfl rfl | exact q_allocT rfl); (exact gy0); rfl) | refine hwn ⟨_, rfl, rfl⟩ rfl ?_ | refine hwnu ⟨_, rfl, rfl⟩ rfl ?_ | refine hwi rfl rfl List.not_mem_nil rfl rfl rfl rfl rfl ?_))
                  (repeat (first | refine WL_nil ?_ | (apply wl0 (hd := rfl); (first | exact qv9 | exact q_callA (hhas)); (exact gy0)) | (apply wlb (hd := rfl); exact qbx; (exact gy0); rfl) | refine wln ⟨_, rfl, rfl⟩ rfl ?_ | refine wlnu ⟨_, rfl, rfl⟩ rfl ?_ | refine wst rfl rfl rfl List.not_mem_nil rfl rfl rfl rfl rfl rfl ?_ | refine W_condT rfl ?_ | refine W_condF rfl ?_ | refine W_region ?_ | refine wN rfl ?_))
                  refine W_loop (fun n s => ∃ x : Nat, ∃ b : Bool, x ≤ l.length ∧ n = l.length - x ∧ b = (l.take x).all (holB t) ∧ s = ⟨[(0, slRw l), (3, oTh out), (5, vi i), (6, vi (i + 1 + k : Nat)), (7, vi (i + 1 + k + 1 + m : Nat)), (8, .ptr 8 0), (10, vb b), (11, vi x)], [(8, t.row)], [12]⟩) ⟨_, _, ⟨0, true, by omega, rfl, rfl, rfl⟩, wkA⟩ ?_
                  rintro n s ⟨x, b, hx, rfl, hb, rfl⟩
                  by_cases hxl : x < l.length
                  · have cx : abin .lss .i64 (x : Int) (l.length : Int) = some (.bool true) := by simp [abin]; omega
                    cases b with
                    | false =>
                      have hno : l.all (holB t) = false := all_take_false hb.symm
                      (repeat (first | refine WL_nil ?_ | (apply wl0 (hd := rfl); (first | exact QV_bin rfl rfl cx | exact qv9); (exact gy0)) | (apply wlb (hd := rfl); exact qbx; (exact gy0); rfl) | refine wln ⟨_, rfl, rfl⟩ rfl ?_ | refine wlnu ⟨_, rfl, rfl⟩ rfl ?_ | refine wst rfl rfl rfl List.not_mem_nil rfl rfl rfl rfl rfl rfl ?_ | refine W_condT rfl ?_ | refine W_condF rfl ?_ | refine W_region ?_ | refine wN rfl ?_))
                      rw [addO_not e2 hno] at hstep
                      rw [← hstep]
                      refine Exists.intro _ (Exists.intro _ ⟨?_, ⟨m + 1, by omega, rfl, rfl⟩, wkA⟩)
                      omega
                    | true =>
                      have hh := l10Holds_ok t (wat l x)
                      (repeat (first | refine WL_nil ?_ | (apply wl0 (hd := rfl); (first | exact QV_bin rfl rfl cx | exact qv9); (exact gy0)) | (apply wlb (hd := rfl); exact qbx; (exact gy0); rfl) | refine wln ⟨_, rfl, rfl⟩ rfl ?_ | refine wlnu ⟨_, rfl, rfl⟩ rfl ?_ | refine wst rfl rfl rfl List.not_mem_nil rfl rfl rfl rfl rfl rfl ?_ | refine W_condT rfl ?_ | refine W_condF rfl ?_ | refine W_region ?_ | refine wN rfl ?_))
                      refine wdraw 7 (by kernel_rfl) (by kernel_rfl) (by kernel_rfl) rfl ?_
                      (repeat (first | refine HW_nil ?_ | (apply hw0 (hd := rfl); (first | exact qv9 | exact q_callA (hh) | exact QV_indexAddr rfl rfl rfl rfl (solve_row hxl)); (exact gy0)) | (apply hwb (hd := rfl); exact qbx; (exact gy0); rfl) | refine hwn ⟨_, rfl, rfl⟩ rfl ?_ | refine hwnu ⟨_, rfl, rfl⟩ rfl ?_))
                      (repeat (first | refine WL_nil ?_ | (apply wl0 (hd := rfl); (first | exact qv9); (exact gy0)) | (apply wlb (hd := rfl); exact qbx; (exact gy0); rfl) | refine wln ⟨_, rfl, rfl⟩ rfl ?_ | refine wlnu ⟨_, rfl, rfl⟩ rfl ?_ | refine wst rfl rfl rfl List.not_mem_nil rfl rfl rfl rfl rfl rfl ?_ | refine W_condT rfl ?_ | refine W_condF rfl ?_ | refine W_region ?_ | refine wN rfl ?_))
                      refine Exists.intro _ (Exists.intro _ ⟨?_, ⟨x + 1, decide (lhs t (wat l x) ≤ rhs t (wat l x)), by omega, rfl, by rw [all_take_succ (wat_lt hxl), ← hb]; rfl, rfl⟩, wkA⟩)
                      omega
                  · have cx : abin .lss .i64 (x : Int) (l.length : Int) = some (.bool false) := by simp [abin]; omega
                    have hx' : x = l.length := by omega
                    subst hx'
                    rw [List.take_length] at hb
                    cases b with
                    | false =>
                      (repeat (first | refine WL_nil ?_ | (apply wl0 (hd := rfl); (first | exact QV_bin rfl rfl cx | exact qv9); (exact gy0)) | (apply wlb (hd := rfl); exact qbx; (exact gy0); rfl) | refine wln ⟨_, rfl, rfl⟩ rfl ?_ | refine wlnu ⟨_, rfl, rfl⟩ rfl ?_ | refine wst rfl rfl rfl List.not_mem_nil rfl rfl rfl rfl rfl rfl ?_ | refine W_condT rfl ?_ | refine W_condF rfl ?_ | refine W_region ?_ | refine wN rfl ?_))
                      rw [addO_not e2 hb.symm] at hstep
                      rw [← hstep]
                      refine Exists.intro _ (Exists.intro _ ⟨?_, ⟨m + 1, by omega, rfl, rfl⟩, wkA⟩)
                      omega
                    | true =>
                      rw [addO_new e2 hb.symm] at hstep
                      (repeat (first | refine WL_nil ?_ | (apply wl0 (hd := rfl); (first | exact QV_bin rfl rfl cx | exact qv9); (exact gy0)) | (apply wlb (hd := rfl); exact qbx; (exact gy0); rfl) | refine wln ⟨_, rfl, rfl⟩ rfl ?_ | refine wlnu ⟨_, rfl, rfl⟩ rfl ?_ | (apply wln1 (hd := rfl); exact q_buildSlice 94 rfl rfl rfl rfl; (exact gy0); rfl) | refine wst rfl rfl rfl List.not_mem_nil rfl rfl rfl rfl rfl rfl ?_ | refine wappE rfl rfl rfl (th_cells [t]) (th_lens [t]) ha rfl rfl (th_app (t := t)) rfl rfl ?_ | refine W_condT rfl ?_ | refine W_condF rfl ?_ | refine W_region ?_ | refine wN rfl ?_))
                      rw [← hstep]
                      refine Exists.intro _ (Exists.intro _ ⟨?_, ⟨m + 1, by omega, rfl, rfl⟩, wkA⟩)
                      omega
                · rw [e2] at hhas
                  (repeat (first | refine WL_nil ?_ | (apply wl0 (hd := rfl); (first | exact QV_bin rfl rfl cm | exact qv9); (exact gy0)) | (apply wlb (hd := rfl); exact qbx; (exact gy0); rfl) | refine wln ⟨_, rfl, rfl⟩ rfl ?_ | refine wlnu ⟨_, rfl, rfl⟩ rfl ?_ | refine wst rfl rfl rfl List.not_mem_nil rfl rfl rfl rfl rfl rfl ?_ | refine W_condT rfl ?_ | refine W_condF rfl ?_ | refine W_region ?_ | refine wN rfl ?_))
                  refine wdraw 18 (by kernel_rfl) (by kernel_rfl) (by kernel_rfl) rfl ?_
                  (repeat (first | refine HW_nil ?_ | (apply hw0 (hd := rfl); (first | exact qv9 | exact q_callA (hs) | exact QV_indexAddr rfl rfl rfl rfl (solve_row hil) | exact QV_indexAddr rfl rfl rfl rfl (solve_row (show i + 1 + k < l.length by omega)) | exact QV_indexAddr rfl rfl rfl rfl (solve_row (show i + 1 + k + 1 + m < l.length by omega))); (exact gy0)) | (apply hwb (hd := rfl); (first | exact q_box rfl rfl rfl | exact q_allocT rfl); (exact gy0); rfl) | refine hwn ⟨_, rfl, rfl⟩ rfl ?_ | refine hwnu ⟨_, rfl, rfl⟩ rfl ?_ | refine hwi rfl rfl List.not_mem_nil rfl rfl rfl rfl rfl ?_))
                  (repeat (first | refine WL_nil ?_ | (apply wl0 (hd := rfl); (first | exact qv9 | exact q_callA (hhas)); (exact gy0)) | (apply wlb (hd := rfl); exact qbx; (exact gy0); rfl) | refine wln ⟨_, rfl, rfl⟩ rfl ?_ | refine wlnu ⟨_, rfl, rfl⟩ rfl ?_ | refine wst rfl rfl rfl List.not_mem_nil rfl rfl rfl rfl rfl rfl ?_ | refine W_condT rfl ?_ | refine W_condF rfl ?_ | refine W_region ?_ | refine wN rfl ?_))
                  rw [addO_has e2] at hstep
                  rw [← hstep]
                  refine Exists.intro _ (Exists.intro _ ⟨?_, ⟨m + 1, by omega, rfl, rfl⟩, wkA⟩)
                  omega
            · have cm : abin .lss .i64 ((i + 1 + k + 1 + m : Nat) : Int) (l.length : Int) = some (.bool false) := by simp [abin]; omega
              have hm' : m = l.length - (i + 1 + k + 1) := by omega
              (repeat (first | refine WL_nil ?_ | (apply wl0 (hd := rfl); (first | exact QV_bin rfl rfl cm | exact qv9); (exact gy0)) | (apply wlb (hd := rfl); exact qbx; (exact gy0); rfl) | refine wln ⟨_, rfl, rfl⟩ rfl ?_ | refine wlnu ⟨_, rfl, rfl⟩ rfl ?_ | refine wst rfl rfl rfl List.not_mem_nil rfl rfl rfl rfl rfl rfl ?_ | refine W_condT rfl ?_ | refine W_condF rfl ?_ | refine W_region ?_ | refine wN rfl ?_))
              rw [← hout, hm']
              refine Exists.intro _ (Exists.intro _ ⟨?_, ⟨k + 1, by omega, rfl, rfl⟩, wkA⟩)
              omega
          · have ck : abin .lss .i64 ((i + 1 + k : Nat) : Int) (l.length : Int) = some (.bool false) := by simp [abin]; omega
            have hk' : k = l.length - (i + 1) := by omega
            subst hk'
            (repeat (first | refine WL_nil ?_ | (apply wl0 (hd := rfl); (first | exact QV_bin rfl rfl ck | exact qv9); (exact gy0)) | (apply wlb (hd := rfl); exact qbx; (exact gy0); rfl) | refine wln ⟨_, rfl, rfl⟩ rfl ?_ | refine wlnu ⟨_, rfl, rfl⟩ rfl ?_ | refine wst rfl rfl rfl List.not_mem_nil rfl rfl rfl rfl rfl rfl ?_ | refine W_condT rfl ?_ | refine W_condF rfl ?_ | refine W_region ?_ | refine wN rfl ?_))
            refine Exists.intro _ (Exists.intro _ ⟨?_, ⟨i + 1, by omega, rfl, rfl⟩, wkA⟩)
            omega
        · simp at hc; omega
      · (repeat (first | refine WL_nil ?_ | (apply wl0 (hd := rfl); (first | exact qv9); (exact gy0)) | (apply wlb (hd := rfl); exact qbx; (exact gy0); rfl) | refine wln ⟨_, rfl, rfl⟩ rfl ?_ | refine wlnu ⟨_, rfl, rfl⟩ rfl ?_ | refine wst rfl rfl rfl List.not_mem_nil rfl rfl rfl rfl rfl rfl ?_ | refine W_condT rfl ?_ | refine W_condF rfl ?_ | refine W_region ?_ | refine wN rfl ?_))
        (refine W_cond rfl (fun hc => ?_) (fun hc => ?_))
        · simp at hc; omega
        · have hi' : i = l.length := by omega
          subst hi'
          (repeat (first | refine WL_nil ?_ | (apply wl0 (hd := rfl); (first | exact qv9); (exact gy0)) | (apply wlb (hd := rfl); exact qbx; (exact gy0); rfl) | refine wln ⟨_, rfl, rfl⟩ rfl ?_ | refine wlnu ⟨_, rfl, rfl⟩ rfl ?_ | refine wst rfl rfl rfl List.not_mem_nil rfl rfl rfl rfl rfl rfl ?_ | refine W_condT rfl ?_ | refine W_condF rfl ?_ | refine W_region ?_ | refine wN rfl ?_))
          refine Exists.intro _ ⟨Weak.refl _, Exists.intro _ ⟨resA_tmp rfl rfl, ?_, rfl⟩⟩
          rfl
theorem cornersOf_own (l : List Rw) (hn : l.length ≤ 1048576) : CallOk Tryz.prog 42 [slRw l] (fun r => r = oTh (corL l)) := by
  cases h : l.all rowB && inR l.length 3 20
  · rw [show corL l = [] by simp only [corL, h]; rfl]
    exact cornersOf_no l hn h
  · rw [show corL l = cI l l.length by simp only [corL, h]; rfl]
    exact cornersOf_go l h
def thrL (js : List Jt) (ls : List Ld) : List Th := corL (rowsA js ls)
theorem thrustsOf_own (js : List Jt) (ls : List Ld) (hj : js.length ≤ 1048576) (hn : ls.length ≤ 1048576) : CallOk Tryz.prog 23 [.agg [slJt js], slLd ls] (fun r => r = oTh (thrL js ls)) := by
  have h1 := rowsOf_ok js ls hj hn
  have h2 := cornersOf_own (rowsA js ls) (rowsA_len js ls)
  refine callOk Tryz.func23 Tryz.ntmps23 Tryz.results23 rfl rfl rfl fun B w0 I0 => ?_
  (repeat (first | refine WL_nil ?_ | (apply wl0 (hd := rfl); (first | exact qv9 | exact q_callA (h1)); (exact gy0)) | (apply wlb (hd := rfl); exact qbx; (exact gy0); rfl) | refine wln ⟨_, rfl, rfl⟩ rfl ?_ | refine wlnu ⟨_, rfl, rfl⟩ rfl ?_ | (apply wln1 (hd := rfl); exact q_call1A 0 12 (h2); (exact gy0); rfl) | refine wst rfl rfl rfl List.not_mem_nil rfl rfl rfl rfl rfl rfl ?_ | refine W_condT rfl ?_ | refine W_condF rfl ?_ | refine W_region ?_ | refine wN rfl ?_))
  refine Exists.intro _ ⟨Weak.refl _, Exists.intro _ ⟨resA_tmp rfl rfl, ?_, rfl⟩⟩
  rfl
theorem thrustsOf_ok (js : List Jt) (ls : List Ld) (hj : js.length ≤ 1048576) (hn : ls.length ≤ 1048576) : CallOk Tryz.prog 23 [.agg [slJt js], slLd ls] (fun r => r = slTh (thrL js ls)) := callOk_dat (thrustsOf_own js ls hj hn) rfl
def stnB (js : List Jt) (ls : List Ld) : Bool := !(thrL js ls).isEmpty
theorem stands_ok (js : List Jt) (ls : List Ld) (hj : js.length ≤ 1048576) (hn : ls.length ≤ 1048576) : CallOk Tryz.prog 8 [.agg [slJt js], slLd ls] (fun r => r = vb (stnB js ls)) := by
  have h1 := thrustsOf_ok js ls hj hn
  unfold stnB
  refine callOk Tryz.func8 Tryz.ntmps8 Tryz.results8 rfl rfl rfl fun B w0 I0 => ?_
  cases e : thrL js ls with
  | nil =>
    rw [e] at h1
    (repeat (first | refine WL_nil ?_ | (apply wl0 (hd := rfl); (first | exact qv9 | exact q_callA (h1)); (exact gy0)) | (apply wlb (hd := rfl); exact qbx; (exact gy0); rfl) | refine wln ⟨_, rfl, rfl⟩ rfl ?_ | refine wlnu ⟨_, rfl, rfl⟩ rfl ?_ | refine wst rfl rfl rfl List.not_mem_nil rfl rfl rfl rfl rfl rfl ?_ | refine W_condT rfl ?_ | refine W_condF rfl ?_ | refine W_region ?_ | refine wN rfl ?_))
    refine Exists.intro _ ⟨Weak.refl _, Exists.intro _ ⟨resA_tmp rfl rfl, ?_, rfl⟩⟩
    rfl
  | cons t r =>
    rw [e] at h1
    have c0 : abin .gtr .i64 ((t :: r).length : Int) 0 = some (.bool true) := by simp [abin]
    (repeat (first | refine WL_nil ?_ | (apply wl0 (hd := rfl); (first | exact QV_bin rfl rfl c0 | exact qv9 | exact q_callA (h1)); (exact gy0)) | (apply wlb (hd := rfl); exact qbx; (exact gy0); rfl) | refine wln ⟨_, rfl, rfl⟩ rfl ?_ | refine wlnu ⟨_, rfl, rfl⟩ rfl ?_ | refine wst rfl rfl rfl List.not_mem_nil rfl rfl rfl rfl rfl rfl ?_ | refine W_condT rfl ?_ | refine W_condF rfl ?_ | refine W_region ?_ | refine wN rfl ?_))
    refine Exists.intro _ ⟨Weak.refl _, Exists.intro _ ⟨resA_tmp rfl rfl, ?_, rfl⟩⟩
    rfl
end Go.Proofs.YtkaffcdjhbaifaaGreat
