/- ScaleLoads, JoinLoads, StandsAt, both ways. -/
import Derived.Test.YtkieepmkcaipaaaGreatYG6
namespace Go.Proofs.YtkieepmkcaipaaaGreat
open Go.Eng
set_option maxRecDepth 100000
attribute [local irreducible] QV TV WL HW W CallOk CallOkA Weak

def sclN (n : Int) (l : Ld) : Ld := ⟨l.s, n * l.w, l.x⟩
def sclOk (n : Int) (l : Ld) : Bool := inR l.w 0 10000 && decide (n * l.w ≤ 10000)
def sclB (n : Int) (ls : List Ld) : Bool := inR n 0 1000 && (decide (ls.length ≤ 6) && ls.all (sclOk n))
theorem ld1_cells (l : Ld) : ∀ x ∈ [l.row].flatten, isCell x = true := by
  intro x hx
  simp only [List.flatten_cons, List.flatten_nil, List.append_nil, Ld.row, List.mem_cons, List.not_mem_nil, or_false] at hx
  rcases hx with rfl | rfl | rfl <;> rfl
theorem ld1_lens (l : Ld) : ∀ r ∈ [l.row], r.length = 3 := by
  intro r hr
  simp only [List.mem_singleton] at hr
  subst hr; rfl
theorem ldL_cells (ls : List Ld) : ∀ x ∈ (ls.map Ld.row).flatten, isCell x = true := by
  intro x hx
  obtain ⟨r, hr, hx⟩ := List.mem_flatten.1 hx
  obtain ⟨l, _, rfl⟩ := List.mem_map.1 hr
  simp only [Ld.row, List.mem_cons, List.not_mem_nil, or_false] at hx
  rcases hx with rfl | rfl | rfl <;> rfl
theorem ldL_lens (ls : List Ld) : ∀ r ∈ ls.map Ld.row, r.length = 3 := by
  intro r hr
  obtain ⟨l, _, rfl⟩ := List.mem_map.1 hr
  rfl
theorem scl_mul {n w : Int} (hn : inR n 0 1000 = true) (hw : inR w 0 10000 = true) : 0 ≤ n * w ∧ n * w ≤ 10000000 := by
  rw [inR_true] at hn hw
  have h1 := Int.mul_nonneg hn.1 hw.1
  have h2 := Int.mul_le_mul hn.2 hw.2 hw.1 (show (0 : Int) ≤ 1000 by omega)
  omega
theorem implScaleLoads_no (ls : List Ld) (n : Int) (hl : ls.length ≤ 1048576) (h : sclB n ls = false) : CallOk Tryz.prog 82 [slLd ls, vi n] (fun r => r = .tup [slLd [], vb false]) := by
  have w1 := within_ok n 0 1000
  refine callOk Tryz.func82 Tryz.ntmps82 Tryz.results82 rfl rfl rfl fun B w0 M I0 V0 => ?_
  cases e1 : inR n 0 1000
  · rw [e1] at w1
    (repeat (first | refine WL_nil ?_ | (apply wl0 (hd := rfl); (first | exact qv9 | exact q_callA (w1)); (exact gy0)) | (apply wlb (hd := rfl); exact qbx; (exact gy0); rfl) | refine wln ⟨_, rfl, rfl⟩ rfl ?_ | refine wlnu ⟨_, rfl, rfl⟩ rfl ?_ | refine wst rfl rfl rfl List.not_mem_nil rfl rfl rfl rfl rfl rfl ?_ | refine W_condT rfl ?_ | refine W_condF rfl ?_ | refine W_region ?_ | refine wN rfl ?_))
    refine Exists.intro (⟨[(4, slLd []), (5, vb false)], [], []⟩ : St) ⟨wkA, Exists.intro _ ⟨resA_tmp rfl (resA_tmp rfl rfl), ?_, rfl⟩⟩
    rfl
  · rw [e1] at w1
    by_cases h6 : ls.length ≤ 6
    · have c0 : abin .gtr .i64 (ls.length : Int) 6 = some (.bool false) := by simp [abin]; omega
      (repeat (first | refine WL_nil ?_ | (apply wl0 (hd := rfl); (first | exact QV_bin rfl rfl c0 | exact qv9 | exact q_callA (w1)); (exact gy0)) | (apply wlb (hd := rfl); exact qbx; (exact gy0); rfl) | refine wln ⟨_, rfl, rfl⟩ rfl ?_ | refine wlnu ⟨_, rfl, rfl⟩ rfl ?_ | refine wst rfl rfl rfl List.not_mem_nil rfl rfl rfl rfl rfl rfl ?_ | refine W_condT rfl ?_ | refine W_condF rfl ?_ | refine W_region ?_ | refine wN rfl ?_))
      refine W_loop (fun m s => ∃ (k : Nat) (rows : List (List AV)), k ≤ ls.length ∧ m = ls.length - k ∧ (ls.take k).all (sclOk n) = true ∧ rows = ((ls.take k).map (sclN n)).map Ld.row ∧ s = ⟨[(1, vi n), (6, .own 20 91 3 rows), (17, slLd ls), (18, vi ls.length), (19, vi k)], [], [20]⟩) ⟨_, _, ⟨0, [], by omega, rfl, rfl, by simp, rfl⟩, wkO⟩ ?_
      rintro m s ⟨k, rows, hk, rfl, hall, hrows, rfl⟩
      by_cases hlt : k < ls.length
      · have hp := lat_lt hlt
        have c1 : abin .lss .i64 (k : Int) (ls.length : Int) = some (.bool true) := by simp [abin]; omega
        have w2 := within_ok (lat ls k).w 0 10000
        cases e2 : inR (lat ls k).w 0 10000
        · rw [e2] at w2
          (repeat (first | refine WL_nil ?_ | (apply wl0 (hd := rfl); (first | exact QV_bin rfl rfl c1 | exact qv9 | exact QV_indexAddr rfl rfl rfl rfl (row_at hp) | exact q_callA (w2)); (exact gy0)) | (apply wlb (hd := rfl); exact qbx; (exact gy0); rfl) | refine wln ⟨_, rfl, rfl⟩ rfl ?_ | refine wlnu ⟨_, rfl, rfl⟩ rfl ?_ | refine wst rfl rfl rfl List.not_mem_nil rfl rfl rfl rfl rfl rfl ?_ | refine W_condT rfl ?_ | refine W_condF rfl ?_ | refine W_region ?_ | refine wN rfl ?_))
          refine Exists.intro (⟨[(4, slLd []), (5, vb false)], [], []⟩ : St) ⟨wkA, Exists.intro _ ⟨resA_tmp rfl (resA_tmp rfl rfl), ?_, rfl⟩⟩
          rfl
        · rw [e2] at w2
          have hm := scl_mul e1 e2
          have m1 : abin .mul .i64 n (lat ls k).w = some (.int .i64 (n * (lat ls k).w)) := by simp only [abin]; rw [i64w (by omega)]
          by_cases h3 : n * (lat ls k).w ≤ 10000
          · have c2 : abin .gtr .i64 (n * (lat ls k).w) 10000 = some (.bool false) := by simp [abin]; omega
            have m2 : abin .mul .i64 (lat ls k).w n = some (.int .i64 (n * (lat ls k).w)) := by simp only [abin]; rw [Int.mul_comm, i64w (by omega)]
            have hr : rows.length + [(sclN n (lat ls k)).row].length ≤ 1048576 := by rw [hrows]; simp; omega
            (repeat (first | refine WL_nil ?_ | (apply wl0 (hd := rfl); (first | exact QV_bin rfl rfl c1 | exact QV_bin rfl rfl c2 | exact QV_bin rfl rfl m1 | exact QV_bin rfl rfl m2 | exact qv9 | exact QV_indexAddr rfl rfl rfl rfl (row_at hp) | exact q_callA (w2)); (exact gy0)) | (apply wlb (hd := rfl); exact qbx; (exact gy0); rfl) | refine wln ⟨_, rfl, rfl⟩ rfl ?_ | refine wlnu ⟨_, rfl, rfl⟩ rfl ?_ | (apply wln1 (hd := rfl); exact q_buildSlice 41 rfl rfl rfl rfl; (exact gy0); rfl) | refine wst rfl rfl rfl List.not_mem_nil rfl rfl rfl rfl rfl rfl ?_ | refine wapp (rows2 := [(sclN n (lat ls k)).row]) rfl rfl rfl (ld1_cells _) (ld1_lens _) hr rfl rfl rfl rfl ?_ | refine W_condT rfl ?_ | refine W_condF rfl ?_ | refine W_region ?_ | refine wN rfl ?_))
            refine Exists.intro _ (Exists.intro _ ⟨?_, ⟨k + 1, rows ++ [(sclN n (lat ls k)).row], by omega, rfl, by rw [all_take_succ hp, hall]; simp [sclOk, e2, h3], by rw [hrows, List.take_add_one, hp]; simp, rfl⟩, wkA⟩)
            omega
          · have c2 : abin .gtr .i64 (n * (lat ls k).w) 10000 = some (.bool true) := by simp [abin]; omega
            (repeat (first | refine WL_nil ?_ | (apply wl0 (hd := rfl); (first | exact QV_bin rfl rfl c1 | exact QV_bin rfl rfl c2 | exact QV_bin rfl rfl m1 | exact qv9 | exact QV_indexAddr rfl rfl rfl rfl (row_at hp) | exact q_callA (w2)); (exact gy0)) | (apply wlb (hd := rfl); exact qbx; (exact gy0); rfl) | refine wln ⟨_, rfl, rfl⟩ rfl ?_ | refine wlnu ⟨_, rfl, rfl⟩ rfl ?_ | refine wst rfl rfl rfl List.not_mem_nil rfl rfl rfl rfl rfl rfl ?_ | refine W_condT rfl ?_ | refine W_condF rfl ?_ | refine W_region ?_ | refine wN rfl ?_))
            refine Exists.intro (⟨[(4, slLd []), (5, vb false)], [], []⟩ : St) ⟨wkA, Exists.intro _ ⟨resA_tmp rfl (resA_tmp rfl rfl), ?_, rfl⟩⟩
            rfl
      · have hk' : k = ls.length := by omega
        subst hk'
        rw [List.take_length] at hall
        exfalso
        simp [sclB, e1, hall] at h
        omega
    · have c0 : abin .gtr .i64 (ls.length : Int) 6 = some (.bool true) := by simp [abin]; omega
      (repeat (first | refine WL_nil ?_ | (apply wl0 (hd := rfl); (first | exact QV_bin rfl rfl c0 | exact qv9 | exact q_callA (w1)); (exact gy0)) | (apply wlb (hd := rfl); exact qbx; (exact gy0); rfl) | refine wln ⟨_, rfl, rfl⟩ rfl ?_ | refine wlnu ⟨_, rfl, rfl⟩ rfl ?_ | refine wst rfl rfl rfl List.not_mem_nil rfl rfl rfl rfl rfl rfl ?_ | refine W_condT rfl ?_ | refine W_condF rfl ?_ | refine W_region ?_ | refine wN rfl ?_))
      refine Exists.intro (⟨[(4, slLd []), (5, vb false)], [], []⟩ : St) ⟨wkA, Exists.intro _ ⟨resA_tmp rfl (resA_tmp rfl rfl), ?_, rfl⟩⟩
      rfl
theorem scl_at {n : Int} {ls : List Ld} (h : sclB n ls = true) : inR n 0 1000 = true ∧ ls.length ≤ 6 ∧ ∀ k, k < ls.length → inR (lat ls k).w 0 10000 = true ∧ n * (lat ls k).w ≤ 10000 := by
  simp only [sclB, Bool.and_eq_true, decide_eq_true_eq, List.all_eq_true] at h
  refine ⟨h.1, h.2.1, fun k hk => ?_⟩
  have := h.2.2 _ (List.mem_of_getElem? (lat_lt hk))
  simp only [sclOk, Bool.and_eq_true, decide_eq_true_eq] at this
  exact this
theorem implScaleLoads_yes (ls : List Ld) (n : Int) (h : sclB n ls = true) : CallOk Tryz.prog 82 [slLd ls, vi n] (fun r => r = .tup [.own 20 91 3 ((ls.map (sclN n)).map Ld.row), vb true]) := by
  obtain ⟨e1, h6, hat⟩ := scl_at h
  have w1 := within_ok n 0 1000
  rw [e1] at w1
  have c0 : abin .gtr .i64 (ls.length : Int) 6 = some (.bool false) := by simp [abin]; omega
  refine callOk Tryz.func82 Tryz.ntmps82 Tryz.results82 rfl rfl rfl fun B w0 M I0 V0 => ?_
  (repeat (first | refine WL_nil ?_ | (apply wl0 (hd := rfl); (first | exact QV_bin rfl rfl c0 | exact qv9 | exact q_callA (w1)); (exact gy0)) | (apply wlb (hd := rfl); exact qbx; (exact gy0); rfl) | refine wln ⟨_, rfl, rfl⟩ rfl ?_ | refine wlnu ⟨_, rfl, rfl⟩ rfl ?_ | refine wst rfl rfl rfl List.not_mem_nil rfl rfl rfl rfl rfl rfl ?_ | refine W_condT rfl ?_ | refine W_condF rfl ?_ | refine W_region ?_ | refine wN rfl ?_))
  refine W_loop (fun m s => ∃ (k : Nat) (rows : List (List AV)), k ≤ ls.length ∧ m = ls.length - k ∧ rows = ((ls.take k).map (sclN n)).map Ld.row ∧ s = ⟨[(1, vi n), (6, .own 20 91 3 rows), (17, slLd ls), (18, vi ls.length), (19, vi k)], [], [20]⟩) ⟨_, _, ⟨0, [], by omega, rfl, by simp, rfl⟩, wkO⟩ ?_
  rintro m s ⟨k, rows, hk, rfl, hrows, rfl⟩
  by_cases hlt : k < ls.length
  · have hp := lat_lt hlt
    obtain ⟨e2, h3⟩ := hat k hlt
    have c1 : abin .lss .i64 (k : Int) (ls.length : Int) = some (.bool true) := by simp [abin]; omega
    have w2 := within_ok (lat ls k).w 0 10000
    rw [e2] at w2
    have hm := scl_mul e1 e2
    have m1 : abin .mul .i64 n (lat ls k).w = some (.int .i64 (n * (lat ls k).w)) := by simp only [abin]; rw [i64w (by omega)]
    have c2 : abin .gtr .i64 (n * (lat ls k).w) 10000 = some (.bool false) := by simp [abin]; omega
    have m2 : abin .mul .i64 (lat ls k).w n = some (.int .i64 (n * (lat ls k).w)) := by simp only [abin]; rw [Int.mul_comm, i64w (by omega)]
    have hr : rows.length + [(sclN n (lat ls k)).row].length ≤ 1048576 := by rw [hrows]; simp; omega
    (repeat (first | refine WL_nil ?_ | (apply wl0 (hd := rfl); (first | exact QV_bin rfl rfl c1 | exact QV_bin rfl rfl c2 | exact QV_bin rfl rfl m1 | exact QV_bin rfl rfl m2 | exact qv9 | exact QV_indexAddr rfl rfl rfl rfl (row_at hp) | exact q_callA (w2)); (exact gy0)) | (apply wlb (hd := rfl); exact qbx; (exact gy0); rfl) | refine wln ⟨_, rfl, rfl⟩ rfl ?_ | refine wlnu ⟨_, rfl, rfl⟩ rfl ?_ | (apply wln1 (hd := rfl); exact q_buildSlice 41 rfl rfl rfl rfl; (exact gy0); rfl) | refine wst rfl rfl rfl List.not_mem_nil rfl rfl rfl rfl rfl rfl ?_ | refine wapp (rows2 := [(sclN n (lat ls k)).row]) rfl rfl rfl (ld1_cells _) (ld1_lens _) hr rfl rfl rfl rfl ?_ | refine W_condT rfl ?_ | refine W_condF rfl ?_ | refine W_region ?_ | refine wN rfl ?_))
    refine Exists.intro _ (Exists.intro _ ⟨?_, ⟨k + 1, rows ++ [(sclN n (lat ls k)).row], by omega, rfl, by rw [hrows, List.take_add_one, hp]; simp, rfl⟩, wkA⟩)
    omega
  · have c1 : abin .lss .i64 (k : Int) (ls.length : Int) = some (.bool false) := by simp [abin]; omega
    have hk' : k = ls.length := by omega
    subst hk'
    rw [List.take_length] at hrows
    subst hrows
    (repeat (first | refine WL_nil ?_ | (apply wl0 (hd := rfl); (first | exact QV_bin rfl rfl c1 | exact qv9); (exact gy0)) | (apply wlb (hd := rfl); exact qbx; (exact gy0); rfl) | refine wln ⟨_, rfl, rfl⟩ rfl ?_ | refine wlnu ⟨_, rfl, rfl⟩ rfl ?_ | refine wst rfl rfl rfl List.not_mem_nil rfl rfl rfl rfl rfl rfl ?_ | refine W_condT rfl ?_ | refine W_condF rfl ?_ | refine W_region ?_ | refine wN rfl ?_))
    refine Exists.intro _ ⟨Weak.refl _, Exists.intro _ ⟨resA_tmp rfl (resA_tmp rfl rfl), ?_, rfl⟩⟩
    rfl
def joinB (ls ms : List Ld) (n : Int) : Bool := sclB n ms && decide (ls.length + ms.length ≤ 6)
def joinL (ls ms : List Ld) (n : Int) : List Ld := ls ++ ms.map (sclN n)
theorem join_rows (ls ms : List Ld) (n : Int) : ls.map Ld.row ++ (ms.map (sclN n)).map Ld.row = (joinL ls ms n).map Ld.row := by simp [joinL]
theorem implJoinLoads_no (ls ms : List Ld) (n : Int) (hl : ls.length ≤ 1048576) (hm : ms.length ≤ 1048576) (h : joinB ls ms n = false) : CallOk Tryz.prog 30 [slLd ls, slLd ms, vi n] (fun r => r = .tup [slLd [], vb false]) := by
  refine callOk Tryz.func30 Tryz.ntmps30 Tryz.results30 rfl rfl rfl fun B w0 M I0 V0 => ?_
  cases e1 : sclB n ms
  · have h1 := implScaleLoads_no ms n hm e1
    (repeat (first | refine WL_nil ?_ | (apply wl0 (hd := rfl); (first | exact qv9 | exact q_callA (h1)); (exact gy0)) | (apply wlb (hd := rfl); exact qbx; (exact gy0); rfl) | refine wln ⟨_, rfl, rfl⟩ rfl ?_ | refine wlnu ⟨_, rfl, rfl⟩ rfl ?_ | refine wst rfl rfl rfl List.not_mem_nil rfl rfl rfl rfl rfl rfl ?_ | refine W_condT rfl ?_ | refine W_condF rfl ?_ | refine W_region ?_ | refine wN rfl ?_))
    refine Exists.intro (⟨[(6, slLd []), (7, vb false)], [], []⟩ : St) ⟨wkA, Exists.intro _ ⟨resA_tmp rfl (resA_tmp rfl rfl), ?_, rfl⟩⟩
    rfl
  · have h1 := callOk_dat (implScaleLoads_yes ms n e1) rfl
    have h6 : 6 < ls.length + ms.length := by simp [joinB, e1] at h; omega
    have h6' := (scl_at e1).2.1
    have hw : (IntKind.wrap .i64 (ls.length + (ms.map (sclN n)).length : Int)) = ((ls.length + ms.length : Nat) : Int) := by
      (try simp only [List.length_map]); rw [i64w (by omega)]; omega
    have a0 : abin .add .i64 (ls.length : Int) ((ms.map (sclN n)).length : Int) = some (.int .i64 ((ls.length + ms.length : Nat) : Int)) := by simp only [abin]; rw [hw]
    have c0 : abin .gtr .i64 ((ls.length + ms.length : Nat) : Int) 6 = some (.bool true) := by simp [abin]; omega
    (repeat (first | refine WL_nil ?_ | (apply wl0 (hd := rfl); (first | exact QV_bin rfl rfl a0 | exact QV_bin rfl rfl c0 | exact qv9 | exact q_callA (h1)); (exact gy0)) | (apply wlb (hd := rfl); exact qbx; (exact gy0); rfl) | refine wln ⟨_, rfl, rfl⟩ rfl ?_ | refine wlnu ⟨_, rfl, rfl⟩ rfl ?_ | refine wst rfl rfl rfl List.not_mem_nil rfl rfl rfl rfl rfl rfl ?_ | refine W_condT rfl ?_ | refine W_condF rfl ?_ | refine W_region ?_ | refine wN rfl ?_))
    refine Exists.intro (⟨[(6, slLd []), (7, vb false)], [], []⟩ : St) ⟨wkA, Exists.intro _ ⟨resA_tmp rfl (resA_tmp rfl rfl), ?_, rfl⟩⟩
    rfl
theorem implJoinLoads_yes (ls ms : List Ld) (n : Int) (h : joinB ls ms n = true) : CallOk Tryz.prog 30 [slLd ls, slLd ms, vi n] (fun r => r = .tup [.own 27 91 3 ((joinL ls ms n).map Ld.row), vb true]) := by
  simp only [joinB, Bool.and_eq_true, decide_eq_true_eq] at h
  obtain ⟨e1, h6⟩ := h
  have h1 := callOk_dat (implScaleLoads_yes ms n e1) rfl
  have hw : (IntKind.wrap .i64 (ls.length + (ms.map (sclN n)).length : Int)) = ((ls.length + ms.length : Nat) : Int) := by
    (try simp only [List.length_map]); rw [i64w (by omega)]; omega
  have a0 : abin .add .i64 (ls.length : Int) ((ms.map (sclN n)).length : Int) = some (.int .i64 ((ls.length + ms.length : Nat) : Int)) := by simp only [abin]; rw [hw]
  have c0 : abin .gtr .i64 ((ls.length + ms.length : Nat) : Int) 6 = some (.bool false) := by simp [abin]; omega
  have hr1 : (ls.map Ld.row).length ≤ 1048576 := by simp; omega
  have hr2 : (ls.map Ld.row).length + ((ms.map (sclN n)).map Ld.row).length ≤ 1048576 := by simp; omega
  refine callOk Tryz.func30 Tryz.ntmps30 Tryz.results30 rfl rfl rfl fun B w0 M I0 V0 => ?_
  (repeat (first | refine WL_nil ?_ | (apply wl0 (hd := rfl); (first | exact QV_bin rfl rfl a0 | exact QV_bin rfl rfl c0 | exact qv9 | exact q_callA (h1)); (exact gy0)) | (apply wlb (hd := rfl); exact qbx; (exact gy0); rfl) | refine wln ⟨_, rfl, rfl⟩ rfl ?_ | refine wlnu ⟨_, rfl, rfl⟩ rfl ?_ | refine wst rfl rfl rfl List.not_mem_nil rfl rfl rfl rfl rfl rfl ?_ | refine wapp0 (rows2 := ls.map Ld.row) rfl rfl rfl (ldL_cells _) (ldL_lens _) hr1 rfl rfl rfl rfl rfl ?_ | refine wappE (rows2 := (ms.map (sclN n)).map Ld.row) rfl rfl rfl (ldL_cells _) (ldL_lens _) hr2 rfl rfl (join_rows ls ms n) rfl rfl ?_ | refine W_condT rfl ?_ | refine W_condF rfl ?_ | refine W_region ?_ | refine wN rfl ?_))
  refine Exists.intro _ ⟨Weak.refl _, Exists.intro _ ⟨resA_tmp rfl (resA_tmp rfl rfl), ?_, rfl⟩⟩
  rfl
def satB (js : List Jt) (ls ms : List Ld) (n : Int) : Bool := joinB ls ms n && stnB js (joinL ls ms n)
theorem join_len {ls ms : List Ld} {n : Int} (h : joinB ls ms n = true) : (joinL ls ms n).length ≤ 6 := by
  simp only [joinB, Bool.and_eq_true, decide_eq_true_eq] at h
  simp [joinL]; omega
theorem implStandsAt_ok (js : List Jt) (ls ms : List Ld) (n : Int) (hj : js.length ≤ 1048576) (hl : ls.length ≤ 1048576) (hm : ms.length ≤ 1048576) : CallOkA Tryz.prog 29 [.agg [slJt js], slLd ls, slLd ms, vi n] (fun r => r = vb (satB js ls ms n)) := by
  refine callOkX Tryz.func29 Tryz.ntmps29 Tryz.results29 rfl rfl rfl fun B w0 M I0 V0 hal => ?_
  cases e : joinB ls ms n
  · have h1 := implJoinLoads_no ls ms n hl hm e
    (repeat (first | refine WL_nil ?_ | (apply wl0 (hd := rfl); (first | exact qv9 | exact q_callA (h1)); (exact gy0)) | (apply wlb (hd := rfl); exact qbx; (exact gy0); rfl) | refine wln ⟨_, rfl, rfl⟩ rfl ?_ | refine wlnu ⟨_, rfl, rfl⟩ rfl ?_ | refine wst rfl rfl rfl List.not_mem_nil rfl rfl rfl rfl rfl rfl ?_ | refine W_condT rfl ?_ | refine W_condF rfl ?_ | refine W_region ?_ | refine wN rfl ?_))
    refine Exists.intro _ ⟨Weak.refl _, Exists.intro _ ⟨resA_tmp rfl rfl, ?_, rfl⟩⟩
    exact vb_eq (by simp [satB, e])
  · have h1 := callOk_dat (implJoinLoads_yes ls ms n e) rfl
    have h2 := implStands_ok js (joinL ls ms n) hj (by have := join_len e; omega)
    (repeat (first | refine WL_nil ?_ | (apply wl0 (hd := rfl); (first | exact qv9 | exact q_callA (h1) | exact q_callAX hal (h2)); (exact gy0)) | (apply wlb (hd := rfl); exact qbx; (exact gy0); rfl) | refine wln ⟨_, rfl, rfl⟩ rfl ?_ | refine wlnu ⟨_, rfl, rfl⟩ rfl ?_ | refine wst rfl rfl rfl List.not_mem_nil rfl rfl rfl rfl rfl rfl ?_ | refine W_condT rfl ?_ | refine W_condF rfl ?_ | refine W_region ?_ | refine wN rfl ?_))
    refine Exists.intro _ ⟨Weak.refl _, Exists.intro _ ⟨resA_tmp rfl rfl, ?_, rfl⟩⟩
    exact vb_eq (by simp [satB, e])
end Go.Proofs.YtkieepmkcaipaaaGreat
