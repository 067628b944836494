/- ScaleLoads by two: the program's. -/
import Derived.Test.YtikbndfbjgdldaaALd
import Derived.Test.YtikbndfbjgdldaaMLo
import Derived.Test.YtikbndfbjgdldaaEP
namespace Go.Proofs.Ytikbndfbjgdldaa
open Go.Eng
set_option maxRecDepth 100000
attribute [local irreducible] QV TV WL HW W CallOk Weak

theorem lds_cells (l : Ld) : ∀ x ∈ [l.row].flatten, isCell x = true := by
  intro x hx
  simp only [List.flatten_cons, List.flatten_nil, List.append_nil, Ld.row, List.mem_cons, List.not_mem_nil, or_false] at hx
  rcases hx with rfl | rfl | rfl <;> rfl
theorem lds_lens (l : Ld) : ∀ r ∈ [l.row], r.length = 3 := by
  intro r hr
  simp only [List.mem_singleton] at hr
  subst hr; rfl
theorem implScaleLoads_ok (ls : List Ld) (h6 : ls.length ≤ 6) (hw : ∀ l ∈ ls, 0 ≤ l.w ∧ l.w ≤ 200) : CallOk Try.prog 25 [slLd ls, vi 2] (fun r => r = .tup [slLd (ls.map scl), vb true]) := by
  have w1 := within_ok 2 0 1000
  rw [show inR 2 0 1000 = true from rfl] at w1
  have c0 : abin .gtr .i64 (ls.length : Int) 6 = some (.bool false) := by simp [abin]; omega
  refine callOk_dat (X := .tup [.own 20 54 3 ((ls.map scl).map Ld.row), vb true]) ?_ rfl
  refine callOk Try.func25 Try.ntmps25 Try.results25 rfl rfl rfl fun B w0 I0 => ?_
  (repeat (first | refine WL_nil ?_ | (apply wl0 (hd := rfl); (first | exact QV_bin rfl rfl c0 | exact qv0 | exact QV_bne Try.underlying4 rfl rfl | exact QV_beq Try.underlying4 rfl rfl | exact qv1 | exact q_callA (w1)); (exact gy0)) | (apply wlb (hd := rfl); (first | exact q_box rfl rfl rfl | exact q_alloc); (exact gy0); rfl) | refine wln ⟨_, rfl, rfl⟩ rfl ?_ | refine wst rfl rfl rfl List.not_mem_nil rfl rfl rfl rfl rfl rfl ?_ | refine W_seq ?_ | refine W_condT rfl ?_ | refine W_condF rfl ?_ | refine W_region ?_ | refine W_skip ?_ | refine W_ret ?_ | refine W_block ?_ | refine W_exit ?_))
  refine W_loop (fun n s => ∃ (k : Nat) (rows : List (List AV)), k ≤ ls.length ∧ n = ls.length - k ∧ rows = ((ls.take k).map scl).map Ld.row ∧ s = ⟨[(1, vi 2), (6, .own 20 54 3 rows), (17, slLd ls), (18, vi ls.length), (19, vi k)], [], [20]⟩) ⟨_, _, ⟨0, [], by omega, rfl, by simp, rfl⟩, (weak_mk (by repeat' (first | exact trivial | refine And.intro ?_ ?_ | exact Le.refl | exact Le.nilOwn rfl | exact Le.nilSl | exact Le.ownSl | exact Le.top)) (by repeat' (first | exact trivial | refine And.intro ?_ ?_ | exact ⟨_, rfl, Les.refl _⟩)) rfl (by repeat' (first | exact trivial | refine And.intro ?_ ?_ | exact rfl)) (fun _ _ _ h => by first | exact h.elim | (obtain ⟨rfl, rfl, rfl⟩ := h; simp)))⟩ ?_
  rintro n s ⟨k, rows, hk, rfl, hrows, rfl⟩
  by_cases hlt : k < ls.length
  · have hl := lat_lt hlt
    have hwk := hw _ (List.mem_of_getElem? hl)
    have c1 : abin .lss .i64 (k : Int) (ls.length : Int) = some (.bool true) := by simp [abin]; omega
    have w2 := within_ok (lat ls k).w 0 10000
    rw [inR_true.2 (show 0 ≤ (lat ls k).w ∧ (lat ls k).w ≤ 10000 by omega)] at w2
    have m1 : abin .mul .i64 2 (lat ls k).w = some (.int .i64 (2 * (lat ls k).w)) := by simp only [abin]; rw [i64w (by omega)]
    have m2 : abin .mul .i64 (lat ls k).w 2 = some (.int .i64 (2 * (lat ls k).w)) := by simp only [abin]; rw [i64w (by omega), Int.mul_comm]
    have c2 : abin .gtr .i64 (2 * (lat ls k).w) 10000 = some (.bool false) := by simp [abin]; omega
    have hr : rows.length + [(scl (lat ls k)).row].length ≤ 1048576 := by rw [hrows]; simp; omega
    (repeat (first | refine WL_nil ?_ | (apply wl0 (hd := rfl); (first | exact QV_bin rfl rfl c1 | exact QV_bin rfl rfl c2 | exact QV_bin rfl rfl m1 | exact QV_bin rfl rfl m2 | exact qv0 | exact QV_bne Try.underlying4 rfl rfl | exact QV_beq Try.underlying4 rfl rfl | exact qv1 | exact QV_indexAddr rfl rfl rfl rfl (row_at hl) | exact q_callA (w2)); (exact gy0)) | (apply wlb (hd := rfl); (first | exact q_box rfl rfl rfl | exact q_alloc); (exact gy0); rfl) | refine wln ⟨_, rfl, rfl⟩ rfl ?_ | (apply wln1 (hd := rfl); exact q_buildSlice 41 rfl rfl rfl rfl; (exact gy0); rfl) | refine wst rfl rfl rfl List.not_mem_nil rfl rfl rfl rfl rfl rfl ?_ | refine wapp (rows2 := [(scl (lat ls k)).row]) rfl rfl rfl (lds_cells _) (lds_lens _) hr rfl rfl rfl rfl ?_ | refine W_seq ?_ | refine W_condT rfl ?_ | refine W_condF rfl ?_ | refine W_region ?_ | refine W_skip ?_ | refine W_ret ?_ | refine W_block ?_ | refine W_exit ?_))
    refine Exists.intro _ (Exists.intro _ ⟨?_, ⟨k + 1, rows ++ [(scl (lat ls k)).row], by omega, rfl, by rw [hrows, List.take_add_one, hl]; simp, rfl⟩, (weak_mk (by repeat' (first | exact trivial | refine And.intro ?_ ?_ | exact Le.refl | exact Le.nilOwn rfl | exact Le.nilSl | exact Le.ownSl | exact Le.top)) (by repeat' (first | exact trivial | refine And.intro ?_ ?_ | exact ⟨_, rfl, Les.refl _⟩ | exact ⟨_, rfl, by repeat' (first | exact Les.nil | exact Les.cons Le.refl (Les.refl _) | refine Les.cons (by first | exact Le.top | exact Le.refl | exact Le.ownSl | exact Le.nilSl) ?_)⟩)) rfl (by repeat' (first | exact trivial | refine And.intro ?_ ?_ | exact rfl | exact refs_fill (fun _ => rfl) rfl | exact refs_map (fun _ => rfl))) (fun _ _ _ h => by first | exact h.elim | (obtain ⟨rfl, rfl, rfl⟩ := h; simp)))⟩)
    omega
  · have c1 : abin .lss .i64 (k : Int) (ls.length : Int) = some (.bool false) := by simp [abin]; omega
    have hk' : k = ls.length := by omega
    subst hk'
    rw [List.take_length] at hrows
    subst hrows
    (repeat (first | refine WL_nil ?_ | (apply wl0 (hd := rfl); (first | exact QV_bin rfl rfl c1 | exact qv0 | exact QV_bne Try.underlying4 rfl rfl | exact QV_beq Try.underlying4 rfl rfl | exact qv1); (exact gy0)) | (apply wlb (hd := rfl); (first | exact q_box rfl rfl rfl | exact q_alloc); (exact gy0); rfl) | refine wln ⟨_, rfl, rfl⟩ rfl ?_ | refine wst rfl rfl rfl List.not_mem_nil rfl rfl rfl rfl rfl rfl ?_ | refine W_seq ?_ | refine W_condT rfl ?_ | refine W_condF rfl ?_ | refine W_region ?_ | refine W_skip ?_ | refine W_ret ?_ | refine W_block ?_ | refine W_exit ?_))
    refine Exists.intro _ ⟨Weak.refl _, Exists.intro _ ⟨resA_tmp rfl (resA_tmp rfl rfl), ?_, rfl⟩⟩
    rfl
end Go.Proofs.Ytikbndfbjgdldaa
