/- The texts of joints and arches, both ways. -/
import Derived.Test.YtkadjimnamcjbaaAStx
import Derived.Test.YtkadjimnamcjbaaALd
import Derived.Test.YtkadjimnamcjbaaIQ
namespace Go.Proofs.Ytkadjimnamcjbaa
open Go.Eng
set_option maxRecDepth 100000
attribute [local irreducible] QV TV WL HW W CallOk Weak

theorem joint_pts {js : List Jt} (h : archB js = true) {k : Nat} (hk : k < js.length) : ptOk (jat js k).i = true ∧ ptOk (jat js k).o = true ∧ ((jat js k).i.x = (jat js k).o.x → (jat js k).i.y = (jat js k).o.y → False) := by
  have h8 := arch_len h
  have aux : ∀ a b : Jt, stoneB (quad a b) = true → (ptOk a.i = true ∧ ptOk a.o = true ∧ (a.i.x = a.o.x → a.i.y = a.o.y → False)) ∧ ptOk b.i = true ∧ ptOk b.o = true ∧ (b.i.x = b.o.x → b.i.y = b.o.y → False) := fun a b hs => by
    simp only [stoneB, Bool.and_eq_true] at hs
    obtain ⟨_, hall, ht⟩ := hs
    simp only [quad, List.all_cons, List.all_nil, Bool.and_eq_true] at hall
    obtain ⟨h1, h2, h3, h4, _⟩ := hall
    have hlen : (quad a b).length = 4 := rfl
    have turn : ∀ i, i < 4 → 0 < sideW (cor (quad a b) i) (cor (quad a b) (i + 1)) (cor (quad a b) (i + 2)) := fun i hi => by
      have := List.all_eq_true.1 ht i (List.mem_range.2 (by rw [hlen]; exact hi))
      simp only [turnB, Bool.and_eq_true, decide_eq_true_eq] at this
      exact this.1
    refine ⟨⟨h1, h4, fun e1 e2 => ?_⟩, h2, h3, fun e1 e2 => ?_⟩
    · have t3 := turn 3 (by omega)
      have e : a.o = a.i := by cases hi : a.i; cases ho : a.o; simp_all
      have : sideW (cor (quad a b) 3) (cor (quad a b) (3 + 1)) (cor (quad a b) (3 + 2)) = sideW a.o a.i b.i := by simp [cor, quad]
      rw [this, e, sideI_self] at t3
      omega
    · have t1 := turn 1 (by omega)
      have e : b.o = b.i := by cases hi : b.i; cases ho : b.o; simp_all
      have : sideW (cor (quad a b) 1) (cor (quad a b) (1 + 1)) (cor (quad a b) (1 + 2)) = sideW b.i b.o a.o := rfl
      rw [this, e, sideI_self] at t1
      omega
  by_cases hk1 : k + 1 < js.length
  · exact (aux _ _ (arch_step h hk1)).1
  · obtain ⟨i, rfl⟩ : ∃ i, k = i + 1 := ⟨k - 1, by omega⟩
    exact (aux _ _ (arch_step h (k := i) (by omega))).2
theorem ne_flat (j : Jt) (h3 : j.i.x = j.o.x → j.i.y = j.o.y → False) : eqvO [true, true] [vi j.i.x, vi j.i.y] [vi j.o.x, vi j.o.y] = some false := by
  have : (j.i.x == j.o.x && (j.i.y == j.o.y && true)) = false := by
    cases hx : j.i.x == j.o.x
    · rfl
    · cases hy : j.i.y == j.o.y
      · rfl
      · exact (h3 (by simpa using hx) (by simpa using hy)).elim
  simp only [eqvO, this]
theorem implJointOk_yes (j : Jt) (h1 : ptOk j.i = true) (h2 : ptOk j.o = true) (h3 : j.i.x = j.o.x → j.i.y = j.o.y → False) : CallOk Try.prog 35 [j.av] (fun r => r = vb true) := by
  have f1 := Point_ok j.i
  have f2 := Point_ok j.o
  have hne := ne_flat j h3
  rw [h1] at f1
  rw [h2] at f2
  refine callOk Try.func35 Try.ntmps35 Try.results35 rfl rfl rfl fun B w0 I0 => ?_
  (repeat (first | refine WL_nil ?_ | (apply wl0 (hd := rfl); (first | exact QV_neA rfl rfl hne | exact qv0 | exact QV_bne Try.underlying4 rfl rfl | exact QV_beq Try.underlying4 rfl rfl | exact qv1 | exact q_callA (f1) | exact q_callA (f2)); (exact gy0)) | (apply wlb (hd := rfl); (first | exact q_box rfl rfl rfl | exact q_alloc); (exact gy0); rfl) | refine wln ⟨_, rfl, rfl⟩ rfl ?_ | refine wst rfl rfl rfl List.not_mem_nil rfl rfl rfl rfl rfl rfl ?_ | refine W_seq ?_ | refine W_condT rfl ?_ | refine W_condF rfl ?_ | refine W_region ?_ | refine W_skip ?_ | refine W_ret ?_ | refine W_block ?_ | refine W_exit ?_))
  refine Exists.intro _ ⟨Weak.refl _, Exists.intro _ ⟨resA_tmp rfl rfl, ?_, rfl⟩⟩
  rfl
theorem implJointText_ok (j : Jt) (h1 : ptOk j.i = true) (h2 : ptOk j.o = true) (h3 : j.i.x = j.o.x → j.i.y = j.o.y → False) : CallOk Try.prog 40 [j.av] (fun r => r = vs (jtL j)) := by
  have h0 := implJointOk_yes j h1 h2 h3
  have f1 := text_ok j.i h1
  have f2 := text_ok j.o h2
  have l1 := ptL_len j.i
  have l2 := ptL_len j.o
  refine callOk Try.func40 Try.ntmps40 Try.results40 rfl rfl rfl fun B w0 I0 => ?_
  (repeat (first | refine WL_nil ?_ | (apply wl0 (hd := rfl); (first | exact qv0 | exact QV_bne Try.underlying4 rfl rfl | exact QV_beq Try.underlying4 rfl rfl | exact qv1 | exact q_callA (h0)); (exact gy0)) | (apply wlb (hd := rfl); (first | exact q_box rfl rfl rfl | exact q_alloc); (exact gy0); rfl) | refine wln ⟨_, rfl, rfl⟩ rfl ?_ | refine wst rfl rfl rfl List.not_mem_nil rfl rfl rfl rfl rfl rfl ?_ | refine W_seq ?_ | refine W_condT rfl ?_ | refine W_condF rfl ?_ | refine W_region ?_ | refine W_skip ?_ | refine W_ret ?_ | refine W_block ?_ | refine W_exit ?_))
  refine wdraw 9 (by kernel_rfl) (by kernel_rfl) (by kernel_rfl) rfl ?_
  (repeat (first | refine HW_nil ?_ | (apply hw0 (hd := rfl); (first | exact q_cat (b := [45]) rfl rfl rfl (by simp; omega) | exact q_cat (a := ptL j.i ++ [45]) (b := ptL j.o) rfl rfl rfl (by simp; omega) | exact qv0 | exact QV_bne Try.underlying4 rfl rfl | exact QV_beq Try.underlying4 rfl rfl | exact qv1 | exact q_callA (f1) | exact q_callA (f2)); (exact gy0)) | (apply hwb (hd := rfl); (first | exact q_box rfl rfl rfl | exact q_alloc); (exact gy0); rfl) | refine hwn ⟨_, rfl, rfl⟩ rfl ?_))
  (repeat (first | refine WL_nil ?_ | (apply wl0 (hd := rfl); (first | exact qv0 | exact QV_bne Try.underlying4 rfl rfl | exact QV_beq Try.underlying4 rfl rfl | exact qv1); (exact gy0)) | (apply wlb (hd := rfl); (first | exact q_box rfl rfl rfl | exact q_alloc); (exact gy0); rfl) | refine wln ⟨_, rfl, rfl⟩ rfl ?_ | refine wst rfl rfl rfl List.not_mem_nil rfl rfl rfl rfl rfl rfl ?_ | refine W_seq ?_ | refine W_condT rfl ?_ | refine W_condF rfl ?_ | refine W_region ?_ | refine W_skip ?_ | refine W_ret ?_ | refine W_block ?_ | refine W_exit ?_))
  refine Exists.intro _ ⟨Weak.refl _, Exists.intro _ ⟨resA_tmp rfl rfl, ?_, rfl⟩⟩
  rfl
theorem jointOk_yes (j : Jt) (h1 : ptOk j.i = true) (h2 : ptOk j.o = true) (h3 : j.i.x = j.o.x → j.i.y = j.o.y → False) : CallOk Try.prog 157 [j.av] (fun r => r = vb true) := by
  have f1 := PointOk_ok j.i
  have f2 := PointOk_ok j.o
  have hne := ne_flat j h3
  rw [h1] at f1
  rw [h2] at f2
  refine callOk Try.func157 Try.ntmps157 Try.results157 rfl rfl rfl fun B w0 I0 => ?_
  (repeat (first | refine WL_nil ?_ | (apply wl0 (hd := rfl); (first | exact QV_neA rfl rfl hne | exact qv0 | exact QV_bne Try.underlying4 rfl rfl | exact QV_beq Try.underlying4 rfl rfl | exact qv1 | exact q_callA (f1) | exact q_callA (f2)); (exact gy0)) | (apply wlb (hd := rfl); (first | exact q_box rfl rfl rfl | exact q_alloc); (exact gy0); rfl) | refine wln ⟨_, rfl, rfl⟩ rfl ?_ | refine wst rfl rfl rfl List.not_mem_nil rfl rfl rfl rfl rfl rfl ?_ | refine W_seq ?_ | refine W_condT rfl ?_ | refine W_condF rfl ?_ | refine W_region ?_ | refine W_skip ?_ | refine W_ret ?_ | refine W_block ?_ | refine W_exit ?_))
  refine Exists.intro _ ⟨Weak.refl _, Exists.intro _ ⟨resA_tmp rfl rfl, ?_, rfl⟩⟩
  rfl
theorem jointText_ok (j : Jt) (h1 : ptOk j.i = true) (h2 : ptOk j.o = true) (h3 : j.i.x = j.o.x → j.i.y = j.o.y → False) : CallOk Try.prog 133 [j.av] (fun r => r = vs (jtL j)) := by
  have h0 := jointOk_yes j h1 h2 h3
  have f1 := pointText_ok j.i h1
  have f2 := pointText_ok j.o h2
  have l1 := ptL_len j.i
  have l2 := ptL_len j.o
  refine callOk Try.func133 Try.ntmps133 Try.results133 rfl rfl rfl fun B w0 I0 => ?_
  (repeat (first | refine WL_nil ?_ | (apply wl0 (hd := rfl); (first | exact qv0 | exact QV_bne Try.underlying4 rfl rfl | exact QV_beq Try.underlying4 rfl rfl | exact qv1 | exact q_callA (h0)); (exact gy0)) | (apply wlb (hd := rfl); (first | exact q_box rfl rfl rfl | exact q_alloc); (exact gy0); rfl) | refine wln ⟨_, rfl, rfl⟩ rfl ?_ | refine wst rfl rfl rfl List.not_mem_nil rfl rfl rfl rfl rfl rfl ?_ | refine W_seq ?_ | refine W_condT rfl ?_ | refine W_condF rfl ?_ | refine W_region ?_ | refine W_skip ?_ | refine W_ret ?_ | refine W_block ?_ | refine W_exit ?_))
  refine wdraw 9 (by kernel_rfl) (by kernel_rfl) (by kernel_rfl) rfl ?_
  (repeat (first | refine HW_nil ?_ | (apply hw0 (hd := rfl); (first | exact q_cat (b := [45]) rfl rfl rfl (by simp; omega) | exact q_cat (a := ptL j.i ++ [45]) (b := ptL j.o) rfl rfl rfl (by simp; omega) | exact qv0 | exact QV_bne Try.underlying4 rfl rfl | exact QV_beq Try.underlying4 rfl rfl | exact qv1 | exact q_callA (f1) | exact q_callA (f2)); (exact gy0)) | (apply hwb (hd := rfl); (first | exact q_box rfl rfl rfl | exact q_alloc); (exact gy0); rfl) | refine hwn ⟨_, rfl, rfl⟩ rfl ?_))
  (repeat (first | refine WL_nil ?_ | (apply wl0 (hd := rfl); (first | exact qv0 | exact QV_bne Try.underlying4 rfl rfl | exact QV_beq Try.underlying4 rfl rfl | exact qv1); (exact gy0)) | (apply wlb (hd := rfl); (first | exact q_box rfl rfl rfl | exact q_alloc); (exact gy0); rfl) | refine wln ⟨_, rfl, rfl⟩ rfl ?_ | refine wst rfl rfl rfl List.not_mem_nil rfl rfl rfl rfl rfl rfl ?_ | refine W_seq ?_ | refine W_condT rfl ?_ | refine W_condF rfl ?_ | refine W_region ?_ | refine W_skip ?_ | refine W_ret ?_ | refine W_block ?_ | refine W_exit ?_))
  refine Exists.intro _ ⟨Weak.refl _, Exists.intro _ ⟨resA_tmp rfl rfl, ?_, rfl⟩⟩
  rfl
def archTx (l : List Jt) : List Int := bif archB l then accL (fun k => jtL (jat l k)) l.length else []
theorem archText_ok (l : List Jt) (hn : l.length ≤ 1048576) : CallOk Try.prog 71 [.agg [slJt l]] (fun r => r = vs (archTx l)) := by
  have h0 := archOk_ok l hn
  unfold archTx
  cases e : archB l
  · rw [e] at h0
    refine callOk Try.func71 Try.ntmps71 Try.results71 rfl rfl rfl fun B w0 I0 => ?_
    (repeat (first | refine WL_nil ?_ | (apply wl0 (hd := rfl); (first | exact qv0 | exact QV_bne Try.underlying4 rfl rfl | exact QV_beq Try.underlying4 rfl rfl | exact qv1); (exact gy0)) | (apply wlb (hd := rfl); (first | exact q_box rfl rfl rfl | exact q_alloc); (exact gy0); rfl) | refine wln ⟨_, rfl, rfl⟩ rfl ?_ | refine wst rfl rfl rfl List.not_mem_nil rfl rfl rfl rfl rfl rfl ?_ | refine W_seq ?_ | refine W_condT rfl ?_ | refine W_condF rfl ?_ | refine W_region ?_ | refine W_skip ?_ | refine W_ret ?_ | refine W_block ?_ | refine W_exit ?_))
    refine W_loop (fun m s => m = 0 ∧ s = ⟨[(1, .ptr 1 0), (3, vs []), (4, vi 0)], [(1, [slJt l])], []⟩) ⟨_, _, ⟨rfl, rfl⟩, (weak_mk (by repeat' (first | exact trivial | refine And.intro ?_ ?_ | exact Le.refl | exact Le.nilOwn rfl | exact Le.nilSl | exact Le.ownSl | exact Le.top)) (by repeat' (first | exact trivial | refine And.intro ?_ ?_ | exact ⟨_, rfl, Les.refl _⟩ | exact ⟨_, rfl, by repeat' (first | exact Les.nil | exact Les.cons Le.refl (Les.refl _) | refine Les.cons (by first | exact Le.top | exact Le.refl | exact Le.ownSl | exact Le.nilSl) ?_)⟩)) rfl (by repeat' (first | exact trivial | refine And.intro ?_ ?_ | exact rfl | exact refs_fill (fun _ => rfl) rfl | exact refs_map (fun _ => rfl))) (fun _ _ _ h => by first | exact h.elim | (obtain ⟨rfl, rfl, rfl⟩ := h; simp)))⟩ ?_
    rintro m s ⟨rfl, rfl⟩
    by_cases hl : 0 < l.length
    · have c1 : abin .lss .i64 0 l.length = some (.bool true) := by simp [abin]; omega
      (repeat (first | refine WL_nil ?_ | (apply wl0 (hd := rfl); (first | exact QV_bin rfl rfl c1 | exact qv0 | exact QV_bne Try.underlying4 rfl rfl | exact QV_beq Try.underlying4 rfl rfl | exact qv1 | exact q_callA (h0)); (exact gy0)) | (apply wlb (hd := rfl); (first | exact q_box rfl rfl rfl | exact q_alloc); (exact gy0); rfl) | refine wln ⟨_, rfl, rfl⟩ rfl ?_ | refine wst rfl rfl rfl List.not_mem_nil rfl rfl rfl rfl rfl rfl ?_ | refine W_seq ?_ | refine W_condT rfl ?_ | refine W_condF rfl ?_ | refine W_region ?_ | refine W_skip ?_ | refine W_ret ?_ | refine W_block ?_ | refine W_exit ?_))
      refine Exists.intro _ ⟨Weak.refl _, Exists.intro _ ⟨resA_tmp rfl rfl, ?_, rfl⟩⟩
      rfl
    · have hn0 : ¬ (0 : Int) < (l.length : Int) := by omega
      have c1 : abin .lss .i64 0 l.length = some (.bool false) := by simp only [abin, decide_eq_false hn0]
      (repeat (first | refine WL_nil ?_ | (apply wl0 (hd := rfl); (first | exact QV_bin rfl rfl c1 | exact qv0 | exact QV_bne Try.underlying4 rfl rfl | exact QV_beq Try.underlying4 rfl rfl | exact qv1 | exact q_callA (h0)); (exact gy0)) | (apply wlb (hd := rfl); (first | exact q_box rfl rfl rfl | exact q_alloc); (exact gy0); rfl) | refine wln ⟨_, rfl, rfl⟩ rfl ?_ | refine wst rfl rfl rfl List.not_mem_nil rfl rfl rfl rfl rfl rfl ?_ | refine W_seq ?_ | refine W_condT rfl ?_ | refine W_condF rfl ?_ | refine W_region ?_ | refine W_skip ?_ | refine W_ret ?_ | refine W_block ?_ | refine W_exit ?_))
      refine Exists.intro _ ⟨Weak.refl _, Exists.intro _ ⟨resA_tmp rfl rfl, ?_, rfl⟩⟩
      rfl
  · rw [e] at h0
    have h6 := (arch_len e).2
    have hok := fun k hk => joint_pts e (k := k) hk
    have hf : ∀ k, (jtL (jat l k)).length ≤ 100 := fun k => by have := jtL_len (jat l k); omega
    refine callOk Try.func71 Try.ntmps71 Try.results71 rfl rfl rfl fun B w0 I0 => ?_
    (repeat (first | refine WL_nil ?_ | (apply wl0 (hd := rfl); (first | exact qv0 | exact QV_bne Try.underlying4 rfl rfl | exact QV_beq Try.underlying4 rfl rfl | exact qv1); (exact gy0)) | (apply wlb (hd := rfl); (first | exact q_box rfl rfl rfl | exact q_alloc); (exact gy0); rfl) | refine wln ⟨_, rfl, rfl⟩ rfl ?_ | refine wst rfl rfl rfl List.not_mem_nil rfl rfl rfl rfl rfl rfl ?_ | refine W_seq ?_ | refine W_condT rfl ?_ | refine W_condF rfl ?_ | refine W_region ?_ | refine W_skip ?_ | refine W_ret ?_ | refine W_block ?_ | refine W_exit ?_))
    refine W_loop (fun m s => ∃ k : Nat, k ≤ l.length ∧ m = l.length - k ∧ s = ⟨[(1, .ptr 1 0), (3, vs (accL (fun k => jtL (jat l k)) k)), (4, vi k)], [(1, [slJt l])], []⟩) ⟨_, _, ⟨0, by omega, rfl, rfl⟩, (weak_mk (by repeat' (first | exact trivial | refine And.intro ?_ ?_ | exact Le.refl | exact Le.nilOwn rfl | exact Le.nilSl | exact Le.ownSl | exact Le.top)) (by repeat' (first | exact trivial | refine And.intro ?_ ?_ | exact ⟨_, rfl, Les.refl _⟩ | exact ⟨_, rfl, by repeat' (first | exact Les.nil | exact Les.cons Le.refl (Les.refl _) | refine Les.cons (by first | exact Le.top | exact Le.refl | exact Le.ownSl | exact Le.nilSl) ?_)⟩)) rfl (by repeat' (first | exact trivial | refine And.intro ?_ ?_ | exact rfl | exact refs_fill (fun _ => rfl) rfl | exact refs_map (fun _ => rfl))) (fun _ _ _ h => by first | exact h.elim | (obtain ⟨rfl, rfl, rfl⟩ := h; simp)))⟩ ?_
    rintro m s ⟨k, hk, rfl, rfl⟩
    have hal := accL_len hf k
    by_cases hlt : k < l.length
    · have c1 : abin .lss .i64 k l.length = some (.bool true) := by simp [abin]; omega
      have h1 := jointText_ok (jat l k) (hok k hlt).1 (hok k hlt).2.1 (hok k hlt).2.2
      have hp := jat_lt hlt
      have hpl := jtL_len (jat l k)
      by_cases hk0 : 0 < k
      · have c2 : abin .gtr .i64 k 0 = some (.bool true) := by simp [abin]; omega
        have e2 : accL (fun k => jtL (jat l k)) (k + 1) = accL (fun k => jtL (jat l k)) k ++ [32] ++ jtL (jat l k) := by rw [accL, if_pos hk0]
        (repeat (first | refine WL_nil ?_ | (apply wl0 (hd := rfl); (first | exact QV_bin rfl rfl c1 | exact QV_bin rfl rfl c2 | exact q_cat (b := [32]) rfl rfl rfl (by simp; omega) | exact q_cat (a := accL (fun k => jtL (jat l k)) k ++ [32]) (b := jtL (jat l k)) rfl rfl e2.symm (by simp; omega) | exact qv0 | exact QV_bne Try.underlying4 rfl rfl | exact QV_beq Try.underlying4 rfl rfl | exact qv1 | exact q_callA (h0) | exact q_callA (h1) | exact QV_indexAddr rfl rfl rfl rfl (row_at hp)); (exact gy0)) | (apply wlb (hd := rfl); (first | exact q_box rfl rfl rfl | exact q_alloc); (exact gy0); rfl) | refine wln ⟨_, rfl, rfl⟩ rfl ?_ | refine wst rfl rfl rfl List.not_mem_nil rfl rfl rfl rfl rfl rfl ?_ | refine W_seq ?_ | refine W_condT rfl ?_ | refine W_condF rfl ?_ | refine W_region ?_ | refine W_skip ?_ | refine W_ret ?_ | refine W_block ?_ | refine W_exit ?_))
        refine Exists.intro _ (Exists.intro _ ⟨?_, ⟨k + 1, by omega, rfl, rfl⟩, (weak_mk (by repeat' (first | exact trivial | refine And.intro ?_ ?_ | exact Le.refl | exact Le.nilOwn rfl | exact Le.nilSl | exact Le.ownSl | exact Le.top)) (by repeat' (first | exact trivial | refine And.intro ?_ ?_ | exact ⟨_, rfl, Les.refl _⟩ | exact ⟨_, rfl, by repeat' (first | exact Les.nil | exact Les.cons Le.refl (Les.refl _) | refine Les.cons (by first | exact Le.top | exact Le.refl | exact Le.ownSl | exact Le.nilSl) ?_)⟩)) rfl (by repeat' (first | exact trivial | refine And.intro ?_ ?_ | exact rfl | exact refs_fill (fun _ => rfl) rfl | exact refs_map (fun _ => rfl))) (fun _ _ _ h => by first | exact h.elim | (obtain ⟨rfl, rfl, rfl⟩ := h; simp)))⟩)
        omega
      · have c2 : abin .gtr .i64 k 0 = some (.bool false) := by simp [abin]; omega
        have e2 : accL (fun k => jtL (jat l k)) (k + 1) = accL (fun k => jtL (jat l k)) k ++ jtL (jat l k) := by rw [accL, if_neg hk0]
        (repeat (first | refine WL_nil ?_ | (apply wl0 (hd := rfl); (first | exact QV_bin rfl rfl c1 | exact QV_bin rfl rfl c2 | exact q_cat (a := accL (fun k => jtL (jat l k)) k) (b := jtL (jat l k)) rfl rfl e2.symm (by omega) | exact qv0 | exact QV_bne Try.underlying4 rfl rfl | exact QV_beq Try.underlying4 rfl rfl | exact qv1 | exact q_callA (h0) | exact q_callA (h1) | exact QV_indexAddr rfl rfl rfl rfl (row_at hp)); (exact gy0)) | (apply wlb (hd := rfl); (first | exact q_box rfl rfl rfl | exact q_alloc); (exact gy0); rfl) | refine wln ⟨_, rfl, rfl⟩ rfl ?_ | refine wst rfl rfl rfl List.not_mem_nil rfl rfl rfl rfl rfl rfl ?_ | refine W_seq ?_ | refine W_condT rfl ?_ | refine W_condF rfl ?_ | refine W_region ?_ | refine W_skip ?_ | refine W_ret ?_ | refine W_block ?_ | refine W_exit ?_))
        refine Exists.intro _ (Exists.intro _ ⟨?_, ⟨k + 1, by omega, rfl, rfl⟩, (weak_mk (by repeat' (first | exact trivial | refine And.intro ?_ ?_ | exact Le.refl | exact Le.nilOwn rfl | exact Le.nilSl | exact Le.ownSl | exact Le.top)) (by repeat' (first | exact trivial | refine And.intro ?_ ?_ | exact ⟨_, rfl, Les.refl _⟩ | exact ⟨_, rfl, by repeat' (first | exact Les.nil | exact Les.cons Le.refl (Les.refl _) | refine Les.cons (by first | exact Le.top | exact Le.refl | exact Le.ownSl | exact Le.nilSl) ?_)⟩)) rfl (by repeat' (first | exact trivial | refine And.intro ?_ ?_ | exact rfl | exact refs_fill (fun _ => rfl) rfl | exact refs_map (fun _ => rfl))) (fun _ _ _ h => by first | exact h.elim | (obtain ⟨rfl, rfl, rfl⟩ := h; simp)))⟩)
        omega
    · have hk' : k = l.length := by omega
      subst hk'
      have c1 : abin .lss .i64 l.length l.length = some (.bool false) := by simp [abin]
      (repeat (first | refine WL_nil ?_ | (apply wl0 (hd := rfl); (first | exact QV_bin rfl rfl c1 | exact qv0 | exact QV_bne Try.underlying4 rfl rfl | exact QV_beq Try.underlying4 rfl rfl | exact qv1); (exact gy0)) | (apply wlb (hd := rfl); (first | exact q_box rfl rfl rfl | exact q_alloc); (exact gy0); rfl) | refine wln ⟨_, rfl, rfl⟩ rfl ?_ | refine wst rfl rfl rfl List.not_mem_nil rfl rfl rfl rfl rfl rfl ?_ | refine W_seq ?_ | refine W_condT rfl ?_ | refine W_condF rfl ?_ | refine W_region ?_ | refine W_skip ?_ | refine W_ret ?_ | refine W_block ?_ | refine W_exit ?_))
      refine Exists.intro _ ⟨Weak.refl _, Exists.intro _ ⟨resA_tmp rfl rfl, ?_, rfl⟩⟩
      rfl
theorem implArchText_ok (l : List Jt) (hn : l.length ≤ 1048576) : CallOk Try.prog 72 [.agg [slJt l]] (fun r => r = vs (archTx l)) := by
  have h0 := implArchOk_ok l hn
  unfold archTx
  cases e : archB l
  · rw [e] at h0
    refine callOk Try.func72 Try.ntmps72 Try.results72 rfl rfl rfl fun B w0 I0 => ?_
    (repeat (first | refine WL_nil ?_ | (apply wl0 (hd := rfl); (first | exact qv0 | exact QV_bne Try.underlying4 rfl rfl | exact QV_beq Try.underlying4 rfl rfl | exact qv1 | exact q_callA (h0)); (exact gy0)) | (apply wlb (hd := rfl); (first | exact q_box rfl rfl rfl | exact q_alloc); (exact gy0); rfl) | refine wln ⟨_, rfl, rfl⟩ rfl ?_ | refine wst rfl rfl rfl List.not_mem_nil rfl rfl rfl rfl rfl rfl ?_ | refine W_seq ?_ | refine W_condT rfl ?_ | refine W_condF rfl ?_ | refine W_region ?_ | refine W_skip ?_ | refine W_ret ?_ | refine W_block ?_ | refine W_exit ?_))
    refine Exists.intro _ ⟨Weak.refl _, Exists.intro _ ⟨resA_tmp rfl rfl, ?_, rfl⟩⟩
    rfl
  · rw [e] at h0
    have h6 := (arch_len e).2
    have hok := fun k hk => joint_pts e (k := k) hk
    refine callOk Try.func72 Try.ntmps72 Try.results72 rfl rfl rfl fun B w0 I0 => ?_
    (repeat (first | refine WL_nil ?_ | (apply wl0 (hd := rfl); (first | exact qv0 | exact QV_bne Try.underlying4 rfl rfl | exact QV_beq Try.underlying4 rfl rfl | exact qv1 | exact q_callA (h0)); (exact gy0)) | (apply wlb (hd := rfl); (first | exact q_box rfl rfl rfl | exact q_alloc); (exact gy0); rfl) | refine wln ⟨_, rfl, rfl⟩ rfl ?_ | refine wst rfl rfl rfl List.not_mem_nil rfl rfl rfl rfl rfl rfl ?_ | refine W_seq ?_ | refine W_condT rfl ?_ | refine W_condF rfl ?_ | refine W_region ?_ | refine W_skip ?_ | refine W_ret ?_ | refine W_block ?_ | refine W_exit ?_))
    refine W_loop (fun m s => ∃ k : Nat, k ≤ l.length ∧ m = l.length - k ∧ s = ⟨[(3, .own 3 9 1 (words (fun k => jtL (jat l k)) k)), (10, slJt l), (11, vi l.length), (12, vi k)], [], [3]⟩) ⟨_, _, ⟨0, by omega, rfl, rfl⟩, (weak_mk (by repeat' (first | exact trivial | refine And.intro ?_ ?_ | exact Le.refl | exact Le.nilOwn rfl | exact Le.nilSl | exact Le.ownSl | exact Le.top)) (by repeat' (first | exact trivial | refine And.intro ?_ ?_ | exact ⟨_, rfl, Les.refl _⟩ | exact ⟨_, rfl, by repeat' (first | exact Les.nil | exact Les.cons Le.refl (Les.refl _) | refine Les.cons (by first | exact Le.top | exact Le.refl | exact Le.ownSl | exact Le.nilSl) ?_)⟩)) rfl (by repeat' (first | exact trivial | refine And.intro ?_ ?_ | exact rfl | exact refs_fill (fun _ => rfl) rfl | exact refs_map (fun _ => rfl))) (fun _ _ _ h => by first | exact h.elim | (obtain ⟨rfl, rfl, rfl⟩ := h; simp)))⟩ ?_
    rintro m s ⟨k, hk, rfl, rfl⟩
    by_cases hlt : k < l.length
    · have h1 := implJointText_ok (jat l k) (hok k hlt).1 (hok k hlt).2.1 (hok k hlt).2.2
      have hp := jat_lt hlt
      have happ : (words (fun k => jtL (jat l k)) k).length + [[vs (jtL (jat l k))]].length ≤ 1048576 := by rw [words_len]; simp; omega
      (repeat (first | refine WL_nil ?_ | (apply wl0 (hd := rfl); (first | exact qv0 | exact QV_bne Try.underlying4 rfl rfl | exact QV_beq Try.underlying4 rfl rfl | exact qv1); (exact gy0)) | (apply wlb (hd := rfl); (first | exact q_box rfl rfl rfl | exact q_alloc); (exact gy0); rfl) | refine wln ⟨_, rfl, rfl⟩ rfl ?_ | refine wst rfl rfl rfl List.not_mem_nil rfl rfl rfl rfl rfl rfl ?_ | refine W_seq ?_ | refine W_condT rfl ?_ | refine W_condF rfl ?_ | refine W_region ?_ | refine W_skip ?_ | refine W_ret ?_ | refine W_block ?_ | refine W_exit ?_))
      (refine W_cond rfl (fun hc => ?_) (fun hc => ?_))
      · (repeat (first | refine WL_nil ?_ | (apply wl0 (hd := rfl); (first | exact qv0 | exact QV_bne Try.underlying4 rfl rfl | exact QV_beq Try.underlying4 rfl rfl | exact qv1 | exact q_callA (h1) | exact QV_indexAddr rfl rfl rfl rfl (row_at hp)); (exact gy0)) | (apply wlb (hd := rfl); (first | exact q_box rfl rfl rfl | exact q_alloc); (exact gy0); rfl) | refine wln ⟨_, rfl, rfl⟩ rfl ?_ | (apply wln1 (hd := rfl); exact q_buildSlice 19 rfl rfl rfl rfl; (exact gy0); rfl) | refine wst rfl rfl rfl List.not_mem_nil rfl rfl rfl rfl rfl rfl ?_ | refine wappE rfl rfl rfl (word_cells (jtL (jat l k))) (word_lens (jtL (jat l k))) happ rfl rfl (words_app (fun k => jtL (jat l k)) k) rfl rfl ?_ | refine W_seq ?_ | refine W_condT rfl ?_ | refine W_condF rfl ?_ | refine W_region ?_ | refine W_skip ?_ | refine W_ret ?_ | refine W_block ?_ | refine W_exit ?_))
        refine Exists.intro _ (Exists.intro _ ⟨?_, ⟨k + 1, by omega, rfl, rfl⟩, (weak_mk (by repeat' (first | exact trivial | refine And.intro ?_ ?_ | exact Le.refl | exact Le.nilOwn rfl | exact Le.nilSl | exact Le.ownSl | exact Le.top)) (by repeat' (first | exact trivial | refine And.intro ?_ ?_ | exact ⟨_, rfl, Les.refl _⟩ | exact ⟨_, rfl, by repeat' (first | exact Les.nil | exact Les.cons Le.refl (Les.refl _) | refine Les.cons (by first | exact Le.top | exact Le.refl | exact Le.ownSl | exact Le.nilSl) ?_)⟩)) rfl (by repeat' (first | exact trivial | refine And.intro ?_ ?_ | exact rfl | exact refs_fill (fun _ => rfl) rfl | exact refs_map (fun _ => rfl))) (fun _ _ _ h => by first | exact h.elim | (obtain ⟨rfl, rfl, rfl⟩ := h; simp)))⟩)
        omega
      · simp at hc; omega
    · have hk' : k = l.length := by omega
      subst hk'
      have hj := join_ok ((List.range l.length).map fun k => jtL (jat l k)) (by simp; omega) (fun x hx => by
        obtain ⟨k, _, rfl⟩ := List.mem_map.1 hx
        have := jtL_len (jat l k)
        omega)
      rw [← accL_join] at hj
      (repeat (first | refine WL_nil ?_ | (apply wl0 (hd := rfl); (first | exact qv0 | exact QV_bne Try.underlying4 rfl rfl | exact QV_beq Try.underlying4 rfl rfl | exact qv1); (exact gy0)) | (apply wlb (hd := rfl); (first | exact q_box rfl rfl rfl | exact q_alloc); (exact gy0); rfl) | refine wln ⟨_, rfl, rfl⟩ rfl ?_ | refine wst rfl rfl rfl List.not_mem_nil rfl rfl rfl rfl rfl rfl ?_ | refine W_seq ?_ | refine W_condT rfl ?_ | refine W_condF rfl ?_ | refine W_region ?_ | refine W_skip ?_ | refine W_ret ?_ | refine W_block ?_ | refine W_exit ?_))
      (refine W_cond rfl (fun hc => ?_) (fun hc => ?_))
      · simp at hc
      · (repeat (first | refine WL_nil ?_ | (apply wl0 (hd := rfl); (first | exact qv0 | exact QV_bne Try.underlying4 rfl rfl | exact QV_beq Try.underlying4 rfl rfl | exact qv1 | exact q_callA (hj)); (exact gy0)) | (apply wlb (hd := rfl); (first | exact q_box rfl rfl rfl | exact q_alloc); (exact gy0); rfl) | refine wln ⟨_, rfl, rfl⟩ rfl ?_ | refine wst rfl rfl rfl List.not_mem_nil rfl rfl rfl rfl rfl rfl ?_ | refine W_seq ?_ | refine W_condT rfl ?_ | refine W_condF rfl ?_ | refine W_region ?_ | refine W_skip ?_ | refine W_ret ?_ | refine W_block ?_ | refine W_exit ?_))
        refine Exists.intro _ ⟨Weak.refl _, Exists.intro _ ⟨resA_tmp rfl rfl, ?_, rfl⟩⟩
        rfl
end Go.Proofs.Ytkadjimnamcjbaa
