/- MirrorArch both ways. -/
import Derived.Test.YtkadjimnamcjbaaYAMg
import Derived.Test.YtkadjimnamcjbaaYKBj
namespace Go.Proofs.Ytkadjimnamcjbaa
open Go.Eng Go.RowKit
set_option maxRecDepth 100000
attribute [local irreducible] QV TV WL HW W CallOk Weak

def mirQJ (x : Int) (j : Jt) : Jt := ⟨mirQ x j.i, mirQ x j.o⟩
theorem mirrorJoint_g (j : Jt) (x : Int) : CallOk Try.prog 113 [j.av, vi x] (fun r => r = (mirQJ x j).av) := by
  have h1 := mirrorPoint_g j.i x
  have h2 := mirrorPoint_g j.o x
  unfold mirQJ
  refine callOk Try.func113 Try.ntmps113 Try.results113 rfl rfl rfl fun B w0 I0 => ?_
  (repeat (first | refine WL_nil ?_ | (apply wl0 (hd := rfl); (first | exact qv0 | exact QV_bne Try.underlying4 rfl rfl | exact QV_beq Try.underlying4 rfl rfl | exact qv1); (exact gy0)) | (apply wlb (hd := rfl); (first | exact q_box rfl rfl rfl | exact q_alloc); (exact gy0); rfl) | refine wln ⟨_, rfl, rfl⟩ rfl ?_ | refine wlnu ⟨_, rfl, rfl⟩ rfl ?_ | refine wst rfl rfl rfl List.not_mem_nil rfl rfl rfl rfl rfl rfl ?_ | refine W_seq ?_ | refine W_condT rfl ?_ | refine W_condF rfl ?_ | refine W_region ?_ | refine W_skip ?_ | refine W_ret ?_ | refine W_block ?_ | refine W_exit ?_))
  refine wdraw 9 (by kernel_rfl) (by kernel_rfl) (by kernel_rfl) rfl ?_
  (repeat (first | refine HW_nil ?_ | (apply hw0 (hd := rfl); (first | exact qv0 | exact QV_bne Try.underlying4 rfl rfl | exact QV_beq Try.underlying4 rfl rfl | exact qv1 | exact q_callA (h1) | exact q_callA (h2)); (exact gy0)) | (apply hwb (hd := rfl); (first | exact q_box rfl rfl rfl | exact q_alloc); (exact gy0); rfl) | refine hwn ⟨_, rfl, rfl⟩ rfl ?_ | refine hwnu ⟨_, rfl, rfl⟩ rfl ?_))
  (repeat (first | refine WL_nil ?_ | (apply wl0 (hd := rfl); (first | exact qv0 | exact QV_bne Try.underlying4 rfl rfl | exact QV_beq Try.underlying4 rfl rfl | exact qv1); (exact gy0)) | (apply wlb (hd := rfl); (first | exact q_box rfl rfl rfl | exact q_alloc); (exact gy0); rfl) | refine wln ⟨_, rfl, rfl⟩ rfl ?_ | refine wlnu ⟨_, rfl, rfl⟩ rfl ?_ | refine wst rfl rfl rfl List.not_mem_nil rfl rfl rfl rfl rfl rfl ?_ | refine W_seq ?_ | refine W_condT rfl ?_ | refine W_condF rfl ?_ | refine W_region ?_ | refine W_skip ?_ | refine W_ret ?_ | refine W_block ?_ | refine W_exit ?_))
  refine Exists.intro _ ⟨Weak.refl _, Exists.intro _ ⟨resA_cell rfl rfl rfl rfl, ?_, rfl⟩⟩
  rfl
theorem implMirrorJoint_g (j : Jt) (x : Int) : CallOk Try.prog 34 [j.av, vi x] (fun r => r = (mirQJ x j).av) := by
  have h1 := implMirrorPoint_g j.i x
  have h2 := implMirrorPoint_g j.o x
  unfold mirQJ
  refine callOk Try.func34 Try.ntmps34 Try.results34 rfl rfl rfl fun B w0 I0 => ?_
  (repeat (first | refine WL_nil ?_ | (apply wl0 (hd := rfl); (first | exact qv0 | exact QV_bne Try.underlying4 rfl rfl | exact QV_beq Try.underlying4 rfl rfl | exact qv1); (exact gy0)) | (apply wlb (hd := rfl); (first | exact q_box rfl rfl rfl | exact q_alloc); (exact gy0); rfl) | refine wln ⟨_, rfl, rfl⟩ rfl ?_ | refine wlnu ⟨_, rfl, rfl⟩ rfl ?_ | refine wst rfl rfl rfl List.not_mem_nil rfl rfl rfl rfl rfl rfl ?_ | refine W_seq ?_ | refine W_condT rfl ?_ | refine W_condF rfl ?_ | refine W_region ?_ | refine W_skip ?_ | refine W_ret ?_ | refine W_block ?_ | refine W_exit ?_))
  refine wdraw 9 (by kernel_rfl) (by kernel_rfl) (by kernel_rfl) rfl ?_
  (repeat (first | refine HW_nil ?_ | (apply hw0 (hd := rfl); (first | exact qv0 | exact QV_bne Try.underlying4 rfl rfl | exact QV_beq Try.underlying4 rfl rfl | exact qv1 | exact q_callA (h1) | exact q_callA (h2)); (exact gy0)) | (apply hwb (hd := rfl); (first | exact q_box rfl rfl rfl | exact q_alloc); (exact gy0); rfl) | refine hwn ⟨_, rfl, rfl⟩ rfl ?_ | refine hwnu ⟨_, rfl, rfl⟩ rfl ?_))
  (repeat (first | refine WL_nil ?_ | (apply wl0 (hd := rfl); (first | exact qv0 | exact QV_bne Try.underlying4 rfl rfl | exact QV_beq Try.underlying4 rfl rfl | exact qv1); (exact gy0)) | (apply wlb (hd := rfl); (first | exact q_box rfl rfl rfl | exact q_alloc); (exact gy0); rfl) | refine wln ⟨_, rfl, rfl⟩ rfl ?_ | refine wlnu ⟨_, rfl, rfl⟩ rfl ?_ | refine wst rfl rfl rfl List.not_mem_nil rfl rfl rfl rfl rfl rfl ?_ | refine W_seq ?_ | refine W_condT rfl ?_ | refine W_condF rfl ?_ | refine W_region ?_ | refine W_skip ?_ | refine W_ret ?_ | refine W_block ?_ | refine W_exit ?_))
  refine Exists.intro _ ⟨Weak.refl _, Exists.intro _ ⟨resA_cell rfl rfl rfl rfl, ?_, rfl⟩⟩
  rfl
/-- The joints mirrored, the last first: of the last ones, from k on. -/
def mirV (x : Int) (l : List Jt) (k : Nat) : List Jt := (l.drop k).reverse.map (mirQJ x)
theorem mirV_succ {x : Int} {l : List Jt} {i : Nat} {p : Jt} (h : l[i]? = some p) : mirV x l i = mirV x l (i + 1) ++ [mirQJ x p] := by
  have hi : i < l.length := (List.getElem?_eq_some_iff.1 h).1
  have hp : l[i] = p := (List.getElem?_eq_some_iff.1 h).2
  rw [mirV, List.drop_eq_getElem_cons hi, hp]
  simp [mirV]
theorem mirV_len (x : Int) (l : List Jt) (j : Nat) : (mirV x l j).length ≤ l.length := by simp [mirV]
def marB (x : Int) (l : List Jt) : Bool := archB l && archB (mirV x l 0)
theorem marB_len {x : Int} {l : List Jt} (h : marB x l = true) : 0 < (mirV x l 0).length ∧ (mirV x l 0).length ≤ 8 := by
  simp only [marB, Bool.and_eq_true] at h
  have := arch_len h.2
  omega
theorem archB_nil : archB [] = false := by
  cases h : archB []
  · rfl
  · have := (arch_len h).1
    simp at this
theorem mirrorArch_nil (x : Int) : CallOk Try.prog 45 [.agg [slJt []], vi x] (fun r => r = .tup [.agg [.v (.slice none 0 0)], vb false]) := by
  have h2 := archOk_ok [] (by simp)
  rw [archB_nil] at h2
  refine callOk Try.func45 Try.ntmps45 Try.results45 rfl rfl rfl fun B w0 I0 => ?_
  (repeat (first | refine WL_nil ?_ | (apply wl0 (hd := rfl); (first | exact qv0 | exact QV_bne Try.underlying4 rfl rfl | exact QV_beq Try.underlying4 rfl rfl | exact qv1); (exact gy0)) | (apply wlb (hd := rfl); (first | exact q_box rfl rfl rfl | exact q_alloc); (exact gy0); rfl) | refine wln ⟨_, rfl, rfl⟩ rfl ?_ | refine wlnu ⟨_, rfl, rfl⟩ rfl ?_ | refine wst rfl rfl rfl List.not_mem_nil rfl rfl rfl rfl rfl rfl ?_ | refine W_seq ?_ | refine W_condT rfl ?_ | refine W_condF rfl ?_ | refine W_region ?_ | refine W_skip ?_ | refine W_ret ?_ | refine W_block ?_ | refine W_exit ?_))
  refine W_loop (fun n s => n = 0 ∧ s = ⟨[(2, .ptr 2 0), (4, .ptr 4 0), (6, .ptr 6 0), (7, vi (-1))], [(2, [slJt []]), (6, [.v (.slice none 0 0)]), (4, [.v (.slice none 0 0)])], []⟩) ⟨_, _, ⟨rfl, rfl⟩, (weak_mk (by repeat' (first | exact trivial | refine And.intro ?_ ?_ | exact Le.refl | exact Le.nilOwn rfl | exact Le.nilSl | exact Le.ownSl | exact Le.top)) (by repeat' (first | exact trivial | refine And.intro ?_ ?_ | exact ⟨_, rfl, Les.refl _⟩ | exact ⟨_, rfl, by repeat' (first | exact Les.nil | exact Les.cons Le.refl (Les.refl _) | refine Les.cons (by first | exact Le.top | exact Le.refl | exact Le.ownSl | exact Le.nilSl) ?_)⟩)) rfl (by repeat' (first | exact trivial | refine And.intro ?_ ?_ | exact rfl | exact refs_fill (fun _ => rfl) rfl | exact refs_map (fun _ => rfl))) (fun _ _ _ h => by first | exact h.elim | (obtain ⟨rfl, rfl, rfl⟩ := h; simp)))⟩ ?_
  rintro n s ⟨rfl, rfl⟩
  (repeat (first | refine WL_nil ?_ | (apply wl0 (hd := rfl); (first | exact qv0 | exact QV_bne Try.underlying4 rfl rfl | exact QV_beq Try.underlying4 rfl rfl | exact qv1 | exact q_callA (h2)); (exact gy0)) | (apply wlb (hd := rfl); (first | exact q_box rfl rfl rfl | exact q_alloc); (exact gy0); rfl) | refine wln ⟨_, rfl, rfl⟩ rfl ?_ | refine wlnu ⟨_, rfl, rfl⟩ rfl ?_ | refine wst rfl rfl rfl List.not_mem_nil rfl rfl rfl rfl rfl rfl ?_ | refine W_seq ?_ | refine W_condT rfl ?_ | refine W_condF rfl ?_ | refine W_region ?_ | refine W_skip ?_ | refine W_ret ?_ | refine W_block ?_ | refine W_exit ?_))
  refine Exists.intro _ ⟨Weak.refl _, Exists.intro _ ⟨resA_cell rfl rfl rfl (resA_tmp rfl rfl), ?_, rfl⟩⟩
  rfl
theorem mirrorArch_ok (l : List Jt) (x : Int) (hn : l.length ≤ 1048576) (h0 : 0 < l.length) : CallOk Try.prog 45 [.agg [slJt l], vi x] (fun r => r = bif marB x l then .tup [.agg [.own 20 51 4 ((mirV x l 0).map Jt.row)], vb true] else .tup [.agg [.v (.slice none 0 0)], vb false]) := by
  have h1 := archOk_ok l hn
  have h2 := archOk_ok (mirV x l 0) (by have := mirV_len x l 0; omega)
  refine callOk Try.func45 Try.ntmps45 Try.results45 rfl rfl rfl fun B w0 I0 => ?_
  (repeat (first | refine WL_nil ?_ | (apply wl0 (hd := rfl); (first | exact qv0 | exact QV_bne Try.underlying4 rfl rfl | exact QV_beq Try.underlying4 rfl rfl | exact qv1); (exact gy0)) | (apply wlb (hd := rfl); (first | exact q_box rfl rfl rfl | exact q_alloc); (exact gy0); rfl) | refine wln ⟨_, rfl, rfl⟩ rfl ?_ | refine wlnu ⟨_, rfl, rfl⟩ rfl ?_ | refine wst rfl rfl rfl List.not_mem_nil rfl rfl rfl rfl rfl rfl ?_ | refine W_seq ?_ | refine W_condT rfl ?_ | refine W_condF rfl ?_ | refine W_region ?_ | refine W_skip ?_ | refine W_ret ?_ | refine W_block ?_ | refine W_exit ?_))
  refine W_loop (fun n s => ∃ (j : Nat) (k : Int) (rows : List (List AV)), j ≤ l.length ∧ n = j ∧ k = (j : Int) - 1 ∧ rows = (mirV x l j).map Jt.row ∧ s = ⟨[(1, vi x), (2, .ptr 2 0), (4, .ptr 4 0), (6, .ptr 6 0), (7, vi k)], [(2, [slJt l]), (6, [.own 20 51 4 rows]), (4, [.v (.slice none 0 0)])], [20]⟩) ⟨_, _, ⟨l.length, (l.length : Int) - 1, [], by omega, rfl, rfl, by simp [mirV], rfl⟩, (weak_mk (by repeat' (first | exact trivial | refine And.intro ?_ ?_ | exact Le.refl | exact Le.nilOwn rfl | exact Le.nilSl | exact Le.ownSl | exact Le.top)) (by repeat' (first | exact trivial | refine And.intro ?_ ?_ | exact ⟨_, rfl, Les.refl _⟩ | exact ⟨_, rfl, by repeat' (first | exact Les.nil | exact Les.cons Le.refl (Les.refl _) | refine Les.cons (by first | exact Le.top | exact Le.refl | exact Le.ownSl | exact Le.nilOwn rfl | exact Le.nilSl) ?_)⟩)) rfl (by repeat' (first | exact trivial | refine And.intro ?_ ?_ | exact rfl | exact refs_fill (fun _ => rfl) rfl | exact refs_map (fun _ => rfl))) (fun _ _ _ h => by first | exact h.elim | (obtain ⟨rfl, rfl, rfl⟩ := h; simp)))⟩ ?_
  rintro j s ⟨_, k, rows, hj, rfl, hk, hrows, rfl⟩
  cases j with
  | zero =>
    have c1 : abin .geq .i64 k 0 = some (.bool false) := by simp [abin]; omega
    subst hrows
    unfold marB
    cases e1 : archB l
    · rw [e1] at h1
      (repeat (first | refine WL_nil ?_ | (apply wl0 (hd := rfl); (first | exact QV_bin rfl rfl c1 | exact qv0 | exact QV_bne Try.underlying4 rfl rfl | exact QV_beq Try.underlying4 rfl rfl | exact qv1 | exact q_callA (h1)); (exact gy0)) | (apply wlb (hd := rfl); (first | exact q_box rfl rfl rfl | exact q_alloc); (exact gy0); rfl) | refine wln ⟨_, rfl, rfl⟩ rfl ?_ | refine wlnu ⟨_, rfl, rfl⟩ rfl ?_ | refine wst rfl rfl rfl List.not_mem_nil rfl rfl rfl rfl rfl rfl ?_ | refine W_seq ?_ | refine W_condT rfl ?_ | refine W_condF rfl ?_ | refine W_region ?_ | refine W_skip ?_ | refine W_ret ?_ | refine W_block ?_ | refine W_exit ?_))
      refine Exists.intro _ ⟨Weak.refl _, Exists.intro _ ⟨resA_cell rfl rfl rfl (resA_tmp rfl rfl), ?_, rfl⟩⟩
      rfl
    · rw [e1] at h1
      cases e : archB (mirV x l 0)
      · rw [e] at h2
        (repeat (first | refine WL_nil ?_ | (apply wl0 (hd := rfl); (first | exact QV_bin rfl rfl c1 | exact qv0 | exact QV_bne Try.underlying4 rfl rfl | exact QV_beq Try.underlying4 rfl rfl | exact qv1 | exact q_callA (h1) | exact q_callA (h2)); (exact gy0)) | (apply wlb (hd := rfl); (first | exact q_box rfl rfl rfl | exact q_alloc); (exact gy0); rfl) | refine wln ⟨_, rfl, rfl⟩ rfl ?_ | refine wlnu ⟨_, rfl, rfl⟩ rfl ?_ | refine wst rfl rfl rfl List.not_mem_nil rfl rfl rfl rfl rfl rfl ?_ | refine W_seq ?_ | refine W_condT rfl ?_ | refine W_condF rfl ?_ | refine W_region ?_ | refine W_skip ?_ | refine W_ret ?_ | refine W_block ?_ | refine W_exit ?_))
        refine Exists.intro _ ⟨Weak.refl _, Exists.intro _ ⟨resA_cell rfl rfl rfl (resA_tmp rfl rfl), ?_, rfl⟩⟩
        rfl
      · rw [e] at h2
        (repeat (first | refine WL_nil ?_ | (apply wl0 (hd := rfl); (first | exact QV_bin rfl rfl c1 | exact qv0 | exact QV_bne Try.underlying4 rfl rfl | exact QV_beq Try.underlying4 rfl rfl | exact qv1 | exact q_callA (h1) | exact q_callA (h2)); (exact gy0)) | (apply wlb (hd := rfl); (first | exact q_box rfl rfl rfl | exact q_alloc); (exact gy0); rfl) | refine wln ⟨_, rfl, rfl⟩ rfl ?_ | refine wlnu ⟨_, rfl, rfl⟩ rfl ?_ | refine wst rfl rfl rfl List.not_mem_nil rfl rfl rfl rfl rfl rfl ?_ | refine W_seq ?_ | refine W_condT rfl ?_ | refine W_condF rfl ?_ | refine W_region ?_ | refine W_skip ?_ | refine W_ret ?_ | refine W_block ?_ | refine W_exit ?_))
        refine Exists.intro _ ⟨Weak.refl _, Exists.intro _ ⟨resA_cell rfl rfl rfl (resA_tmp rfl rfl), ?_, rfl⟩⟩
        rfl
  | succ i =>
    obtain ⟨p, hp⟩ : ∃ p, l[i]? = some p := ⟨_, List.getElem?_eq_getElem (by omega)⟩
    have hmp := mirrorJoint_g p x
    have hk' : k = (i : Int) := by omega
    have c1 : abin .geq .i64 k 0 = some (.bool true) := by simp [abin]; omega
    have hr : rows.length + [(mirQJ x p).row].length ≤ 1048576 := by rw [hrows]; simp [mirV]; omega
    (repeat (first | refine WL_nil ?_ | (apply wl0 (hd := rfl); (first | exact QV_bin rfl rfl c1 | exact qv0 | exact QV_bne Try.underlying4 rfl rfl | exact QV_beq Try.underlying4 rfl rfl | exact qv1); (exact gy0)) | (apply wlb (hd := rfl); (first | exact q_box rfl rfl rfl | exact q_alloc); (exact gy0); rfl) | refine wln ⟨_, rfl, rfl⟩ rfl ?_ | refine wlnu ⟨_, rfl, rfl⟩ rfl ?_ | refine wst rfl rfl rfl List.not_mem_nil rfl rfl rfl rfl rfl rfl ?_ | refine W_seq ?_ | refine W_condT rfl ?_ | refine W_condF rfl ?_ | refine W_region ?_ | refine W_skip ?_ | refine W_ret ?_ | refine W_block ?_ | refine W_exit ?_))
    refine wdraw 10 (by kernel_rfl) (by kernel_rfl) (by kernel_rfl) rfl ?_
    (repeat (first | refine HW_nil ?_ | (apply hw0 (hd := rfl); (first | exact qv0 | exact QV_bne Try.underlying4 rfl rfl | exact QV_beq Try.underlying4 rfl rfl | exact qv1 | exact QV_indexAddr rfl rfl rfl hk' (row_at hp) | exact q_callA (hmp)); (exact gy0)) | (apply hwb (hd := rfl); (first | exact q_box rfl rfl rfl | exact q_alloc); (exact gy0); rfl) | refine hwn ⟨_, rfl, rfl⟩ rfl ?_ | refine hwnu ⟨_, rfl, rfl⟩ rfl ?_ | (apply hwn1 (hd := rfl); exact q_buildSlice 29 rfl rfl rfl rfl; (exact gy0); rfl)))
    (repeat (first | refine WL_nil ?_ | (apply wl0 (hd := rfl); (first | exact qv0 | exact QV_bne Try.underlying4 rfl rfl | exact QV_beq Try.underlying4 rfl rfl | exact qv1); (exact gy0)) | (apply wlb (hd := rfl); (first | exact q_box rfl rfl rfl | exact q_alloc); (exact gy0); rfl) | refine wln ⟨_, rfl, rfl⟩ rfl ?_ | refine wlnu ⟨_, rfl, rfl⟩ rfl ?_ | refine wst rfl rfl rfl List.not_mem_nil rfl rfl rfl rfl rfl rfl ?_ | refine wapp (rows2 := [(mirQJ x p).row]) rfl rfl rfl (by simp [isCell, Value.oneCell']) (by simp) hr rfl rfl rfl rfl ?_ | refine W_seq ?_ | refine W_condT rfl ?_ | refine W_condF rfl ?_ | refine W_region ?_ | refine W_skip ?_ | refine W_ret ?_ | refine W_block ?_ | refine W_exit ?_))
    refine Exists.intro _ (Exists.intro _ ⟨?_, ⟨i, k - 1, rows ++ [(mirQJ x p).row], by omega, rfl, by omega, by rw [hrows, mirV_succ hp]; simp, rfl⟩, (weak_mk (by repeat' (first | exact trivial | refine And.intro ?_ ?_ | exact Le.refl | exact Le.nilOwn rfl | exact Le.nilSl | exact Le.ownSl | exact Le.top)) (by repeat' (first | exact trivial | refine And.intro ?_ ?_ | exact ⟨_, rfl, Les.refl _⟩ | exact ⟨_, rfl, by repeat' (first | exact Les.nil | exact Les.cons Le.refl (Les.refl _) | refine Les.cons (by first | exact Le.top | exact Le.refl | exact Le.ownSl | exact Le.nilSl) ?_)⟩)) rfl (by repeat' (first | exact trivial | refine And.intro ?_ ?_ | exact rfl | exact refs_fill (fun _ => rfl) rfl | exact refs_map (fun _ => rfl))) (fun _ _ _ h => by first | exact h.elim | (obtain ⟨rfl, rfl, rfl⟩ := h; simp)))⟩)
    omega
abbrev rowsV (x : Int) (pre : List (Nat × Jt)) : List (List AV) := (pre.map fun q => mirQJ x q.2).map Jt.row
theorem rowsV_all (x : Int) (l : List Jt) : rowsV x (backJ l 0) = (mirV x l 0).map Jt.row := by
  have h := backJ_map l
  rw [rowsV, show (backJ l 0).map (fun q => mirQJ x q.2) = ((backJ l 0).map (·.2)).map (mirQJ x) by simp [List.map_map], h]
  simp [mirV]
theorem rowsV_app (x : Int) (pre : List (Nat × Jt)) (q : Nat × Jt) : rowsV x pre ++ [(mirQJ x q.2).row] = rowsV x (pre ++ [q]) := by simp [rowsV]
theorem implMirrorArch_bad (l : List Jt) (x : Int) (hn : l.length ≤ 1048576) (hs : archB l = false) : CallOk Try.prog 47 [.agg [slJt l], vi x] (fun r => r = .tup [.agg [.v (.slice none 0 0)], vb false]) := by
  have h1 := implArchOk_ok l hn
  rw [hs] at h1
  refine callOk Try.func47 Try.ntmps47 Try.results47 rfl rfl rfl fun B w0 I0 => ?_
  (repeat (first | refine WL_nil ?_ | (apply wl0 (hd := rfl); (first | exact qv0 | exact QV_bne Try.underlying4 rfl rfl | exact QV_beq Try.underlying4 rfl rfl | exact qv1 | exact q_callA (h1)); (exact gy0)) | (apply wlb (hd := rfl); (first | exact q_box rfl rfl rfl | exact q_alloc); (exact gy0); rfl) | refine wln ⟨_, rfl, rfl⟩ rfl ?_ | refine wlnu ⟨_, rfl, rfl⟩ rfl ?_ | refine wst rfl rfl rfl List.not_mem_nil rfl rfl rfl rfl rfl rfl ?_ | refine W_seq ?_ | refine W_condT rfl ?_ | refine W_condF rfl ?_ | refine W_region ?_ | refine W_skip ?_ | refine W_ret ?_ | refine W_block ?_ | refine W_exit ?_))
  refine Exists.intro _ ⟨Weak.refl _, Exists.intro _ ⟨resA_cell rfl rfl rfl (resA_tmp rfl rfl), ?_, rfl⟩⟩
  rfl
theorem implMirrorArch_good (l : List Jt) (x : Int) (hs : archB l = true) : CallOk Try.prog 47 [.agg [slJt l], vi x] (fun r => r = bif archB (mirV x l 0) then .tup [.agg [.own 20 51 4 ((mirV x l 0).map Jt.row)], vb true] else .tup [.agg [.v (.slice none 0 0)], vb false]) := by
  have hn := (arch_len hs).2
  have h1 := implArchOk_ok l (by omega)
  rw [hs] at h1
  have h2 := implArchOk_ok (mirV x l 0) (by have := mirV_len x l 0; omega)
  refine callOk_of_WK Try.func47 Try.ntmps47 Try.results47 rfl rfl rfl fun w0 I0 fn hrs => ?_
  refine WK_seq ?_
  (repeat (first | refine WL_nil ?_ | (apply wl0 (hd := rfl); (first | exact qv0 | exact QV_bne Try.underlying4 rfl rfl | exact QV_beq Try.underlying4 rfl rfl | exact qv1); (exact gy0)) | (apply wlb (hd := rfl); (first | exact q_box rfl rfl rfl | exact q_alloc); (exact gy0); rfl) | refine wln ⟨_, rfl, rfl⟩ rfl ?_ | refine wlnu ⟨_, rfl, rfl⟩ rfl ?_ | refine wst rfl rfl rfl List.not_mem_nil rfl rfl rfl rfl rfl rfl ?_ | refine W_seq ?_ | refine W_condT rfl ?_ | refine W_condF rfl ?_ | refine W_region ?_ | refine W_skip ?_ | refine W_ret ?_ | refine W_block ?_ | refine W_exit ?_))
  refine WK_seq ?_
  (repeat (first | refine WL_nil ?_ | (apply wl0 (hd := rfl); (first | exact qv0 | exact QV_bne Try.underlying4 rfl rfl | exact QV_beq Try.underlying4 rfl rfl | exact qv1 | exact q_callA (h1)); (exact gy0)) | (apply wlb (hd := rfl); (first | exact q_box rfl rfl rfl | exact q_alloc); (exact gy0); rfl) | refine wln ⟨_, rfl, rfl⟩ rfl ?_ | refine wlnu ⟨_, rfl, rfl⟩ rfl ?_ | refine wst rfl rfl rfl List.not_mem_nil rfl rfl rfl rfl rfl rfl ?_ | refine W_seq ?_ | refine W_condT rfl ?_ | refine W_condF rfl ?_ | refine W_region ?_ | refine W_skip ?_ | refine W_ret ?_ | refine W_block ?_ | refine W_exit ?_))
  refine WK_seq ?_
  (repeat (first | refine WL_nil ?_ | (apply wl0 (hd := rfl); (first | exact qv0 | exact QV_bne Try.underlying4 rfl rfl | exact QV_beq Try.underlying4 rfl rfl | exact qv1); (exact gy0)) | (apply wlb (hd := rfl); (first | exact q_box rfl rfl rfl | exact q_alloc); (exact gy0); rfl) | refine wln ⟨_, rfl, rfl⟩ rfl ?_ | refine wlnu ⟨_, rfl, rfl⟩ rfl ?_ | refine wst rfl rfl rfl List.not_mem_nil rfl rfl rfl rfl rfl rfl ?_ | refine W_seq ?_ | refine W_condT rfl ?_ | refine W_condF rfl ?_ | refine W_region ?_ | refine W_skip ?_ | refine W_ret ?_ | refine W_block ?_ | refine W_exit ?_))
  refine WK_seqL (WK_seq ?_)
  (repeat (first | refine WL_nil ?_ | (apply wl0 (hd := rfl); (first | exact qv0 | exact QV_bne Try.underlying4 rfl rfl | exact QV_beq Try.underlying4 rfl rfl | exact qv1 | exact q_seqOf backCJ rfl); (exact gy0)) | (apply wlb (hd := rfl); (first | exact q_box rfl rfl rfl | exact q_alloc); (exact gy0); rfl) | refine wln ⟨_, rfl, rfl⟩ rfl ?_ | refine wlnu ⟨_, rfl, rfl⟩ rfl ?_ | refine wst rfl rfl rfl List.not_mem_nil rfl rfl rfl rfl rfl rfl ?_ | refine W_seq ?_ | refine W_condT rfl ?_ | refine W_condF rfl ?_ | refine W_region ?_ | refine W_skip ?_ | refine W_ret ?_ | refine W_block ?_ | refine W_exit ?_))
  refine WK_block (WK_weak (s' := ⟨[(15, .fn (.func 154) [] [.eptr [slJt l]]), (3, .ptr 3 0), (4, .ptr 4 0), (6, .ptr 6 0)], [(6, [.v (.slice none 0 0)]), (4, [.v (.slice none 0 0)]), (3, [vi x])], []⟩) (weak_mk (by repeat' (first | exact trivial | refine And.intro ?_ ?_ | exact Le.refl | exact Le.nilOwn rfl | exact Le.nilSl | exact Le.ownSl | exact Le.top)) (by repeat' (first | exact trivial | refine And.intro ?_ ?_ | exact ⟨_, rfl, Les.refl _⟩ | exact ⟨_, rfl, by repeat' (first | exact Les.nil | exact Les.cons Le.refl (Les.refl _) | refine Les.cons (by first | exact Le.top | exact Le.refl | exact Le.ownSl | exact Le.nilSl) ?_)⟩)) rfl (by repeat' (first | exact trivial | refine And.intro ?_ ?_ | exact rfl | exact refs_fill (fun _ => rfl) rfl | exact refs_map (fun _ => rfl))) (fun _ _ _ h => by first | exact h.elim | (obtain ⟨rfl, rfl, rfl⟩ := h; simp))) ?_)
  intro g a w hi
  obtain ⟨b, o, hf, hd⟩ := fn_of hi (t := 15) rfl
  have hsz := hi.sz
  refine range_wp (α := Nat × Jt) hi rfl hf (backSeqJ l (by omega) g.I w b o hd) (fun _ => rfl) [3, 4, 6] [(3, .ptr 3 0), (4, .ptr 4 0), (6, .ptr 6 0)]
    ⟨pin_of hi (t := 3) rfl (by decide), pin_of hi (t := 4) rfl (by decide), pin_of hi (t := 6) rfl (by decide), trivial⟩
    (fun pre => [(6, [.own 20 51 4 (rowsV x pre)]), (4, [.v (.slice none 0 0)]), (3, [vi x])]) (fun _ => [20]) (fun B w1 => ?_) (fun q => [(17, q.2.av), (16, vi q.1)]) (fun q g' W ht => ?_) (fun pre q hlen B w1 w2 M I1 p l0 => ?_) (fun xs g' W D hS hm ht hsz' hD hB hO => ?_)
  · exact (weak_mk (by repeat' (first | exact trivial | refine And.intro ?_ ?_ | exact Le.refl | exact Le.nilOwn rfl | exact Le.nilSl | exact Le.ownSl | exact Le.top)) (by repeat' (first | exact trivial | refine And.intro ?_ ?_ | exact ⟨_, rfl, Les.refl _⟩ | exact ⟨_, rfl, by repeat' (first | exact Les.nil | exact Les.cons Le.refl (Les.refl _) | refine Les.cons (by first | exact Le.top | exact Le.refl | exact Le.ownSl | exact Le.nilOwn rfl | exact Le.nilSl) ?_)⟩)) rfl (by repeat' (first | exact trivial | refine And.intro ?_ ?_ | exact rfl | exact refs_fill (fun _ => rfl) rfl | exact refs_map (fun _ => rfl))) (fun _ _ _ h => by first | (have h := h.1; simp at h ⊢; omega) | exact h.elim | (obtain ⟨rfl, rfl, rfl⟩ := h; simp)))
  · exact two_params (by rw [hsz]; show 16 < 31; decide) (by rw [hsz]; show 17 < 31; decide) (by simp [rep]) (by simp [rep, reps]) ht
  · have hmp := implMirrorJoint_g q.2 x
    (repeat (first | refine WL_nil ?_ | (apply wl0 (hd := rfl); (first | exact qv0 | exact QV_bne Try.underlying4 rfl rfl | exact QV_beq Try.underlying4 rfl rfl | exact qv1); (exact gy0)) | (apply wlb (hd := rfl); (first | exact q_box rfl rfl rfl | exact q_alloc); (exact gy0); rfl) | refine wln ⟨_, rfl, rfl⟩ rfl ?_ | refine wlnu ⟨_, rfl, rfl⟩ rfl ?_ | refine wst rfl rfl rfl List.not_mem_nil rfl rfl rfl rfl rfl rfl ?_ | refine W_seq ?_ | refine W_condT rfl ?_ | refine W_condF rfl ?_ | refine W_region ?_ | refine W_skip ?_ | refine W_ret ?_ | refine W_block ?_ | refine W_exit ?_))
    refine ⟨rfl, ?_⟩
    (repeat (first | refine WL_nil ?_ | (apply wl0 (hd := rfl); (first | exact qv0 | exact QV_bne Try.underlying4 rfl rfl | exact QV_beq Try.underlying4 rfl rfl | exact qv1); (exact gy0)) | (apply wlb (hd := rfl); (first | exact q_box rfl rfl rfl | exact q_alloc); (exact gy0); rfl) | refine wln ⟨_, rfl, rfl⟩ rfl ?_ | refine wlnu ⟨_, rfl, rfl⟩ rfl ?_ | refine wst rfl rfl rfl List.not_mem_nil rfl rfl rfl rfl rfl rfl ?_ | refine W_seq ?_ | refine W_condT rfl ?_ | refine W_condF rfl ?_ | refine W_region ?_ | refine W_skip ?_ | refine W_ret ?_ | refine W_block ?_ | refine W_exit ?_))
    have hr : (rowsV x pre).length + [(mirQJ x q.2).row].length ≤ 1048576 := by simp; omega
    refine wdraw 6 (by kernel_rfl) (by kernel_rfl) (by kernel_rfl) rfl ?_
    (repeat (first | refine HW_nil ?_ | (apply hw0 (hd := rfl); (first | exact qv0 | exact QV_bne Try.underlying4 rfl rfl | exact QV_beq Try.underlying4 rfl rfl | exact qv1 | exact q_callA (hmp)); (exact gy0)) | (apply hwb (hd := rfl); (first | exact q_box rfl rfl rfl | exact q_alloc); (exact gy0); rfl) | refine hwn ⟨_, rfl, rfl⟩ rfl ?_ | refine hwnu ⟨_, rfl, rfl⟩ rfl ?_ | (apply hwn1 (hd := rfl); exact q_buildSlice 22 rfl rfl rfl rfl; (exact gy0); rfl)))
    (repeat (first | refine WL_nil ?_ | (apply wl0 (hd := rfl); (first | exact qv0 | exact QV_bne Try.underlying4 rfl rfl | exact QV_beq Try.underlying4 rfl rfl | exact qv1); (exact gy0)) | (apply wlb (hd := rfl); (first | exact q_box rfl rfl rfl | exact q_alloc); (exact gy0); rfl) | refine wln ⟨_, rfl, rfl⟩ rfl ?_ | refine wlnu ⟨_, rfl, rfl⟩ rfl ?_ | refine wst rfl rfl rfl List.not_mem_nil rfl rfl rfl rfl rfl rfl ?_ | refine wapp (rows2 := [(mirQJ x q.2).row]) rfl rfl rfl (by simp [isCell, Value.oneCell']) (by simp) hr rfl rfl rfl rfl ?_ | refine W_seq ?_ | refine W_condT rfl ?_ | refine W_condF rfl ?_ | refine W_region ?_ | refine W_skip ?_ | refine W_ret ?_ | refine W_block ?_ | refine W_exit ?_))
    rw [rowsV_app]
    exact ⟨[], (weak_mk (by repeat' (first | exact trivial | refine And.intro ?_ ?_ | exact Le.refl | exact Le.nilOwn rfl | exact Le.nilSl | exact Le.ownSl | exact Le.top)) (by repeat' (first | exact trivial | refine And.intro ?_ ?_ | exact ⟨_, rfl, Les.refl _⟩ | exact ⟨_, rfl, by repeat' (first | exact Les.nil | exact Les.cons Le.refl (Les.refl _) | refine Les.cons (by first | exact Le.top | exact Le.refl | exact Le.ownSl | exact Le.nilOwn rfl | exact Le.nilSl) ?_)⟩)) rfl (by repeat' (first | exact trivial | refine And.intro ?_ ?_ | exact rfl | exact refs_fill (fun _ => rfl) rfl | exact refs_map (fun _ => rfl))) (fun _ _ _ h => by first | (have h := h.1; simp at h ⊢; omega) | exact h.elim | (obtain ⟨rfl, rfl, rfl⟩ := h; simp)))⟩
  · have e : backJ l 0 = xs := hS.symm
    subst e
    rw [rowsV_all] at hm
    refine rest_wp hrs hm ht hsz' hD hB hO fun B w1 M I1 df => ?_
    cases e : archB (mirV x l 0)
    · rw [e] at h2
      (repeat (first | refine WL_nil ?_ | (apply wl0 (hd := rfl); (first | exact qv0 | exact QV_bne Try.underlying4 rfl rfl | exact QV_beq Try.underlying4 rfl rfl | exact qv1 | exact q_callA (h2)); (exact gy0)) | (apply wlb (hd := rfl); (first | exact q_box rfl rfl rfl | exact q_alloc); (exact gy0); rfl) | refine wln ⟨_, rfl, rfl⟩ rfl ?_ | refine wlnu ⟨_, rfl, rfl⟩ rfl ?_ | refine wst rfl rfl rfl List.not_mem_nil rfl rfl rfl rfl rfl rfl ?_ | refine W_seq ?_ | refine W_condT rfl ?_ | refine W_condF rfl ?_ | refine W_region ?_ | refine W_skip ?_ | refine W_ret ?_ | refine W_block ?_ | refine W_exit ?_))
      refine Exists.intro _ ⟨Weak.refl _, Exists.intro _ ⟨resA_cell rfl rfl rfl (resA_tmp rfl rfl), ?_, rfl⟩⟩
      rfl
    · rw [e] at h2
      (repeat (first | refine WL_nil ?_ | (apply wl0 (hd := rfl); (first | exact qv0 | exact QV_bne Try.underlying4 rfl rfl | exact QV_beq Try.underlying4 rfl rfl | exact qv1 | exact q_callA (h2)); (exact gy0)) | (apply wlb (hd := rfl); (first | exact q_box rfl rfl rfl | exact q_alloc); (exact gy0); rfl) | refine wln ⟨_, rfl, rfl⟩ rfl ?_ | refine wlnu ⟨_, rfl, rfl⟩ rfl ?_ | refine wst rfl rfl rfl List.not_mem_nil rfl rfl rfl rfl rfl rfl ?_ | refine W_seq ?_ | refine W_condT rfl ?_ | refine W_condF rfl ?_ | refine W_region ?_ | refine W_skip ?_ | refine W_ret ?_ | refine W_block ?_ | refine W_exit ?_))
      refine Exists.intro _ ⟨Weak.refl _, Exists.intro _ ⟨resA_cell rfl rfl rfl (resA_tmp rfl rfl), ?_, rfl⟩⟩
      rfl
theorem mirrorArch_no (l : List Jt) (x : Int) (hn : l.length ≤ 1048576) (h : marB x l = false) : CallOk Try.prog 45 [.agg [slJt l], vi x] (fun r => r = .tup [.agg [.v (.slice none 0 0)], vb false]) := by
  rcases Nat.eq_zero_or_pos l.length with h0 | h0
  · rw [List.length_eq_zero_iff.1 h0]; exact mirrorArch_nil x
  · have h' := mirrorArch_ok l x hn h0
    rwa [h] at h'
theorem mirrorArch_yes (l : List Jt) (x : Int) (h : marB x l = true) : CallOk Try.prog 45 [.agg [slJt l], vi x] (fun r => r = .tup [.agg [.own 20 51 4 ((mirV x l 0).map Jt.row)], vb true]) := by
  have h1 : archB l = true := by simp only [marB, Bool.and_eq_true] at h; exact h.1
  have hl := arch_len h1
  have h' := mirrorArch_ok l x (by omega) (by omega)
  rwa [h] at h'
theorem implMirrorArch_no (l : List Jt) (x : Int) (hn : l.length ≤ 1048576) (h : marB x l = false) : CallOk Try.prog 47 [.agg [slJt l], vi x] (fun r => r = .tup [.agg [.v (.slice none 0 0)], vb false]) := by
  cases e : archB l
  · exact implMirrorArch_bad l x hn e
  · have h' := implMirrorArch_good l x e
    simp only [marB, e, Bool.true_and] at h
    rwa [h] at h'
theorem implMirrorArch_yes (l : List Jt) (x : Int) (h : marB x l = true) : CallOk Try.prog 47 [.agg [slJt l], vi x] (fun r => r = .tup [.agg [.own 20 51 4 ((mirV x l 0).map Jt.row)], vb true]) := by
  simp only [marB, Bool.and_eq_true] at h
  have h' := implMirrorArch_good l x h.1
  rwa [h.2] at h'
end Go.Proofs.Ytkadjimnamcjbaa
