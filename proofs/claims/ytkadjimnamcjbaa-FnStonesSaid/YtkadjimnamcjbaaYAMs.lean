/- The reference's mirrored stone. -/
import Derived.Test.YtkadjimnamcjbaaYASt
import Derived.Test.YtkadjimnamcjbaaYAArch
import Derived.Test.YtkadjimnamcjbaaYAWt
import Derived.Test.YtkadjimnamcjbaaZ2
namespace Go.Proofs.Ytkadjimnamcjbaa
open Go.Eng
set_option maxRecDepth 100000
attribute [local irreducible] QV TV WL HW W CallOk Weak

def mirP (x : Int) (p : Pt) : Pt := ⟨2 * x - p.x, p.y⟩
/-- The corners mirrored, the last first: of the last ones, from j on. -/
def mirT (x : Int) (l : List Pt) (j : Nat) : List Pt := (l.drop j).reverse.map (mirP x)
theorem mirT_succ {x : Int} {l : List Pt} {i : Nat} {p : Pt} (h : l[i]? = some p) : mirT x l i = mirT x l (i + 1) ++ [mirP x p] := by
  have hi : i < l.length := (List.getElem?_eq_some_iff.1 h).1
  have hp : l[i] = p := (List.getElem?_eq_some_iff.1 h).2
  rw [mirT, List.drop_eq_getElem_cons hi, hp]
  simp [mirT]
theorem mirrorPoint_ok (p : Pt) (x : Int) (hp : ptOk p = true) (hx : inR x (-60) 60 = true) : CallOk Try.prog 89 [p.av, vi x] (fun r => r = (mirP x p).av) := by
  have h1 := PointOk_ok p
  rw [hp] at h1
  have h2 := l01In_ok x (-60) 60
  rw [hx] at h2
  obtain ⟨b1, b2⟩ := ptOk_true.1 hp
  have b3 := inR_true.1 hx
  refine callOk Try.func89 Try.ntmps89 Try.results89 rfl rfl rfl fun B w0 I0 => ?_
  (repeat (first | refine WL_nil ?_ | (apply wl0 (hd := rfl); (first | exact qv0 | exact QV_bne Try.underlying4 rfl rfl | exact QV_beq Try.underlying4 rfl rfl | exact qv1 | exact q_callA (h1) | exact q_callA (h2)); (exact gy0)) | (apply wlb (hd := rfl); (first | exact q_box rfl rfl rfl | exact q_alloc); (exact gy0); rfl) | refine wln ⟨_, rfl, rfl⟩ rfl ?_ | refine wlnu ⟨_, rfl, rfl⟩ rfl ?_ | refine wst rfl rfl rfl List.not_mem_nil rfl rfl rfl rfl rfl rfl ?_ | refine W_seq ?_ | refine W_condT rfl ?_ | refine W_condF rfl ?_ | refine W_region ?_ | refine W_skip ?_ | refine W_ret ?_ | refine W_block ?_ | refine W_exit ?_))
  refine Exists.intro _ ⟨Weak.refl _, Exists.intro _ ⟨resA_cell rfl rfl rfl rfl, ?_, rfl⟩⟩
  rfl
theorem mirrorStone_ok (l : List Pt) (x : Int) (hs : stoneB l = true) (hx : inR x (-60) 60 = true) (hm : stoneB (mirT x l 0) = true) : CallOk Try.prog 18 [.agg [slPt l], vi x] (fun r => r = .agg [.own 20 31 2 ((mirT x l 0).map Pt.row)]) := by
  have hn := (stone_len hs).2
  have hall : l.all ptOk = true := by
    have h := hs
    simp only [stoneB, Bool.and_eq_true] at h
    exact h.2.1
  have h1 := stoneOk_ok l (by omega)
  rw [hs] at h1
  have h2 := stoneOk_ok (mirT x l 0) (by simp [mirT]; omega)
  rw [hm] at h2
  refine callOk Try.func18 Try.ntmps18 Try.results18 rfl rfl rfl fun B w0 I0 => ?_
  (repeat (first | refine WL_nil ?_ | (apply wl0 (hd := rfl); (first | exact qv0 | exact QV_bne Try.underlying4 rfl rfl | exact QV_beq Try.underlying4 rfl rfl | exact qv1); (exact gy0)) | (apply wlb (hd := rfl); (first | exact q_box rfl rfl rfl | exact q_alloc); (exact gy0); rfl) | refine wln ⟨_, rfl, rfl⟩ rfl ?_ | refine wlnu ⟨_, rfl, rfl⟩ rfl ?_ | refine wst rfl rfl rfl List.not_mem_nil rfl rfl rfl rfl rfl rfl ?_ | refine W_seq ?_ | refine W_condT rfl ?_ | refine W_condF rfl ?_ | refine W_region ?_ | refine W_skip ?_ | refine W_ret ?_ | refine W_block ?_ | refine W_exit ?_))
  refine W_loop (fun n s => ∃ (j : Nat) (k : Int) (rows : List (List AV)), j ≤ l.length ∧ n = j ∧ k = (j : Int) - 1 ∧ rows = (mirT x l j).map Pt.row ∧ s = ⟨[(1, vi x), (2, .ptr 2 0), (4, .ptr 4 0), (5, .ptr 5 0), (6, vi k)], [(2, [slPt l]), (4, [.v (.slice none 0 0)]), (5, [.own 20 31 2 rows])], [20]⟩) ⟨_, _, ⟨l.length, _, [], Nat.le_refl _, rfl, rfl, by simp [mirT], rfl⟩, (weak_mk (by repeat' (first | exact trivial | refine And.intro ?_ ?_ | exact Le.refl | exact Le.nilOwn rfl | exact Le.nilSl | exact Le.ownSl | exact Le.top)) (by repeat' (first | exact trivial | refine And.intro ?_ ?_ | exact ⟨_, rfl, Les.refl _⟩ | exact ⟨_, rfl, by repeat' (first | exact Les.nil | exact Les.cons Le.refl (Les.refl _) | refine Les.cons (by first | exact Le.top | exact Le.refl | exact Le.ownSl | exact Le.nilOwn rfl | exact Le.nilSl) ?_)⟩)) rfl (by repeat' (first | exact trivial | refine And.intro ?_ ?_ | exact rfl | exact refs_fill (fun _ => rfl) rfl | exact refs_map (fun _ => rfl))) (fun _ _ _ h => by first | exact h.elim | (obtain ⟨rfl, rfl, rfl⟩ := h; simp)))⟩ ?_
  rintro j s ⟨_, k, rows, hj, rfl, hk, hrows, rfl⟩
  cases j with
  | zero =>
    have c1 : abin .geq .i64 k 0 = some (.bool false) := by simp [abin]; omega
    subst hrows
    (repeat (first | refine WL_nil ?_ | (apply wl0 (hd := rfl); (first | exact QV_bin rfl rfl c1 | exact qv0 | exact QV_bne Try.underlying4 rfl rfl | exact QV_beq Try.underlying4 rfl rfl | exact qv1 | exact q_callA (h2)); (exact gy0)) | (apply wlb (hd := rfl); (first | exact q_box rfl rfl rfl | exact q_alloc); (exact gy0); rfl) | refine wln ⟨_, rfl, rfl⟩ rfl ?_ | refine wlnu ⟨_, rfl, rfl⟩ rfl ?_ | refine wst rfl rfl rfl List.not_mem_nil rfl rfl rfl rfl rfl rfl ?_ | refine W_seq ?_ | refine W_condT rfl ?_ | refine W_condF rfl ?_ | refine W_region ?_ | refine W_skip ?_ | refine W_ret ?_ | refine W_block ?_ | refine W_exit ?_))
    refine Exists.intro _ ⟨Weak.refl _, Exists.intro _ ⟨resA_cell rfl rfl rfl rfl, ?_, rfl⟩⟩
    rfl
  | succ i =>
    obtain ⟨p, hp⟩ : ∃ p, l[i]? = some p := ⟨_, List.getElem?_eq_getElem (by omega)⟩
    have hpk : ptOk p = true := List.all_eq_true.1 hall p (List.mem_of_getElem? hp)
    have hmp := mirrorPoint_ok p x hpk hx
    have hk' : k = (i : Int) := by omega
    have c1 : abin .geq .i64 k 0 = some (.bool true) := by simp [abin]; omega
    have hr : rows.length + [(mirP x p).row].length ≤ 1048576 := by rw [hrows]; simp [mirT]; omega
    (repeat (first | refine WL_nil ?_ | (apply wl0 (hd := rfl); (first | exact QV_bin rfl rfl c1 | exact qv0 | exact QV_bne Try.underlying4 rfl rfl | exact QV_beq Try.underlying4 rfl rfl | exact qv1 | exact q_callA (h1)); (exact gy0)) | (apply wlb (hd := rfl); (first | exact q_box rfl rfl rfl | exact q_alloc); (exact gy0); rfl) | refine wln ⟨_, rfl, rfl⟩ rfl ?_ | refine wlnu ⟨_, rfl, rfl⟩ rfl ?_ | refine wst rfl rfl rfl List.not_mem_nil rfl rfl rfl rfl rfl rfl ?_ | refine W_seq ?_ | refine W_condT rfl ?_ | refine W_condF rfl ?_ | refine W_region ?_ | refine W_skip ?_ | refine W_ret ?_ | refine W_block ?_ | refine W_exit ?_))
    refine wdraw 10 (by kernel_rfl) (by kernel_rfl) (by kernel_rfl) rfl ?_
    (repeat (first | refine HW_nil ?_ | (apply hw0 (hd := rfl); (first | exact qv0 | exact QV_bne Try.underlying4 rfl rfl | exact QV_beq Try.underlying4 rfl rfl | exact qv1 | exact QV_indexAddr rfl rfl rfl hk' (row_at hp) | exact q_callA (hmp)); (exact gy0)) | (apply hwb (hd := rfl); (first | exact q_box rfl rfl rfl | exact q_alloc); (exact gy0); rfl) | refine hwn ⟨_, rfl, rfl⟩ rfl ?_ | refine hwnu ⟨_, rfl, rfl⟩ rfl ?_ | (apply hwn1 (hd := rfl); exact q_buildSlice 29 rfl rfl rfl rfl; (exact gy0); rfl)))
    (repeat (first | refine WL_nil ?_ | (apply wl0 (hd := rfl); (first | exact qv0 | exact QV_bne Try.underlying4 rfl rfl | exact QV_beq Try.underlying4 rfl rfl | exact qv1); (exact gy0)) | (apply wlb (hd := rfl); (first | exact q_box rfl rfl rfl | exact q_alloc); (exact gy0); rfl) | refine wln ⟨_, rfl, rfl⟩ rfl ?_ | refine wlnu ⟨_, rfl, rfl⟩ rfl ?_ | refine wst rfl rfl rfl List.not_mem_nil rfl rfl rfl rfl rfl rfl ?_ | refine wapp (rows2 := [(mirP x p).row]) rfl rfl rfl (by simp [isCell, Value.oneCell']) (by simp) hr rfl rfl rfl rfl ?_ | refine W_seq ?_ | refine W_condT rfl ?_ | refine W_condF rfl ?_ | refine W_region ?_ | refine W_skip ?_ | refine W_ret ?_ | refine W_block ?_ | refine W_exit ?_))
    refine Exists.intro _ (Exists.intro _ ⟨?_, ⟨i, k - 1, rows ++ [(mirP x p).row], by omega, rfl, by omega, by rw [hrows, mirT_succ hp]; simp, rfl⟩, (weak_mk (by repeat' (first | exact trivial | refine And.intro ?_ ?_ | exact Le.refl | exact Le.nilOwn rfl | exact Le.nilSl | exact Le.ownSl | exact Le.top)) (by repeat' (first | exact trivial | refine And.intro ?_ ?_ | exact ⟨_, rfl, Les.refl _⟩ | exact ⟨_, rfl, by repeat' (first | exact Les.nil | exact Les.cons Le.refl (Les.refl _) | refine Les.cons (by first | exact Le.top | exact Le.refl | exact Le.ownSl | exact Le.nilSl) ?_)⟩)) rfl (by repeat' (first | exact trivial | refine And.intro ?_ ?_ | exact rfl | exact refs_fill (fun _ => rfl) rfl | exact refs_map (fun _ => rfl))) (fun _ _ _ h => by first | exact h.elim | (obtain ⟨rfl, rfl, rfl⟩ := h; simp)))⟩)
    omega
end Go.Proofs.Ytkadjimnamcjbaa
