/- The laws' marks, for slices of numbers and of structs of numbers. -/
import Derived.Test.YtkieepmkcaipaaaGreatZ9
import Derived.Test.YtkieepmkcaipaaaGreatYALaw
import Derived.Test.YtkieepmkcaipaaaGreatYAJLaw
import Derived.Test.YtkieepmkcaipaaaGreatYALdLaw
import Derived.Test.YtkieepmkcaipaaaGreatYATh
namespace Go.Proofs.YtkieepmkcaipaaaGreat
open Go.Eng
set_option maxRecDepth 100000
attribute [local irreducible] QV TV WL HW W CallOk Weak

def markJoint (k : Int) (i : Nat) : Jt := ⟨⟨(k + 4 * i), (k + 4 * i + 1)⟩, ⟨(k + 4 * i + 1 + 1), (k + 4 * i + 1 + 1 + 1)⟩⟩
theorem plainJoint (a : Jt) : ∀ x ∈ Jt.row a, plain x = true := by
  intro x hx
  simp only [Jt.row, List.mem_cons, List.not_mem_nil, or_false] at hx
  rcases hx with rfl | rfl | rfl | rfl <;> rfl
theorem markJointS_ok (l : List Jt) (k : Int) (hn : l.length ≤ 1048576) (hk : 0 ≤ k ∧ k ≤ 1099511627776) : CallMark Tryz.prog 97 79 4 [.arr 1000000 79 4 l.length, vi k] (l.map Jt.row) ((mks markJoint k l.length).map Jt.row) (.int .i64 (k + 4 * l.length)) := by
  refine callMark Tryz.func97 Tryz.ntmps97 Tryz.results97 rfl rfl rfl fun B w0 b more V0 hmore => ?_
  have hpl := mkR_plain (row := Jt.row) (mk := markJoint) (k := k) (l := l) plainJoint hmore
  (repeat (first | refine WL_nil ?_ | (apply wl0 (hd := rfl); (first | exact qv0 | exact QV_bne Tryz.underlying4 rfl rfl | exact QV_beq Tryz.underlying4 rfl rfl | exact qv1 | exact QV_lenA rfl); (exact gy0)) | (apply wlb (hd := rfl); (first | exact q_box rfl rfl rfl | exact q_alloc); (exact gy0); rfl) | refine wln ⟨_, rfl, rfl⟩ rfl ?_ | refine wlnu ⟨_, rfl, rfl⟩ rfl ?_ | refine wst rfl rfl rfl List.not_mem_nil rfl rfl rfl rfl rfl rfl ?_ | refine W_seq ?_ | refine W_condT rfl ?_ | refine W_condF rfl ?_ | refine W_region ?_ | refine W_skip ?_ | refine W_ret ?_ | refine W_block ?_ | refine W_exit ?_))
  refine W_loop (fun n s => ∃ (i : Nat) (v : Int), i ≤ l.length ∧ n = l.length - i ∧ v = k + 4 * i ∧ s = ⟨[(0, .arr 1000000 79 4 l.length), (1, vi v), (5, vi i)], [(1000000, (mkR Jt.row markJoint k l more i).flatten)], []⟩) ⟨_, _, ⟨0, k, by omega, rfl, by omega, rfl⟩, (weak_mk (by repeat' (first | exact trivial | refine And.intro ?_ ?_ | exact Le.refl | exact Le.nilOwn rfl | exact Le.nilSl | exact Le.ownSl | exact Le.top)) (by repeat' (first | exact trivial | refine And.intro ?_ ?_ | exact ⟨_, rfl, Les.refl _⟩ | exact ⟨_, rfl, by repeat' (first | exact Les.nil | exact Les.cons Le.refl (Les.refl _) | refine Les.cons (by first | exact Le.top | exact Le.refl | exact Le.ownSl | exact Le.nilSl) ?_)⟩)) rfl (by repeat' (first | exact trivial | refine And.intro ?_ ?_ | exact rfl | exact refs_fill (fun _ => rfl) rfl | exact refs_map (fun _ => rfl) | exact refs_plain (hpl _))) (fun _ _ _ h => by first | exact h.elim | (obtain ⟨rfl, rfl, rfl⟩ := h; simp)))⟩ ?_
  rintro n s ⟨i, v, hi, rfl, hv, rfl⟩
  by_cases hlt : i < l.length
  · have hp := jat_lt hlt
    have r0 : RowAt (mkR Jt.row markJoint k l more i) i 4 (Jt.row (jat l i)) := ⟨mkR_at hp, mkR_len (fun _ => rfl) hmore⟩
    have r1 := r0.set (r' := [vi (v), vi ((jat l i).i.y), vi ((jat l i).o.x), vi ((jat l i).o.y)]) rfl
    have r2 := r1.set (r' := [vi (v), vi (v + 1), vi ((jat l i).o.x), vi ((jat l i).o.y)]) rfl
    have r3 := r2.set (r' := [vi (v), vi (v + 1), vi (v + 1 + 1), vi ((jat l i).o.y)]) rfl
    (repeat (first | refine WL_nil ?_ | (apply wl0 (hd := rfl); (first | exact qv0 | exact QV_bne Tryz.underlying4 rfl rfl | exact QV_beq Tryz.underlying4 rfl rfl | exact qv1 | exact QV_lenA rfl); (exact gy0)) | (apply wlb (hd := rfl); (first | exact q_box rfl rfl rfl | exact q_alloc); (exact gy0); rfl) | refine wln ⟨_, rfl, rfl⟩ rfl ?_ | refine wlnu ⟨_, rfl, rfl⟩ rfl ?_ | refine wst rfl rfl rfl List.not_mem_nil rfl rfl rfl rfl rfl rfl ?_ | refine W_seq ?_ | refine W_condT rfl ?_ | refine W_condF rfl ?_ | refine W_region ?_ | refine W_skip ?_ | refine W_ret ?_ | refine W_block ?_ | refine W_exit ?_))
    (refine W_cond rfl (fun hc => ?_) (fun hc => ?_))
    · (repeat (first | refine WL_nil ?_ | (apply wl0 (hd := rfl); (first | exact qv0 | exact QV_bne Tryz.underlying4 rfl rfl | exact QV_beq Tryz.underlying4 rfl rfl | exact qv1 | exact QV_indexA rfl rfl rfl hlt); (exact gy0)) | (apply wlb (hd := rfl); (first | exact q_box rfl rfl rfl | exact q_alloc); (exact gy0); rfl) | refine wln ⟨_, rfl, rfl⟩ rfl ?_ | refine wlnu ⟨_, rfl, rfl⟩ rfl ?_ | refine wst rfl rfl rfl List.not_mem_nil rfl rfl rfl rfl rfl rfl ?_ | refine wstP (j := i) (e := 4) (o := 0) rfl rfl rfl List.not_mem_nil rfl rfl rfl rfl r0.at_ rfl r0.len rfl ?_ | refine wstP (j := i) (e := 4) (o := 1) rfl rfl rfl List.not_mem_nil rfl rfl rfl rfl r1.at_ rfl r1.len rfl ?_ | refine wstP (j := i) (e := 4) (o := 2) rfl rfl rfl List.not_mem_nil rfl rfl rfl rfl r2.at_ rfl r2.len rfl ?_ | refine wstP (j := i) (e := 4) (o := 3) rfl rfl rfl List.not_mem_nil rfl rfl rfl rfl r3.at_ rfl r3.len rfl ?_ | refine W_seq ?_ | refine W_condT rfl ?_ | refine W_condF rfl ?_ | refine W_region ?_ | refine W_skip ?_ | refine W_ret ?_ | refine W_block ?_ | refine W_exit ?_))
      have hset : (((((mkR Jt.row markJoint k l more i).set i [vi (v), vi ((jat l i).i.y), vi ((jat l i).o.x), vi ((jat l i).o.y)]).set i [vi (v), vi (v + 1), vi ((jat l i).o.x), vi ((jat l i).o.y)]).set i [vi (v), vi (v + 1), vi (v + 1 + 1), vi ((jat l i).o.y)]).set i [vi (v), vi (v + 1), vi (v + 1 + 1), vi (v + 1 + 1 + 1)]) = mkR Jt.row markJoint k l more (i + 1) := by
        rw [List.set_set, List.set_set, List.set_set]
        subst hv
        exact mkR_set hp
      rw [hset]
      refine Exists.intro _ (Exists.intro _ ⟨?_, ⟨i + 1, v + 1 + 1 + 1 + 1, by omega, rfl, by omega, rfl⟩, (weak_mk (by repeat' (first | exact trivial | refine And.intro ?_ ?_ | exact Le.refl | exact Le.nilOwn rfl | exact Le.nilSl | exact Le.ownSl | exact Le.top)) (by repeat' (first | exact trivial | refine And.intro ?_ ?_ | exact ⟨_, rfl, Les.refl _⟩ | exact ⟨_, rfl, by repeat' (first | exact Les.nil | exact Les.cons Le.refl (Les.refl _) | refine Les.cons (by first | exact Le.top | exact Le.refl | exact Le.ownSl | exact Le.nilSl) ?_)⟩)) rfl (by repeat' (first | exact trivial | refine And.intro ?_ ?_ | exact rfl | exact refs_fill (fun _ => rfl) rfl | exact refs_map (fun _ => rfl) | exact refs_plain (hpl _))) (fun _ _ _ h => by first | exact h.elim | (obtain ⟨rfl, rfl, rfl⟩ := h; simp)))⟩)
      omega
    · simp at hc; omega
  · (repeat (first | refine WL_nil ?_ | (apply wl0 (hd := rfl); (first | exact qv0 | exact QV_bne Tryz.underlying4 rfl rfl | exact QV_beq Tryz.underlying4 rfl rfl | exact qv1 | exact QV_lenA rfl); (exact gy0)) | (apply wlb (hd := rfl); (first | exact q_box rfl rfl rfl | exact q_alloc); (exact gy0); rfl) | refine wln ⟨_, rfl, rfl⟩ rfl ?_ | refine wlnu ⟨_, rfl, rfl⟩ rfl ?_ | refine wst rfl rfl rfl List.not_mem_nil rfl rfl rfl rfl rfl rfl ?_ | refine W_seq ?_ | refine W_condT rfl ?_ | refine W_condF rfl ?_ | refine W_region ?_ | refine W_skip ?_ | refine W_ret ?_ | refine W_block ?_ | refine W_exit ?_))
    (refine W_cond rfl (fun hc => ?_) (fun hc => ?_))
    · simp at hc; omega
    · have hi' : i = l.length := by omega
      subst hi'
      subst hv
      (repeat (first | refine WL_nil ?_ | (apply wl0 (hd := rfl); (first | exact qv0 | exact QV_bne Tryz.underlying4 rfl rfl | exact QV_beq Tryz.underlying4 rfl rfl | exact qv1); (exact gy0)) | (apply wlb (hd := rfl); (first | exact q_box rfl rfl rfl | exact q_alloc); (exact gy0); rfl) | refine wln ⟨_, rfl, rfl⟩ rfl ?_ | refine wlnu ⟨_, rfl, rfl⟩ rfl ?_ | refine wst rfl rfl rfl List.not_mem_nil rfl rfl rfl rfl rfl rfl ?_ | refine W_seq ?_ | refine W_condT rfl ?_ | refine W_condF rfl ?_ | refine W_region ?_ | refine W_skip ?_ | refine W_ret ?_ | refine W_block ?_ | refine W_exit ?_))
      refine ⟨resA_tmp rfl rfl, ?_⟩
      simp [mkR]
theorem markJointS_no (k : Int) : CallOk Tryz.prog 97 [.sl 4 [], vi k] (fun r => r = vi k) := by
  refine callOk Tryz.func97 Tryz.ntmps97 Tryz.results97 rfl rfl rfl fun B w0 M I0 V0 => ?_
  (repeat (first | refine WL_nil ?_ | (apply wl0 (hd := rfl); (first | exact qv0 | exact QV_bne Tryz.underlying4 rfl rfl | exact QV_beq Tryz.underlying4 rfl rfl | exact qv1); (exact gy0)) | (apply wlb (hd := rfl); (first | exact q_box rfl rfl rfl | exact q_alloc); (exact gy0); rfl) | refine wln ⟨_, rfl, rfl⟩ rfl ?_ | refine wlnu ⟨_, rfl, rfl⟩ rfl ?_ | refine wst rfl rfl rfl List.not_mem_nil rfl rfl rfl rfl rfl rfl ?_ | refine W_seq ?_ | refine W_condT rfl ?_ | refine W_condF rfl ?_ | refine W_region ?_ | refine W_skip ?_ | refine W_ret ?_ | refine W_block ?_ | refine W_exit ?_))
  refine W_loop (fun n s => n = 0 ∧ s = ⟨[(0, .sl 4 []), (1, vi k), (5, vi 0)], [], []⟩) ⟨_, _, ⟨rfl, rfl⟩, wkA⟩ ?_
  rintro n s ⟨rfl, rfl⟩
  (repeat (first | refine WL_nil ?_ | (apply wl0 (hd := rfl); (first | exact qv0 | exact QV_bne Tryz.underlying4 rfl rfl | exact QV_beq Tryz.underlying4 rfl rfl | exact qv1); (exact gy0)) | (apply wlb (hd := rfl); (first | exact q_box rfl rfl rfl | exact q_alloc); (exact gy0); rfl) | refine wln ⟨_, rfl, rfl⟩ rfl ?_ | refine wlnu ⟨_, rfl, rfl⟩ rfl ?_ | refine wst rfl rfl rfl List.not_mem_nil rfl rfl rfl rfl rfl rfl ?_ | refine W_seq ?_ | refine W_condT rfl ?_ | refine W_condF rfl ?_ | refine W_region ?_ | refine W_skip ?_ | refine W_ret ?_ | refine W_block ?_ | refine W_exit ?_))
  refine Exists.intro _ ⟨Weak.refl _, Exists.intro _ ⟨resA_tmp rfl rfl, ?_, rfl⟩⟩
  rfl
def markLoad (k : Int) (i : Nat) : Ld := ⟨(k + 3 * i), (k + 3 * i + 1), (k + 3 * i + 1 + 1)⟩
theorem plainLoad (a : Ld) : ∀ x ∈ Ld.row a, plain x = true := by
  intro x hx
  simp only [Ld.row, List.mem_cons, List.not_mem_nil, or_false] at hx
  rcases hx with rfl | rfl | rfl <;> rfl
theorem markLoadS_ok (l : List Ld) (k : Int) (hn : l.length ≤ 1048576) (hk : 0 ≤ k ∧ k ≤ 1099511627776) : CallMark Tryz.prog 49 91 3 [.arr 1000000 91 3 l.length, vi k] (l.map Ld.row) ((mks markLoad k l.length).map Ld.row) (.int .i64 (k + 3 * l.length)) := by
  refine callMark Tryz.func49 Tryz.ntmps49 Tryz.results49 rfl rfl rfl fun B w0 b more V0 hmore => ?_
  have hpl := mkR_plain (row := Ld.row) (mk := markLoad) (k := k) (l := l) plainLoad hmore
  (repeat (first | refine WL_nil ?_ | (apply wl0 (hd := rfl); (first | exact qv0 | exact QV_bne Tryz.underlying4 rfl rfl | exact QV_beq Tryz.underlying4 rfl rfl | exact qv1 | exact QV_lenA rfl); (exact gy0)) | (apply wlb (hd := rfl); (first | exact q_box rfl rfl rfl | exact q_alloc); (exact gy0); rfl) | refine wln ⟨_, rfl, rfl⟩ rfl ?_ | refine wlnu ⟨_, rfl, rfl⟩ rfl ?_ | refine wst rfl rfl rfl List.not_mem_nil rfl rfl rfl rfl rfl rfl ?_ | refine W_seq ?_ | refine W_condT rfl ?_ | refine W_condF rfl ?_ | refine W_region ?_ | refine W_skip ?_ | refine W_ret ?_ | refine W_block ?_ | refine W_exit ?_))
  refine W_loop (fun n s => ∃ (i : Nat) (v : Int), i ≤ l.length ∧ n = l.length - i ∧ v = k + 3 * i ∧ s = ⟨[(0, .arr 1000000 91 3 l.length), (1, vi v), (5, vi i)], [(1000000, (mkR Ld.row markLoad k l more i).flatten)], []⟩) ⟨_, _, ⟨0, k, by omega, rfl, by omega, rfl⟩, (weak_mk (by repeat' (first | exact trivial | refine And.intro ?_ ?_ | exact Le.refl | exact Le.nilOwn rfl | exact Le.nilSl | exact Le.ownSl | exact Le.top)) (by repeat' (first | exact trivial | refine And.intro ?_ ?_ | exact ⟨_, rfl, Les.refl _⟩ | exact ⟨_, rfl, by repeat' (first | exact Les.nil | exact Les.cons Le.refl (Les.refl _) | refine Les.cons (by first | exact Le.top | exact Le.refl | exact Le.ownSl | exact Le.nilSl) ?_)⟩)) rfl (by repeat' (first | exact trivial | refine And.intro ?_ ?_ | exact rfl | exact refs_fill (fun _ => rfl) rfl | exact refs_map (fun _ => rfl) | exact refs_plain (hpl _))) (fun _ _ _ h => by first | exact h.elim | (obtain ⟨rfl, rfl, rfl⟩ := h; simp)))⟩ ?_
  rintro n s ⟨i, v, hi, rfl, hv, rfl⟩
  by_cases hlt : i < l.length
  · have hp := lat_lt hlt
    have r0 : RowAt (mkR Ld.row markLoad k l more i) i 3 (Ld.row (lat l i)) := ⟨mkR_at hp, mkR_len (fun _ => rfl) hmore⟩
    have r1 := r0.set (r' := [vi (v), vi ((lat l i).w), vi ((lat l i).x)]) rfl
    have r2 := r1.set (r' := [vi (v), vi (v + 1), vi ((lat l i).x)]) rfl
    (repeat (first | refine WL_nil ?_ | (apply wl0 (hd := rfl); (first | exact qv0 | exact QV_bne Tryz.underlying4 rfl rfl | exact QV_beq Tryz.underlying4 rfl rfl | exact qv1 | exact QV_lenA rfl); (exact gy0)) | (apply wlb (hd := rfl); (first | exact q_box rfl rfl rfl | exact q_alloc); (exact gy0); rfl) | refine wln ⟨_, rfl, rfl⟩ rfl ?_ | refine wlnu ⟨_, rfl, rfl⟩ rfl ?_ | refine wst rfl rfl rfl List.not_mem_nil rfl rfl rfl rfl rfl rfl ?_ | refine W_seq ?_ | refine W_condT rfl ?_ | refine W_condF rfl ?_ | refine W_region ?_ | refine W_skip ?_ | refine W_ret ?_ | refine W_block ?_ | refine W_exit ?_))
    (refine W_cond rfl (fun hc => ?_) (fun hc => ?_))
    · (repeat (first | refine WL_nil ?_ | (apply wl0 (hd := rfl); (first | exact qv0 | exact QV_bne Tryz.underlying4 rfl rfl | exact QV_beq Tryz.underlying4 rfl rfl | exact qv1 | exact QV_indexA rfl rfl rfl hlt); (exact gy0)) | (apply wlb (hd := rfl); (first | exact q_box rfl rfl rfl | exact q_alloc); (exact gy0); rfl) | refine wln ⟨_, rfl, rfl⟩ rfl ?_ | refine wlnu ⟨_, rfl, rfl⟩ rfl ?_ | refine wst rfl rfl rfl List.not_mem_nil rfl rfl rfl rfl rfl rfl ?_ | refine wstP (j := i) (e := 3) (o := 0) rfl rfl rfl List.not_mem_nil rfl rfl rfl rfl r0.at_ rfl r0.len rfl ?_ | refine wstP (j := i) (e := 3) (o := 1) rfl rfl rfl List.not_mem_nil rfl rfl rfl rfl r1.at_ rfl r1.len rfl ?_ | refine wstP (j := i) (e := 3) (o := 2) rfl rfl rfl List.not_mem_nil rfl rfl rfl rfl r2.at_ rfl r2.len rfl ?_ | refine W_seq ?_ | refine W_condT rfl ?_ | refine W_condF rfl ?_ | refine W_region ?_ | refine W_skip ?_ | refine W_ret ?_ | refine W_block ?_ | refine W_exit ?_))
      have hset : ((((mkR Ld.row markLoad k l more i).set i [vi (v), vi ((lat l i).w), vi ((lat l i).x)]).set i [vi (v), vi (v + 1), vi ((lat l i).x)]).set i [vi (v), vi (v + 1), vi (v + 1 + 1)]) = mkR Ld.row markLoad k l more (i + 1) := by
        rw [List.set_set, List.set_set]
        subst hv
        exact mkR_set hp
      rw [hset]
      refine Exists.intro _ (Exists.intro _ ⟨?_, ⟨i + 1, v + 1 + 1 + 1, by omega, rfl, by omega, rfl⟩, (weak_mk (by repeat' (first | exact trivial | refine And.intro ?_ ?_ | exact Le.refl | exact Le.nilOwn rfl | exact Le.nilSl | exact Le.ownSl | exact Le.top)) (by repeat' (first | exact trivial | refine And.intro ?_ ?_ | exact ⟨_, rfl, Les.refl _⟩ | exact ⟨_, rfl, by repeat' (first | exact Les.nil | exact Les.cons Le.refl (Les.refl _) | refine Les.cons (by first | exact Le.top | exact Le.refl | exact Le.ownSl | exact Le.nilSl) ?_)⟩)) rfl (by repeat' (first | exact trivial | refine And.intro ?_ ?_ | exact rfl | exact refs_fill (fun _ => rfl) rfl | exact refs_map (fun _ => rfl) | exact refs_plain (hpl _))) (fun _ _ _ h => by first | exact h.elim | (obtain ⟨rfl, rfl, rfl⟩ := h; simp)))⟩)
      omega
    · simp at hc; omega
  · (repeat (first | refine WL_nil ?_ | (apply wl0 (hd := rfl); (first | exact qv0 | exact QV_bne Tryz.underlying4 rfl rfl | exact QV_beq Tryz.underlying4 rfl rfl | exact qv1 | exact QV_lenA rfl); (exact gy0)) | (apply wlb (hd := rfl); (first | exact q_box rfl rfl rfl | exact q_alloc); (exact gy0); rfl) | refine wln ⟨_, rfl, rfl⟩ rfl ?_ | refine wlnu ⟨_, rfl, rfl⟩ rfl ?_ | refine wst rfl rfl rfl List.not_mem_nil rfl rfl rfl rfl rfl rfl ?_ | refine W_seq ?_ | refine W_condT rfl ?_ | refine W_condF rfl ?_ | refine W_region ?_ | refine W_skip ?_ | refine W_ret ?_ | refine W_block ?_ | refine W_exit ?_))
    (refine W_cond rfl (fun hc => ?_) (fun hc => ?_))
    · simp at hc; omega
    · have hi' : i = l.length := by omega
      subst hi'
      subst hv
      (repeat (first | refine WL_nil ?_ | (apply wl0 (hd := rfl); (first | exact qv0 | exact QV_bne Tryz.underlying4 rfl rfl | exact QV_beq Tryz.underlying4 rfl rfl | exact qv1); (exact gy0)) | (apply wlb (hd := rfl); (first | exact q_box rfl rfl rfl | exact q_alloc); (exact gy0); rfl) | refine wln ⟨_, rfl, rfl⟩ rfl ?_ | refine wlnu ⟨_, rfl, rfl⟩ rfl ?_ | refine wst rfl rfl rfl List.not_mem_nil rfl rfl rfl rfl rfl rfl ?_ | refine W_seq ?_ | refine W_condT rfl ?_ | refine W_condF rfl ?_ | refine W_region ?_ | refine W_skip ?_ | refine W_ret ?_ | refine W_block ?_ | refine W_exit ?_))
      refine ⟨resA_tmp rfl rfl, ?_⟩
      simp [mkR]
theorem markLoadS_no (k : Int) : CallOk Tryz.prog 49 [.sl 3 [], vi k] (fun r => r = vi k) := by
  refine callOk Tryz.func49 Tryz.ntmps49 Tryz.results49 rfl rfl rfl fun B w0 M I0 V0 => ?_
  (repeat (first | refine WL_nil ?_ | (apply wl0 (hd := rfl); (first | exact qv0 | exact QV_bne Tryz.underlying4 rfl rfl | exact QV_beq Tryz.underlying4 rfl rfl | exact qv1); (exact gy0)) | (apply wlb (hd := rfl); (first | exact q_box rfl rfl rfl | exact q_alloc); (exact gy0); rfl) | refine wln ⟨_, rfl, rfl⟩ rfl ?_ | refine wlnu ⟨_, rfl, rfl⟩ rfl ?_ | refine wst rfl rfl rfl List.not_mem_nil rfl rfl rfl rfl rfl rfl ?_ | refine W_seq ?_ | refine W_condT rfl ?_ | refine W_condF rfl ?_ | refine W_region ?_ | refine W_skip ?_ | refine W_ret ?_ | refine W_block ?_ | refine W_exit ?_))
  refine W_loop (fun n s => n = 0 ∧ s = ⟨[(0, .sl 3 []), (1, vi k), (5, vi 0)], [], []⟩) ⟨_, _, ⟨rfl, rfl⟩, wkA⟩ ?_
  rintro n s ⟨rfl, rfl⟩
  (repeat (first | refine WL_nil ?_ | (apply wl0 (hd := rfl); (first | exact qv0 | exact QV_bne Tryz.underlying4 rfl rfl | exact QV_beq Tryz.underlying4 rfl rfl | exact qv1); (exact gy0)) | (apply wlb (hd := rfl); (first | exact q_box rfl rfl rfl | exact q_alloc); (exact gy0); rfl) | refine wln ⟨_, rfl, rfl⟩ rfl ?_ | refine wlnu ⟨_, rfl, rfl⟩ rfl ?_ | refine wst rfl rfl rfl List.not_mem_nil rfl rfl rfl rfl rfl rfl ?_ | refine W_seq ?_ | refine W_condT rfl ?_ | refine W_condF rfl ?_ | refine W_region ?_ | refine W_skip ?_ | refine W_ret ?_ | refine W_block ?_ | refine W_exit ?_))
  refine Exists.intro _ ⟨Weak.refl _, Exists.intro _ ⟨resA_tmp rfl rfl, ?_, rfl⟩⟩
  rfl

theorem markArch_ok (l : List Jt) (k : Int) (hn : l.length ≤ 1048576) (hk : 0 ≤ k ∧ k ≤ 1099511627776) : CallMark Tryz.prog 48 79 4 [.agg [.arr 1000000 79 4 l.length], vi k] (l.map Jt.row) ((mks markJoint k l.length).map Jt.row) (.int .i64 (k + 4 * l.length)) := by
  have hm := markJointS_ok l k hn hk
  refine callMark Tryz.func48 Tryz.ntmps48 Tryz.results48 rfl rfl rfl fun B w0 b more V0 hmore => ?_
  (repeat (first | refine WL_nil ?_ | (apply wl0 (hd := rfl); (first | exact qv0 | exact QV_bne Tryz.underlying4 rfl rfl | exact QV_beq Tryz.underlying4 rfl rfl | exact qv1); (exact gy0)) | (apply wlb (hd := rfl); (first | exact q_box rfl rfl rfl | exact q_alloc); (exact gy0); rfl) | refine wln ⟨_, rfl, rfl⟩ rfl ?_ | refine wlnu ⟨_, rfl, rfl⟩ rfl ?_ | refine wst rfl rfl rfl List.not_mem_nil rfl rfl rfl rfl rfl rfl ?_ | refine wlm hm (b := b) (more := more) ⟨rfl, rfl, rfl⟩ hmore rfl (MkAs.cons MkA.arr (MkAs.cons MkA.v MkAs.nil)) rfl (map_plain plainJoint _) (map_plain plainJoint _) rfl List.not_mem_nil rfl ?_ | refine W_seq ?_ | refine W_condT rfl ?_ | refine W_condF rfl ?_ | refine W_region ?_ | refine W_skip ?_ | refine W_ret ?_ | refine W_block ?_ | refine W_exit ?_))
  refine ⟨resA_tmp rfl rfl, ?_⟩
  simp
theorem markArch_no (k : Int) : CallOk Tryz.prog 48 [.agg [.sl 4 []], vi k] (fun r => r = vi k) := by
  refine callOk Tryz.func48 Tryz.ntmps48 Tryz.results48 rfl rfl rfl fun B w0 M I0 V0 => ?_
  (repeat (first | refine WL_nil ?_ | (apply wl0 (hd := rfl); (first | exact qv0 | exact QV_bne Tryz.underlying4 rfl rfl | exact QV_beq Tryz.underlying4 rfl rfl | exact qv1 | exact q_callA (markJointS_no k)); (exact gy0)) | (apply wlb (hd := rfl); (first | exact q_box rfl rfl rfl | exact q_alloc); (exact gy0); rfl) | refine wln ⟨_, rfl, rfl⟩ rfl ?_ | refine wlnu ⟨_, rfl, rfl⟩ rfl ?_ | refine wst rfl rfl rfl List.not_mem_nil rfl rfl rfl rfl rfl rfl ?_ | refine W_seq ?_ | refine W_condT rfl ?_ | refine W_condF rfl ?_ | refine W_region ?_ | refine W_skip ?_ | refine W_ret ?_ | refine W_block ?_ | refine W_exit ?_))
  refine Exists.intro _ ⟨Weak.refl _, Exists.intro _ ⟨resA_tmp rfl rfl, ?_, rfl⟩⟩
  rfl
end Go.Proofs.YtkieepmkcaipaaaGreat
