/- Joints and arches: StoneBetween, ArchOk, CountStones, both ways. -/
import Derived.Test.YtkaffcdjhbaifaaGreatYASt
import Derived.Test.YtkaffcdjhbaifaaGreatZ2
import Derived.Test.YtkaffcdjhbaifaaGreatYG1
import Derived.Test.YtkaffcdjhbaifaaGreatZ6
import Derived.Test.YtkaffcdjhbaifaaGreatZ3
namespace Go.Eng
open Go
section
variable {E : En} {bl : List (Nat × List AV)} {tm : List (Nat × AV)} {d : Option Tmp} {ty : TypeId} {pos : String} {af : Array Edge} {gd : Option (Nat × Bool)}
theorem q_buildSlice {t len : Nat} {ps : Array (Nat × Operand)} {T e by_ : Nat} {z : List Value} {fl rows : List AV} {out : List (List AV)} (n : Nat) [hs : ZSlOk E.P t T e by_ z]
    (h : buildO (fun i => some (i * e, e)) tm (List.replicate len (z.map AV.v)).flatten ps.toList = some fl) (hl : Nat.ble (len * e) 1048576 = true) (hd : fl.map toD = rows) (hr : chunk e len rows = out) :
    QV E bl tm ⟨d, .buildSlice t len ps, ty, pos, af, gd⟩ (.own n T e out) [] [n] := by
  subst hd; subst hr
  exact QV_buildSlice n (buildO_eq h) (Nat.le_of_ble_eq_true hl)
end
end Go.Eng
namespace Go.Proofs.YtkaffcdjhbaifaaGreat
open Go.Eng
set_option maxRecDepth 100000
attribute [local irreducible] QV TV WL HW W CallOk Weak

def quad (a b : Jt) : List Pt := [a.i, b.i, b.o, a.o]
theorem quad_len (a b : Jt) : (quad a b).length ≤ 1048576 := by simp [quad]
def betw (a b : Jt) : AV := .tup [.agg [.own 15 80 2 ((quad a b).map Pt.row)], vb true]
def noBetw : AV := .tup [.agg [.v (.slice none 0 0)], vb false]
theorem stoneBetween_ok (a b : Jt) (h : stoneB (quad a b) = true) : CallOk Tryz.prog 41 [a.av, b.av] (fun r => r = betw a b) := by
  have hs := stoneOk_ok (quad a b) (quad_len a b)
  rw [h] at hs
  refine callOk Tryz.func41 Tryz.ntmps41 Tryz.results41 rfl rfl rfl fun B w0 I0 => ?_
  (repeat (first | refine WL_nil ?_ | (apply wl0 (hd := rfl); (first | exact qv9 | exact q_callA (hs)); (exact gy0)) | (apply wlb (hd := rfl); exact qbx; (exact gy0); rfl) | refine wln ⟨_, rfl, rfl⟩ rfl ?_ | refine wlnu ⟨_, rfl, rfl⟩ rfl ?_ | (apply wln1 (hd := rfl); exact q_buildSlice 15 rfl rfl rfl rfl; (exact gy0); rfl) | refine wst rfl rfl rfl List.not_mem_nil rfl rfl rfl rfl rfl rfl ?_ | refine W_condT rfl ?_ | refine W_condF rfl ?_ | refine W_region ?_ | refine wN rfl ?_))
  refine Exists.intro _ ⟨Weak.refl _, Exists.intro _ ⟨resA_cell rfl rfl rfl (resA_tmp rfl rfl), ?_, rfl⟩⟩
  rfl
theorem stoneBetween_no (a b : Jt) (h : stoneB (quad a b) = false) : CallOk Tryz.prog 41 [a.av, b.av] (fun r => r = noBetw) := by
  have hs := stoneOk_ok (quad a b) (quad_len a b)
  rw [h] at hs
  refine callOk Tryz.func41 Tryz.ntmps41 Tryz.results41 rfl rfl rfl fun B w0 I0 => ?_
  (repeat (first | refine WL_nil ?_ | (apply wl0 (hd := rfl); (first | exact qv9 | exact q_callA (hs)); (exact gy0)) | (apply wlb (hd := rfl); exact qbx; (exact gy0); rfl) | refine wln ⟨_, rfl, rfl⟩ rfl ?_ | refine wlnu ⟨_, rfl, rfl⟩ rfl ?_ | (apply wln1 (hd := rfl); exact q_buildSlice 15 rfl rfl rfl rfl; (exact gy0); rfl) | refine wst rfl rfl rfl List.not_mem_nil rfl rfl rfl rfl rfl rfl ?_ | refine W_condT rfl ?_ | refine W_condF rfl ?_ | refine W_region ?_ | refine wN rfl ?_))
  refine Exists.intro _ ⟨Weak.refl _, Exists.intro _ ⟨resA_cell rfl rfl rfl (resA_tmp rfl rfl), ?_, rfl⟩⟩
  rfl
theorem implStoneBetween_ok (a b : Jt) (h : stoneB (quad a b) = true) : CallOk Tryz.prog 44 [a.av, b.av] (fun r => r = betw a b) := by
  have hs := implStoneOk_ok (quad a b) (quad_len a b)
  rw [h] at hs
  refine callOk Tryz.func44 Tryz.ntmps44 Tryz.results44 rfl rfl rfl fun B w0 I0 => ?_
  (repeat (first | refine WL_nil ?_ | (apply wl0 (hd := rfl); (first | exact qv9 | exact q_callA (hs)); (exact gy0)) | (apply wlb (hd := rfl); exact qbx; (exact gy0); rfl) | refine wln ⟨_, rfl, rfl⟩ rfl ?_ | refine wlnu ⟨_, rfl, rfl⟩ rfl ?_ | (apply wln1 (hd := rfl); exact q_buildSlice 15 rfl rfl rfl rfl; (exact gy0); rfl) | refine wst rfl rfl rfl List.not_mem_nil rfl rfl rfl rfl rfl rfl ?_ | refine W_condT rfl ?_ | refine W_condF rfl ?_ | refine W_region ?_ | refine wN rfl ?_))
  refine Exists.intro _ ⟨Weak.refl _, Exists.intro _ ⟨resA_cell rfl rfl rfl (resA_tmp rfl rfl), ?_, rfl⟩⟩
  rfl
theorem implStoneBetween_no (a b : Jt) (h : stoneB (quad a b) = false) : CallOk Tryz.prog 44 [a.av, b.av] (fun r => r = noBetw) := by
  have hs := implStoneOk_ok (quad a b) (quad_len a b)
  rw [h] at hs
  refine callOk Tryz.func44 Tryz.ntmps44 Tryz.results44 rfl rfl rfl fun B w0 I0 => ?_
  (repeat (first | refine WL_nil ?_ | (apply wl0 (hd := rfl); (first | exact qv9 | exact q_callA (hs)); (exact gy0)) | (apply wlb (hd := rfl); exact qbx; (exact gy0); rfl) | refine wln ⟨_, rfl, rfl⟩ rfl ?_ | refine wlnu ⟨_, rfl, rfl⟩ rfl ?_ | (apply wln1 (hd := rfl); exact q_buildSlice 15 rfl rfl rfl rfl; (exact gy0); rfl) | refine wst rfl rfl rfl List.not_mem_nil rfl rfl rfl rfl rfl rfl ?_ | refine W_condT rfl ?_ | refine W_condF rfl ?_ | refine W_region ?_ | refine wN rfl ?_))
  refine Exists.intro _ ⟨Weak.refl _, Exists.intro _ ⟨resA_cell rfl rfl rfl (resA_tmp rfl rfl), ?_, rfl⟩⟩
  rfl
end Go.Proofs.YtkaffcdjhbaifaaGreat

namespace Go.Proofs.YtkaffcdjhbaifaaGreat
open Go.Eng
set_option maxRecDepth 100000
attribute [local irreducible] QV TV WL HW W CallOk Weak

def jat (l : List Jt) (i : Nat) : Jt := l.getD i ⟨⟨0, 0⟩, ⟨0, 0⟩⟩
theorem jat_lt {l : List Jt} {i : Nat} (h : i < l.length) : l[i]? = some (jat l i) := by
  simp [jat, h]
theorem pred_at (i : Nat) : ((i + 1 : Nat) : Int) - 1 = ((i : Nat) : Int) := by omega
def stepB (l : List Jt) (i : Nat) : Bool := stoneB (quad (jat l i) (jat l (i + 1))) && decide ((jat l i).i.x < (jat l (i + 1)).i.x)
def archB (l : List Jt) : Bool := inR l.length 3 8 && (List.range (l.length - 1)).all (stepB l)
theorem arch_false {l : List Jt} {i : Nat} (hi : i + 1 < l.length) (h : stepB l i = false) : archB l = false := by
  unfold archB
  rw [all_range_false (by omega) h, Bool.and_false]
theorem arch_len {l : List Jt} (h : archB l = true) : 3 ≤ l.length ∧ l.length ≤ 8 := by
  simp only [archB, Bool.and_eq_true] at h
  have := inR_true.1 h.1
  omega
theorem archOk_ok (l : List Jt) (hn : l.length ≤ 1048576) : CallOk Tryz.prog 22 [.agg [slJt l]] (fun r => r = vb (archB l)) := by
  refine callOk Tryz.func22 Tryz.ntmps22 Tryz.results22 rfl rfl rfl fun B w0 I0 => ?_
  (repeat (first | refine WL_nil ?_ | (apply wl0 (hd := rfl); (first | exact qv9); (exact gy0)) | (apply wlb (hd := rfl); exact qbx; (exact gy0); rfl) | refine wln ⟨_, rfl, rfl⟩ rfl ?_ | refine wlnu ⟨_, rfl, rfl⟩ rfl ?_ | refine wst rfl rfl rfl List.not_mem_nil rfl rfl rfl rfl rfl rfl ?_ | refine W_condT rfl ?_ | refine W_condF rfl ?_ | refine W_region ?_ | refine wN rfl ?_))
  refine W_loop (fun n s => ∃ i : Nat, i ≤ l.length - 1 ∧ n = l.length - 1 - i ∧ (List.range i).all (stepB l) = true ∧ s = ⟨[(1, .ptr 1 0), (3, vi (i + 1 : Nat))], [(1, [slJt l])], []⟩) ⟨_, _, ⟨0, by omega, rfl, rfl, rfl⟩, wkA⟩ ?_
  rintro n s ⟨i, hi, rfl, hall, rfl⟩
  by_cases hlt : i + 1 < l.length
  · have hp := jat_lt (show i < l.length by omega)
    have hq := jat_lt hlt
    (repeat (first | refine WL_nil ?_ | (apply wl0 (hd := rfl); (first | exact qv9); (exact gy0)) | (apply wlb (hd := rfl); exact qbx; (exact gy0); rfl) | refine wln ⟨_, rfl, rfl⟩ rfl ?_ | refine wlnu ⟨_, rfl, rfl⟩ rfl ?_ | refine wst rfl rfl rfl List.not_mem_nil rfl rfl rfl rfl rfl rfl ?_ | refine W_condT rfl ?_ | refine W_condF rfl ?_ | refine W_region ?_ | refine wN rfl ?_))
    (refine W_cond rfl (fun hc => ?_) (fun hc => ?_))
    · cases hst : stoneB (quad (jat l i) (jat l (i + 1)))
      · have hs := stoneBetween_no _ _ hst
        (repeat (first | refine WL_nil ?_ | (apply wl0 (hd := rfl); (first | exact qv9); (exact gy0)) | (apply wlb (hd := rfl); exact qbx; (exact gy0); rfl) | refine wln ⟨_, rfl, rfl⟩ rfl ?_ | refine wlnu ⟨_, rfl, rfl⟩ rfl ?_ | refine wst rfl rfl rfl List.not_mem_nil rfl rfl rfl rfl rfl rfl ?_ | refine W_condT rfl ?_ | refine W_condF rfl ?_ | refine W_region ?_ | refine wN rfl ?_))
        refine wdraw 18 (by kernel_rfl) (by kernel_rfl) (by kernel_rfl) rfl ?_
        (repeat (first | refine HW_nil ?_ | (apply hw0 (hd := rfl); (first | exact qv9 | exact QV_indexAddr rfl rfl rfl (pred_at i) (row_at hp) | exact QV_indexAddr rfl rfl rfl rfl (row_at hq) | exact q_callA (hs)); (exact gy0)) | (apply hwb (hd := rfl); (first | exact q_box rfl rfl rfl | exact q_allocT rfl); (exact gy0); rfl) | refine hwn ⟨_, rfl, rfl⟩ rfl ?_ | refine hwnu ⟨_, rfl, rfl⟩ rfl ?_ | refine hwi rfl rfl List.not_mem_nil rfl rfl rfl rfl rfl ?_))
        (repeat (first | refine WL_nil ?_ | (apply wl0 (hd := rfl); (first | exact qv9); (exact gy0)) | (apply wlb (hd := rfl); exact qbx; (exact gy0); rfl) | refine wln ⟨_, rfl, rfl⟩ rfl ?_ | refine wlnu ⟨_, rfl, rfl⟩ rfl ?_ | refine wst rfl rfl rfl List.not_mem_nil rfl rfl rfl rfl rfl rfl ?_ | refine W_condT rfl ?_ | refine W_condF rfl ?_ | refine W_region ?_ | refine wN rfl ?_))
        refine wdraw 20 (by kernel_rfl) (by kernel_rfl) (by kernel_rfl) rfl ?_
        (repeat (first | refine HW_nil ?_ | (apply hw0 (hd := rfl); (first | exact qv9); (exact gy0)) | (apply hwb (hd := rfl); exact qbx; (exact gy0); rfl) | refine hwn ⟨_, rfl, rfl⟩ rfl ?_ | refine hwnu ⟨_, rfl, rfl⟩ rfl ?_))
        (repeat (first | refine WL_nil ?_ | (apply wl0 (hd := rfl); (first | exact qv9); (exact gy0)) | (apply wlb (hd := rfl); exact qbx; (exact gy0); rfl) | refine wln ⟨_, rfl, rfl⟩ rfl ?_ | refine wlnu ⟨_, rfl, rfl⟩ rfl ?_ | refine wst rfl rfl rfl List.not_mem_nil rfl rfl rfl rfl rfl rfl ?_ | refine W_condT rfl ?_ | refine W_condF rfl ?_ | refine W_region ?_ | refine wN rfl ?_))
        refine Exists.intro _ ⟨Weak.refl _, Exists.intro _ ⟨resA_tmp rfl rfl, ?_, rfl⟩⟩
        exact vb_eq (arch_false hlt (by simp [stepB, hst])).symm
      · have hs := stoneBetween_ok _ _ hst
        (repeat (first | refine WL_nil ?_ | (apply wl0 (hd := rfl); (first | exact qv9); (exact gy0)) | (apply wlb (hd := rfl); exact qbx; (exact gy0); rfl) | refine wln ⟨_, rfl, rfl⟩ rfl ?_ | refine wlnu ⟨_, rfl, rfl⟩ rfl ?_ | refine wst rfl rfl rfl List.not_mem_nil rfl rfl rfl rfl rfl rfl ?_ | refine W_condT rfl ?_ | refine W_condF rfl ?_ | refine W_region ?_ | refine wN rfl ?_))
        refine wdraw 18 (by kernel_rfl) (by kernel_rfl) (by kernel_rfl) rfl ?_
        (repeat (first | refine HW_nil ?_ | (apply hw0 (hd := rfl); (first | exact qv9 | exact QV_indexAddr rfl rfl rfl (pred_at i) (row_at hp) | exact QV_indexAddr rfl rfl rfl rfl (row_at hq)); (exact gy0)) | (apply hwb (hd := rfl); (first | exact q_box rfl rfl rfl | exact q_allocT rfl); (exact gy0); rfl) | refine hwn ⟨_, rfl, rfl⟩ rfl ?_ | refine hwnu ⟨_, rfl, rfl⟩ rfl ?_ | (apply hwn1 (hd := rfl); exact q_call1A 20 15 (hs); (exact gy0); rfl) | refine hwi rfl rfl List.not_mem_nil rfl rfl rfl rfl rfl ?_))
        (repeat (first | refine WL_nil ?_ | (apply wl0 (hd := rfl); (first | exact qv9); (exact gy0)) | (apply wlb (hd := rfl); exact qbx; (exact gy0); rfl) | refine wln ⟨_, rfl, rfl⟩ rfl ?_ | refine wlnu ⟨_, rfl, rfl⟩ rfl ?_ | refine wst rfl rfl rfl List.not_mem_nil rfl rfl rfl rfl rfl rfl ?_ | refine W_condT rfl ?_ | refine W_condF rfl ?_ | refine W_region ?_ | refine wN rfl ?_))
        refine wdraw 20 (by kernel_rfl) (by kernel_rfl) (by kernel_rfl) rfl ?_
        (repeat (first | refine HW_nil ?_ | (apply hw0 (hd := rfl); (first | exact qv9 | exact QV_indexAddr rfl rfl rfl (pred_at i) (row_at hp) | exact QV_indexAddr rfl rfl rfl rfl (row_at hq)); (exact gy0)) | (apply hwb (hd := rfl); exact qbx; (exact gy0); rfl) | refine hwn ⟨_, rfl, rfl⟩ rfl ?_ | refine hwnu ⟨_, rfl, rfl⟩ rfl ?_))
        (repeat (first | refine WL_nil ?_ | (apply wl0 (hd := rfl); (first | exact qv9); (exact gy0)) | (apply wlb (hd := rfl); exact qbx; (exact gy0); rfl) | refine wln ⟨_, rfl, rfl⟩ rfl ?_ | refine wlnu ⟨_, rfl, rfl⟩ rfl ?_ | refine wst rfl rfl rfl List.not_mem_nil rfl rfl rfl rfl rfl rfl ?_ | refine W_condT rfl ?_ | refine W_condF rfl ?_ | refine W_region ?_ | refine wN rfl ?_))
        (refine W_cond rfl (fun hc => ?_) (fun hc => ?_))
        · (repeat (first | refine WL_nil ?_ | (apply wl0 (hd := rfl); (first | exact qv9); (exact gy0)) | (apply wlb (hd := rfl); exact qbx; (exact gy0); rfl) | refine wln ⟨_, rfl, rfl⟩ rfl ?_ | refine wlnu ⟨_, rfl, rfl⟩ rfl ?_ | refine wst rfl rfl rfl List.not_mem_nil rfl rfl rfl rfl rfl rfl ?_ | refine W_condT rfl ?_ | refine W_condF rfl ?_ | refine W_region ?_ | refine wN rfl ?_))
          refine Exists.intro _ ⟨Weak.refl _, Exists.intro _ ⟨resA_tmp rfl rfl, ?_, rfl⟩⟩
          exact vb_eq (arch_false hlt (by simp [stepB, hst]; simp at hc; omega)).symm
        · (repeat (first | refine WL_nil ?_ | (apply wl0 (hd := rfl); (first | exact qv9); (exact gy0)) | (apply wlb (hd := rfl); exact qbx; (exact gy0); rfl) | refine wln ⟨_, rfl, rfl⟩ rfl ?_ | refine wlnu ⟨_, rfl, rfl⟩ rfl ?_ | refine wst rfl rfl rfl List.not_mem_nil rfl rfl rfl rfl rfl rfl ?_ | refine W_condT rfl ?_ | refine W_condF rfl ?_ | refine W_region ?_ | refine wN rfl ?_))
          refine Exists.intro _ (Exists.intro _ ⟨?_, ⟨i + 1, by omega, rfl, by rw [all_range_succ, hall]; simp [stepB, hst]; simp at hc; omega, rfl⟩, wkA⟩)
          omega
    · simp at hc; omega
  · (repeat (first | refine WL_nil ?_ | (apply wl0 (hd := rfl); (first | exact qv9); (exact gy0)) | (apply wlb (hd := rfl); exact qbx; (exact gy0); rfl) | refine wln ⟨_, rfl, rfl⟩ rfl ?_ | refine wlnu ⟨_, rfl, rfl⟩ rfl ?_ | refine wst rfl rfl rfl List.not_mem_nil rfl rfl rfl rfl rfl rfl ?_ | refine W_condT rfl ?_ | refine W_condF rfl ?_ | refine W_region ?_ | refine wN rfl ?_))
    (refine W_cond rfl (fun hc => ?_) (fun hc => ?_))
    · simp at hc; omega
    · (repeat (first | refine WL_nil ?_ | (apply wl0 (hd := rfl); (first | exact qv9 | exact q_callA (l01In_ok _ _ _)); (exact gy0)) | (apply wlb (hd := rfl); exact qbx; (exact gy0); rfl) | refine wln ⟨_, rfl, rfl⟩ rfl ?_ | refine wlnu ⟨_, rfl, rfl⟩ rfl ?_ | refine wst rfl rfl rfl List.not_mem_nil rfl rfl rfl rfl rfl rfl ?_ | refine W_condT rfl ?_ | refine W_condF rfl ?_ | refine W_region ?_ | refine wN rfl ?_))
      refine Exists.intro _ ⟨Weak.refl _, Exists.intro _ ⟨resA_tmp rfl rfl, ?_, rfl⟩⟩
      have : i = l.length - 1 := by omega
      subst this
      exact vb_eq (by simp [archB, hall])
theorem implArchOk_ok (l : List Jt) (hn : l.length ≤ 1048576) : CallOk Tryz.prog 24 [.agg [slJt l]] (fun r => r = vb (archB l)) := by
  have hw := within_ok l.length 3 8
  refine callOk Tryz.func24 Tryz.ntmps24 Tryz.results24 rfl rfl rfl fun B w0 I0 => ?_
  cases hin : inR l.length 3 8
  · rw [hin] at hw
    (repeat (first | refine WL_nil ?_ | (apply wl0 (hd := rfl); (first | exact qv9 | exact q_callA (hw)); (exact gy0)) | (apply wlb (hd := rfl); exact qbx; (exact gy0); rfl) | refine wln ⟨_, rfl, rfl⟩ rfl ?_ | refine wlnu ⟨_, rfl, rfl⟩ rfl ?_ | refine wst rfl rfl rfl List.not_mem_nil rfl rfl rfl rfl rfl rfl ?_ | refine W_condT rfl ?_ | refine W_condF rfl ?_ | refine W_region ?_ | refine wN rfl ?_))
    refine Exists.intro _ ⟨Weak.refl _, Exists.intro _ ⟨resA_tmp rfl rfl, ?_, rfl⟩⟩
    exact vb_eq (by simp [archB, hin])
  · rw [hin] at hw
    (repeat (first | refine WL_nil ?_ | (apply wl0 (hd := rfl); (first | exact qv9 | exact q_callA (hw)); (exact gy0)) | (apply wlb (hd := rfl); exact qbx; (exact gy0); rfl) | refine wln ⟨_, rfl, rfl⟩ rfl ?_ | refine wlnu ⟨_, rfl, rfl⟩ rfl ?_ | refine wst rfl rfl rfl List.not_mem_nil rfl rfl rfl rfl rfl rfl ?_ | refine W_condT rfl ?_ | refine W_condF rfl ?_ | refine W_region ?_ | refine wN rfl ?_))
    refine W_loop (fun n s => ∃ i : Nat, i ≤ l.length - 1 ∧ n = l.length - 1 - i ∧ (List.range i).all (stepB l) = true ∧ s = ⟨[(1, .ptr 1 0), (3, vi (i + 1 : Nat))], [(1, [slJt l])], []⟩) ⟨_, _, ⟨0, by omega, rfl, rfl, rfl⟩, wkA⟩ ?_
    rintro n s ⟨i, hi, rfl, hall, rfl⟩
    by_cases hlt : i + 1 < l.length
    · have hp := jat_lt (show i < l.length by omega)
      have hq := jat_lt hlt
      (repeat (first | refine WL_nil ?_ | (apply wl0 (hd := rfl); (first | exact qv9); (exact gy0)) | (apply wlb (hd := rfl); exact qbx; (exact gy0); rfl) | refine wln ⟨_, rfl, rfl⟩ rfl ?_ | refine wlnu ⟨_, rfl, rfl⟩ rfl ?_ | refine wst rfl rfl rfl List.not_mem_nil rfl rfl rfl rfl rfl rfl ?_ | refine W_condT rfl ?_ | refine W_condF rfl ?_ | refine W_region ?_ | refine wN rfl ?_))
      (refine W_cond rfl (fun hc => ?_) (fun hc => ?_))
      · cases hst : stoneB (quad (jat l i) (jat l (i + 1)))
        · have hs := implStoneBetween_no _ _ hst
          (repeat (first | refine WL_nil ?_ | (apply wl0 (hd := rfl); (first | exact qv9); (exact gy0)) | (apply wlb (hd := rfl); exact qbx; (exact gy0); rfl) | refine wln ⟨_, rfl, rfl⟩ rfl ?_ | refine wlnu ⟨_, rfl, rfl⟩ rfl ?_ | refine wst rfl rfl rfl List.not_mem_nil rfl rfl rfl rfl rfl rfl ?_ | refine W_condT rfl ?_ | refine W_condF rfl ?_ | refine W_region ?_ | refine wN rfl ?_))
          refine wdraw 18 (by kernel_rfl) (by kernel_rfl) (by kernel_rfl) rfl ?_
          (repeat (first | refine HW_nil ?_ | (apply hw0 (hd := rfl); (first | exact qv9 | exact QV_indexAddr rfl rfl rfl (pred_at i) (row_at hp) | exact QV_indexAddr rfl rfl rfl rfl (row_at hq) | exact q_callA (hs)); (exact gy0)) | (apply hwb (hd := rfl); (first | exact q_box rfl rfl rfl | exact q_allocT rfl); (exact gy0); rfl) | refine hwn ⟨_, rfl, rfl⟩ rfl ?_ | refine hwnu ⟨_, rfl, rfl⟩ rfl ?_ | refine hwi rfl rfl List.not_mem_nil rfl rfl rfl rfl rfl ?_))
          (repeat (first | refine WL_nil ?_ | (apply wl0 (hd := rfl); (first | exact qv9); (exact gy0)) | (apply wlb (hd := rfl); exact qbx; (exact gy0); rfl) | refine wln ⟨_, rfl, rfl⟩ rfl ?_ | refine wlnu ⟨_, rfl, rfl⟩ rfl ?_ | refine wst rfl rfl rfl List.not_mem_nil rfl rfl rfl rfl rfl rfl ?_ | refine W_condT rfl ?_ | refine W_condF rfl ?_ | refine W_region ?_ | refine wN rfl ?_))
          refine wdraw 20 (by kernel_rfl) (by kernel_rfl) (by kernel_rfl) rfl ?_
          (repeat (first | refine HW_nil ?_ | (apply hw0 (hd := rfl); (first | exact qv9); (exact gy0)) | (apply hwb (hd := rfl); exact qbx; (exact gy0); rfl) | refine hwn ⟨_, rfl, rfl⟩ rfl ?_ | refine hwnu ⟨_, rfl, rfl⟩ rfl ?_))
          (repeat (first | refine WL_nil ?_ | (apply wl0 (hd := rfl); (first | exact qv9); (exact gy0)) | (apply wlb (hd := rfl); exact qbx; (exact gy0); rfl) | refine wln ⟨_, rfl, rfl⟩ rfl ?_ | refine wlnu ⟨_, rfl, rfl⟩ rfl ?_ | refine wst rfl rfl rfl List.not_mem_nil rfl rfl rfl rfl rfl rfl ?_ | refine W_condT rfl ?_ | refine W_condF rfl ?_ | refine W_region ?_ | refine wN rfl ?_))
          refine Exists.intro _ ⟨Weak.refl _, Exists.intro _ ⟨resA_tmp rfl rfl, ?_, rfl⟩⟩
          exact vb_eq (arch_false hlt (by simp [stepB, hst])).symm
        · have hs := implStoneBetween_ok _ _ hst
          (repeat (first | refine WL_nil ?_ | (apply wl0 (hd := rfl); (first | exact qv9); (exact gy0)) | (apply wlb (hd := rfl); exact qbx; (exact gy0); rfl) | refine wln ⟨_, rfl, rfl⟩ rfl ?_ | refine wlnu ⟨_, rfl, rfl⟩ rfl ?_ | refine wst rfl rfl rfl List.not_mem_nil rfl rfl rfl rfl rfl rfl ?_ | refine W_condT rfl ?_ | refine W_condF rfl ?_ | refine W_region ?_ | refine wN rfl ?_))
          refine wdraw 18 (by kernel_rfl) (by kernel_rfl) (by kernel_rfl) rfl ?_
          (repeat (first | refine HW_nil ?_ | (apply hw0 (hd := rfl); (first | exact qv9 | exact QV_indexAddr rfl rfl rfl (pred_at i) (row_at hp) | exact QV_indexAddr rfl rfl rfl rfl (row_at hq)); (exact gy0)) | (apply hwb (hd := rfl); (first | exact q_box rfl rfl rfl | exact q_allocT rfl); (exact gy0); rfl) | refine hwn ⟨_, rfl, rfl⟩ rfl ?_ | refine hwnu ⟨_, rfl, rfl⟩ rfl ?_ | (apply hwn1 (hd := rfl); exact q_call1A 20 15 (hs); (exact gy0); rfl) | refine hwi rfl rfl List.not_mem_nil rfl rfl rfl rfl rfl ?_))
          (repeat (first | refine WL_nil ?_ | (apply wl0 (hd := rfl); (first | exact qv9); (exact gy0)) | (apply wlb (hd := rfl); exact qbx; (exact gy0); rfl) | refine wln ⟨_, rfl, rfl⟩ rfl ?_ | refine wlnu ⟨_, rfl, rfl⟩ rfl ?_ | refine wst rfl rfl rfl List.not_mem_nil rfl rfl rfl rfl rfl rfl ?_ | refine W_condT rfl ?_ | refine W_condF rfl ?_ | refine W_region ?_ | refine wN rfl ?_))
          refine wdraw 20 (by kernel_rfl) (by kernel_rfl) (by kernel_rfl) rfl ?_
          (repeat (first | refine HW_nil ?_ | (apply hw0 (hd := rfl); (first | exact qv9 | exact QV_indexAddr rfl rfl rfl (pred_at i) (row_at hp) | exact QV_indexAddr rfl rfl rfl rfl (row_at hq)); (exact gy0)) | (apply hwb (hd := rfl); exact qbx; (exact gy0); rfl) | refine hwn ⟨_, rfl, rfl⟩ rfl ?_ | refine hwnu ⟨_, rfl, rfl⟩ rfl ?_))
          (repeat (first | refine WL_nil ?_ | (apply wl0 (hd := rfl); (first | exact qv9); (exact gy0)) | (apply wlb (hd := rfl); exact qbx; (exact gy0); rfl) | refine wln ⟨_, rfl, rfl⟩ rfl ?_ | refine wlnu ⟨_, rfl, rfl⟩ rfl ?_ | refine wst rfl rfl rfl List.not_mem_nil rfl rfl rfl rfl rfl rfl ?_ | refine W_condT rfl ?_ | refine W_condF rfl ?_ | refine W_region ?_ | refine wN rfl ?_))
          (refine W_cond rfl (fun hc => ?_) (fun hc => ?_))
          · (repeat (first | refine WL_nil ?_ | (apply wl0 (hd := rfl); (first | exact qv9); (exact gy0)) | (apply wlb (hd := rfl); exact qbx; (exact gy0); rfl) | refine wln ⟨_, rfl, rfl⟩ rfl ?_ | refine wlnu ⟨_, rfl, rfl⟩ rfl ?_ | refine wst rfl rfl rfl List.not_mem_nil rfl rfl rfl rfl rfl rfl ?_ | refine W_condT rfl ?_ | refine W_condF rfl ?_ | refine W_region ?_ | refine wN rfl ?_))
            refine Exists.intro _ ⟨Weak.refl _, Exists.intro _ ⟨resA_tmp rfl rfl, ?_, rfl⟩⟩
            exact vb_eq (arch_false hlt (by simp [stepB, hst]; simp at hc; omega)).symm
          · (repeat (first | refine WL_nil ?_ | (apply wl0 (hd := rfl); (first | exact qv9); (exact gy0)) | (apply wlb (hd := rfl); exact qbx; (exact gy0); rfl) | refine wln ⟨_, rfl, rfl⟩ rfl ?_ | refine wlnu ⟨_, rfl, rfl⟩ rfl ?_ | refine wst rfl rfl rfl List.not_mem_nil rfl rfl rfl rfl rfl rfl ?_ | refine W_condT rfl ?_ | refine W_condF rfl ?_ | refine W_region ?_ | refine wN rfl ?_))
            refine Exists.intro _ (Exists.intro _ ⟨?_, ⟨i + 1, by omega, rfl, by rw [all_range_succ, hall]; simp [stepB, hst]; simp at hc; omega, rfl⟩, wkA⟩)
            omega
      · simp at hc; omega
    · (repeat (first | refine WL_nil ?_ | (apply wl0 (hd := rfl); (first | exact qv9); (exact gy0)) | (apply wlb (hd := rfl); exact qbx; (exact gy0); rfl) | refine wln ⟨_, rfl, rfl⟩ rfl ?_ | refine wlnu ⟨_, rfl, rfl⟩ rfl ?_ | refine wst rfl rfl rfl List.not_mem_nil rfl rfl rfl rfl rfl rfl ?_ | refine W_condT rfl ?_ | refine W_condF rfl ?_ | refine W_region ?_ | refine wN rfl ?_))
      (refine W_cond rfl (fun hc => ?_) (fun hc => ?_))
      · simp at hc; omega
      · (repeat (first | refine WL_nil ?_ | (apply wl0 (hd := rfl); (first | exact qv9); (exact gy0)) | (apply wlb (hd := rfl); exact qbx; (exact gy0); rfl) | refine wln ⟨_, rfl, rfl⟩ rfl ?_ | refine wlnu ⟨_, rfl, rfl⟩ rfl ?_ | refine wst rfl rfl rfl List.not_mem_nil rfl rfl rfl rfl rfl rfl ?_ | refine W_condT rfl ?_ | refine W_condF rfl ?_ | refine W_region ?_ | refine wN rfl ?_))
        refine Exists.intro _ ⟨Weak.refl _, Exists.intro _ ⟨resA_tmp rfl rfl, ?_, rfl⟩⟩
        have : i = l.length - 1 := by omega
        subst this
        exact vb_eq (by simp [archB, hall, hin])
theorem last_at {n : Nat} (h : 0 < n) : (n : Int) - 1 = ((n - 1 : Nat) : Int) := by omega
end Go.Proofs.YtkaffcdjhbaifaaGreat

namespace Go.Proofs.YtkaffcdjhbaifaaGreat
open Go.Eng
set_option maxRecDepth 100000
attribute [local irreducible] QV TV WL HW W CallOk Weak

def crossW (a b : Pt) : Int := W64 (W64 (a.x * b.y) - W64 (a.y * b.x))
def sumW (f : Nat → Int) : Nat → Int
  | 0 => 0
  | k + 1 => W64 (sumW f k + f k)
def areaW (l : List Pt) : Int := if stoneB l then sumW (fun i => crossW (cor l i) (cor l (i + 1))) l.length else 0
def overW (F : Pt → Pt → Int) (l : List Pt) : Int := if stoneB l then sumW (fun i => W64 (F (cor l i) (cor l (i + 1)) * crossW (cor l i) (cor l (i + 1)))) l.length else 0
def weightW (l : List Pt) : Int := W64 (3 * areaW l)
def momF (a b : Pt) : Int := W64 (a.x + b.x)
theorem w64_idem (n : Int) : W64 (W64 n) = W64 n := by
  refine w64 ?_
  show _ ≤ IntKind.i64.wrap n ∧ IntKind.i64.wrap n ≤ _
  rw [IntKind.wrap_i64]; omega
theorem over_one (l : List Pt) : overW (fun _ _ => 1) l = areaW l := by
  have : ∀ a b : Pt, W64 (1 * crossW a b) = crossW a b := fun a b => by rw [Int.one_mul]; exact w64_idem _
  simp only [overW, areaW, this]
theorem stone_len {l : List Pt} (h : stoneB l = true) : 3 ≤ l.length ∧ l.length ≤ 6 := by
  simp only [stoneB, Bool.and_eq_true] at h
  have := inR_true.1 h.1
  omega

theorem cross_ok (a b : Pt) : CallOk Tryz.prog 98 [a.av, b.av] (fun r => r = vi (crossW a b)) := by
  refine callOk Tryz.func98 Tryz.ntmps98 Tryz.results98 rfl rfl rfl fun B w0 I0 => ?_
  (repeat (first | refine WL_nil ?_ | (apply wl0 (hd := rfl); (first | exact qv9); (exact gy0)) | (apply wlb (hd := rfl); exact qbx; (exact gy0); rfl) | refine wln ⟨_, rfl, rfl⟩ rfl ?_ | refine wlnu ⟨_, rfl, rfl⟩ rfl ?_ | refine wst rfl rfl rfl List.not_mem_nil rfl rfl rfl rfl rfl rfl ?_ | refine W_condT rfl ?_ | refine W_condF rfl ?_ | refine W_region ?_ | refine wN rfl ?_))
  refine Exists.intro _ ⟨Weak.refl _, Exists.intro _ ⟨resA_tmp rfl rfl, ?_, rfl⟩⟩
  rfl
theorem areaTwice_ok (l : List Pt) (hn : l.length ≤ 1048576) : CallOk Tryz.prog 97 [.agg [slPt l]] (fun r => r = vi (areaW l)) := by
  refine callOk Tryz.func97 Tryz.ntmps97 Tryz.results97 rfl rfl rfl fun B w0 I0 => ?_
  (repeat (first | refine WL_nil ?_ | (apply wl0 (hd := rfl); (first | exact qv9); (exact gy0)) | (apply wlb (hd := rfl); exact qbx; (exact gy0); rfl) | refine wln ⟨_, rfl, rfl⟩ rfl ?_ | refine wlnu ⟨_, rfl, rfl⟩ rfl ?_ | refine wst rfl rfl rfl List.not_mem_nil rfl rfl rfl rfl rfl rfl ?_ | refine W_condT rfl ?_ | refine W_condF rfl ?_ | refine W_region ?_ | refine wN rfl ?_))
  refine W_loop (fun n s => ∃ k : Nat, k ≤ l.length ∧ n = l.length - k ∧ (k = 0 ∨ stoneB l = true) ∧ s = ⟨[(1, .ptr 1 0), (3, vi (sumW (fun i => crossW (cor l i) (cor l (i + 1))) k)), (4, vi k)], [(1, [slPt l])], []⟩) ⟨_, _, ⟨0, by omega, rfl, .inl rfl, rfl⟩, wkA⟩ ?_
  rintro n s ⟨k, hk, rfl, hs, rfl⟩
  (repeat (first | refine WL_nil ?_ | (apply wl0 (hd := rfl); (first | exact qv9); (exact gy0)) | (apply wlb (hd := rfl); exact qbx; (exact gy0); rfl) | refine wln ⟨_, rfl, rfl⟩ rfl ?_ | refine wlnu ⟨_, rfl, rfl⟩ rfl ?_ | refine wst rfl rfl rfl List.not_mem_nil rfl rfl rfl rfl rfl rfl ?_ | refine W_condT rfl ?_ | refine W_condF rfl ?_ | refine W_region ?_ | refine wN rfl ?_))
  (refine wls rfl rfl (fun hg => ?_) (fun hg => ?_))
  · have hlt : k < l.length := by simp at hg; omega
    have hp := cor_lt hlt
    have h0 : 0 < l.length := by omega
    have hp1 := cor_at (i := k + 1) h0
    cases hst : stoneB l
    · have hs0 : k = 0 := hs.resolve_right (by simp [hst])
      subst hs0
      have hok := stoneOk_ok l hn
      rw [hst] at hok
      (repeat (first | refine WL_nil ?_ | (apply wl0 (hd := rfl); (first | exact qv9 | exact q_callA (hok)); (exact gy0)) | (apply wlb (hd := rfl); exact qbx; (exact gy0); rfl) | refine wln ⟨_, rfl, rfl⟩ rfl ?_ | refine wlnu ⟨_, rfl, rfl⟩ rfl ?_ | refine wst rfl rfl rfl List.not_mem_nil rfl rfl rfl rfl rfl rfl ?_ | refine W_condT rfl ?_ | refine W_condF rfl ?_ | refine W_region ?_ | refine wN rfl ?_))
      refine Exists.intro _ ⟨Weak.refl _, Exists.intro _ ⟨resA_tmp rfl rfl, ?_, rfl⟩⟩
      exact vi_eq (by simp [areaW, hst, sumW])
    · have hok := stoneOk_ok l hn
      rw [hst] at hok
      (repeat (first | refine WL_nil ?_ | (apply wl0 (hd := rfl); (first | exact qv9 | exact q_callA (hok)); (exact gy0)) | (apply wlb (hd := rfl); exact qbx; (exact gy0); rfl) | refine wln ⟨_, rfl, rfl⟩ rfl ?_ | refine wlnu ⟨_, rfl, rfl⟩ rfl ?_ | refine wst rfl rfl rfl List.not_mem_nil rfl rfl rfl rfl rfl rfl ?_ | refine W_condT rfl ?_ | refine W_condF rfl ?_ | refine W_region ?_ | refine wN rfl ?_))
      refine wdraw 19 (by kernel_rfl) (by kernel_rfl) (by kernel_rfl) rfl ?_
      (repeat (first | refine HW_nil ?_ | (apply hw0 (hd := rfl); (first | exact qv9 | exact q_callA (cross_ok _ _) | exact QV_indexAddr rfl rfl rfl rfl (row_at hp) | exact QV_div rfl rfl (by omega) rfl | exact QV_indexAddr rfl rfl rfl (rem_at k 1 _) (row_at hp1)); (exact gy0)) | (apply hwb (hd := rfl); exact qbx; (exact gy0); rfl) | refine hwn ⟨_, rfl, rfl⟩ rfl ?_ | refine hwnu ⟨_, rfl, rfl⟩ rfl ?_))
      (repeat (first | refine WL_nil ?_ | (apply wl0 (hd := rfl); (first | exact qv9); (exact gy0)) | (apply wlb (hd := rfl); exact qbx; (exact gy0); rfl) | refine wln ⟨_, rfl, rfl⟩ rfl ?_ | refine wlnu ⟨_, rfl, rfl⟩ rfl ?_ | refine wst rfl rfl rfl List.not_mem_nil rfl rfl rfl rfl rfl rfl ?_ | refine W_condT rfl ?_ | refine W_condF rfl ?_ | refine W_region ?_ | refine wN rfl ?_))
      refine Exists.intro _ (Exists.intro _ ⟨?_, ⟨k + 1, by omega, rfl, .inr rfl, rfl⟩, wkA⟩)
      omega
  · have hk' : k = l.length := by simp at hg; omega
    subst hk'
    (repeat (first | refine WL_nil ?_ | (apply wl0 (hd := rfl); (first | exact qv9); (exact gy0)) | (apply wlb (hd := rfl); exact qbx; (exact gy0); rfl) | refine wln ⟨_, rfl, rfl⟩ rfl ?_ | refine wlnu ⟨_, rfl, rfl⟩ rfl ?_ | refine wst rfl rfl rfl List.not_mem_nil rfl rfl rfl rfl rfl rfl ?_ | refine W_condT rfl ?_ | refine W_condF rfl ?_ | refine W_region ?_ | refine wN rfl ?_))
    refine Exists.intro _ ⟨Weak.refl _, Exists.intro _ ⟨resA_tmp rfl rfl, ?_, rfl⟩⟩
    rcases hs with h | h
    · cases hst : stoneB l
      · exact vi_eq (by simp [areaW, hst, h, sumW])
      · have := stone_len hst; omega
    · exact vi_eq (by simp [areaW, h])

theorem specMomentOf_ok (l : List Pt) (hn : l.length ≤ 1048576) : CallOk Tryz.prog 83 [.agg [slPt l]] (fun r => r = vi (overW momF l)) := by
  refine callOk Tryz.func83 Tryz.ntmps83 Tryz.results83 rfl rfl rfl fun B w0 I0 => ?_
  (repeat (first | refine WL_nil ?_ | (apply wl0 (hd := rfl); (first | exact qv9); (exact gy0)) | (apply wlb (hd := rfl); exact qbx; (exact gy0); rfl) | refine wln ⟨_, rfl, rfl⟩ rfl ?_ | refine wlnu ⟨_, rfl, rfl⟩ rfl ?_ | refine wst rfl rfl rfl List.not_mem_nil rfl rfl rfl rfl rfl rfl ?_ | refine W_condT rfl ?_ | refine W_condF rfl ?_ | refine W_region ?_ | refine wN rfl ?_))
  refine W_loop (fun n s => ∃ k : Nat, k ≤ l.length ∧ n = l.length - k ∧ (k = 0 ∨ stoneB l = true) ∧ s = ⟨[(1, .ptr 1 0), (3, vi (sumW (fun i => W64 (momF (cor l i) (cor l (i + 1)) * crossW (cor l i) (cor l (i + 1)))) k)), (4, vi k)], [(1, [slPt l])], []⟩) ⟨_, _, ⟨0, by omega, rfl, .inl rfl, rfl⟩, wkA⟩ ?_
  rintro n s ⟨k, hk, rfl, hs, rfl⟩
  (repeat (first | refine WL_nil ?_ | (apply wl0 (hd := rfl); (first | exact qv9); (exact gy0)) | (apply wlb (hd := rfl); exact qbx; (exact gy0); rfl) | refine wln ⟨_, rfl, rfl⟩ rfl ?_ | refine wlnu ⟨_, rfl, rfl⟩ rfl ?_ | refine wst rfl rfl rfl List.not_mem_nil rfl rfl rfl rfl rfl rfl ?_ | refine W_condT rfl ?_ | refine W_condF rfl ?_ | refine W_region ?_ | refine wN rfl ?_))
  (refine wls rfl rfl (fun hg => ?_) (fun hg => ?_))
  · have hlt : k < l.length := by simp at hg; omega
    have hp := cor_lt hlt
    have h0 : 0 < l.length := by omega
    have hp1 := cor_at (i := k + 1) h0
    cases hst : stoneB l
    · have hs0 : k = 0 := hs.resolve_right (by simp [hst])
      subst hs0
      have hok := stoneOk_ok l hn
      rw [hst] at hok
      (repeat (first | refine WL_nil ?_ | (apply wl0 (hd := rfl); (first | exact qv9 | exact q_callA (hok)); (exact gy0)) | (apply wlb (hd := rfl); exact qbx; (exact gy0); rfl) | refine wln ⟨_, rfl, rfl⟩ rfl ?_ | refine wlnu ⟨_, rfl, rfl⟩ rfl ?_ | refine wst rfl rfl rfl List.not_mem_nil rfl rfl rfl rfl rfl rfl ?_ | refine W_condT rfl ?_ | refine W_condF rfl ?_ | refine W_region ?_ | refine wN rfl ?_))
      refine Exists.intro _ ⟨Weak.refl _, Exists.intro _ ⟨resA_tmp rfl rfl, ?_, rfl⟩⟩
      exact vi_eq (by simp [overW, hst, sumW])
    · have hok := stoneOk_ok l hn
      rw [hst] at hok
      (repeat (first | refine WL_nil ?_ | (apply wl0 (hd := rfl); (first | exact qv9 | exact q_callA (hok) | exact QV_indexAddr rfl rfl rfl rfl (row_at hp)); (exact gy0)) | (apply wlb (hd := rfl); exact qbx; (exact gy0); rfl) | refine wln ⟨_, rfl, rfl⟩ rfl ?_ | refine wlnu ⟨_, rfl, rfl⟩ rfl ?_ | refine wst rfl rfl rfl List.not_mem_nil rfl rfl rfl rfl rfl rfl ?_ | refine W_condT rfl ?_ | refine W_condF rfl ?_ | refine W_region ?_ | refine wN rfl ?_))
      refine wdraw 11 (by kernel_rfl) (by kernel_rfl) (by kernel_rfl) rfl ?_
      (repeat (first | refine HW_nil ?_ | (apply hw0 (hd := rfl); (first | exact qv9 | exact QV_div rfl rfl (by omega) rfl | exact QV_indexAddr rfl rfl rfl (rem_at k 1 _) (row_at hp1)); (exact gy0)) | (apply hwb (hd := rfl); exact qbx; (exact gy0); rfl) | refine hwn ⟨_, rfl, rfl⟩ rfl ?_ | refine hwnu ⟨_, rfl, rfl⟩ rfl ?_))
      (repeat (first | refine WL_nil ?_ | (apply wl0 (hd := rfl); (first | exact qv9); (exact gy0)) | (apply wlb (hd := rfl); exact qbx; (exact gy0); rfl) | refine wln ⟨_, rfl, rfl⟩ rfl ?_ | refine wlnu ⟨_, rfl, rfl⟩ rfl ?_ | refine wst rfl rfl rfl List.not_mem_nil rfl rfl rfl rfl rfl rfl ?_ | refine W_condT rfl ?_ | refine W_condF rfl ?_ | refine W_region ?_ | refine wN rfl ?_))
      refine wdraw 12 (by kernel_rfl) (by kernel_rfl) (by kernel_rfl) rfl ?_
      (repeat (first | refine HW_nil ?_ | (apply hw0 (hd := rfl); (first | exact qv9 | exact q_callA (cross_ok _ _)); (exact gy0)) | (apply hwb (hd := rfl); exact qbx; (exact gy0); rfl) | refine hwn ⟨_, rfl, rfl⟩ rfl ?_ | refine hwnu ⟨_, rfl, rfl⟩ rfl ?_))
      (repeat (first | refine WL_nil ?_ | (apply wl0 (hd := rfl); (first | exact qv9); (exact gy0)) | (apply wlb (hd := rfl); exact qbx; (exact gy0); rfl) | refine wln ⟨_, rfl, rfl⟩ rfl ?_ | refine wlnu ⟨_, rfl, rfl⟩ rfl ?_ | refine wst rfl rfl rfl List.not_mem_nil rfl rfl rfl rfl rfl rfl ?_ | refine W_condT rfl ?_ | refine W_condF rfl ?_ | refine W_region ?_ | refine wN rfl ?_))
      refine Exists.intro _ (Exists.intro _ ⟨?_, ⟨k + 1, by omega, rfl, .inr rfl, rfl⟩, wkA⟩)
      omega
  · have hk' : k = l.length := by simp at hg; omega
    subst hk'
    (repeat (first | refine WL_nil ?_ | (apply wl0 (hd := rfl); (first | exact qv9); (exact gy0)) | (apply wlb (hd := rfl); exact qbx; (exact gy0); rfl) | refine wln ⟨_, rfl, rfl⟩ rfl ?_ | refine wlnu ⟨_, rfl, rfl⟩ rfl ?_ | refine wst rfl rfl rfl List.not_mem_nil rfl rfl rfl rfl rfl rfl ?_ | refine W_condT rfl ?_ | refine W_condF rfl ?_ | refine W_region ?_ | refine wN rfl ?_))
    refine Exists.intro _ ⟨Weak.refl _, Exists.intro _ ⟨resA_tmp rfl rfl, ?_, rfl⟩⟩
    rcases hs with h | h
    · cases hst : stoneB l
      · exact vi_eq (by simp [overW, hst, h, sumW])
      · have := stone_len hst; omega
    · exact vi_eq (by simp [overW, h])


theorem overCorners_ok (f : Nat) [FnOk Tryz.prog f] (F : Pt → Pt → Int) (hF : ∀ a b, CallOk Tryz.prog f [a.av, b.av] (fun r => r = vi (F a b))) (l : List Pt) (hn : l.length ≤ 1048576) : CallOk Tryz.prog 69 [.agg [slPt l], .v (.func (.func f) #[] #[])] (fun r => r = vi (overW F l)) := by
  have hok := implStoneOk_ok l hn
  refine callOk Tryz.func69 Tryz.ntmps69 Tryz.results69 rfl rfl rfl fun B w0 I0 => ?_
  cases hst : stoneB l
  · rw [hst] at hok
    (repeat (first | refine WL_nil ?_ | (apply wl0 (hd := rfl); (first | exact qv9 | exact q_callA (hok)); (exact gy0)) | (apply wlb (hd := rfl); exact qbx; (exact gy0); rfl) | refine wln ⟨_, rfl, rfl⟩ rfl ?_ | refine wlnu ⟨_, rfl, rfl⟩ rfl ?_ | refine wst rfl rfl rfl List.not_mem_nil rfl rfl rfl rfl rfl rfl ?_ | refine W_condT rfl ?_ | refine W_condF rfl ?_ | refine W_region ?_ | refine wN rfl ?_))
    refine Exists.intro _ ⟨Weak.refl _, Exists.intro _ ⟨resA_tmp rfl rfl, ?_, rfl⟩⟩
    exact vi_eq (by simp [overW, hst])
  · rw [hst] at hok
    have h0 : 0 < l.length := by have := stone_len hst; omega
    (repeat (first | refine WL_nil ?_ | (apply wl0 (hd := rfl); (first | exact qv9 | exact q_callA (hok)); (exact gy0)) | (apply wlb (hd := rfl); exact qbx; (exact gy0); rfl) | refine wln ⟨_, rfl, rfl⟩ rfl ?_ | refine wlnu ⟨_, rfl, rfl⟩ rfl ?_ | refine wst rfl rfl rfl List.not_mem_nil rfl rfl rfl rfl rfl rfl ?_ | refine W_condT rfl ?_ | refine W_condF rfl ?_ | refine W_region ?_ | refine wN rfl ?_))
    refine W_loop (fun n s => ∃ k : Nat, k ≤ l.length ∧ n = l.length - k ∧ s = ⟨[(1, .v (.func (.func f) #[] #[])), (2, .ptr 2 0), (5, vi (sumW (fun i => W64 (F (cor l i) (cor l (i + 1)) * crossW (cor l i) (cor l (i + 1)))) k)), (14, vi l.length), (15, vi k)], [(2, [slPt l])], []⟩) ⟨_, _, ⟨0, by omega, rfl, rfl⟩, wkA⟩ ?_
    rintro n s ⟨k, hk, rfl, rfl⟩
    by_cases hlt : k < l.length
    · have hp := cor_lt hlt
      have hp1 := cor_at (i := k + 1) h0
      (repeat (first | refine WL_nil ?_ | (apply wl0 (hd := rfl); (first | exact qv9); (exact gy0)) | (apply wlb (hd := rfl); exact qbx; (exact gy0); rfl) | refine wln ⟨_, rfl, rfl⟩ rfl ?_ | refine wlnu ⟨_, rfl, rfl⟩ rfl ?_ | refine wst rfl rfl rfl List.not_mem_nil rfl rfl rfl rfl rfl rfl ?_ | refine W_condT rfl ?_ | refine W_condF rfl ?_ | refine W_region ?_ | refine wN rfl ?_))
      (refine W_cond rfl (fun hc => ?_) (fun hc => ?_))
      · (repeat (first | refine WL_nil ?_ | (apply wl0 (hd := rfl); (first | exact qv9); (exact gy0)) | (apply wlb (hd := rfl); exact qbx; (exact gy0); rfl) | refine wln ⟨_, rfl, rfl⟩ rfl ?_ | refine wlnu ⟨_, rfl, rfl⟩ rfl ?_ | refine wst rfl rfl rfl List.not_mem_nil rfl rfl rfl rfl rfl rfl ?_ | refine W_condT rfl ?_ | refine W_condF rfl ?_ | refine W_region ?_ | refine wN rfl ?_))
        refine wdraw 19 (by kernel_rfl) (by kernel_rfl) (by kernel_rfl) rfl ?_
        (repeat (first | refine HW_nil ?_ | (apply hw0 (hd := rfl); (first | exact qv9 | exact QV_div rfl rfl (by omega) rfl | exact QV_indexAddr rfl rfl rfl rfl (row_at hp) | exact QV_indexAddr rfl rfl rfl (rem_at k 1 _) (row_at hp1)); (exact gy0)) | (apply hwb (hd := rfl); (first | exact q_box rfl rfl rfl | exact q_allocT rfl); (exact gy0); rfl) | refine hwn ⟨_, rfl, rfl⟩ rfl ?_ | refine hwnu ⟨_, rfl, rfl⟩ rfl ?_ | refine hwi rfl rfl List.not_mem_nil rfl rfl rfl rfl rfl ?_))
        (repeat (first | refine WL_nil ?_ | (apply wl0 (hd := rfl); (first | exact qv9); (exact gy0)) | (apply wlb (hd := rfl); exact qbx; (exact gy0); rfl) | refine wln ⟨_, rfl, rfl⟩ rfl ?_ | refine wlnu ⟨_, rfl, rfl⟩ rfl ?_ | refine wst rfl rfl rfl List.not_mem_nil rfl rfl rfl rfl rfl rfl ?_ | refine W_condT rfl ?_ | refine W_condF rfl ?_ | refine W_region ?_ | refine wN rfl ?_))
        refine wdraw 19 (by kernel_rfl) (by kernel_rfl) (by kernel_rfl) rfl ?_
        (repeat (first | refine HW_nil ?_ | (apply hw0 (hd := rfl); (first | exact qv9 | exact q_callA (hF _ _)); (exact gy0)) | (apply hwb (hd := rfl); exact qbx; (exact gy0); rfl) | refine hwn ⟨_, rfl, rfl⟩ rfl ?_ | refine hwnu ⟨_, rfl, rfl⟩ rfl ?_))
        (repeat (first | refine WL_nil ?_ | (apply wl0 (hd := rfl); (first | exact qv9); (exact gy0)) | (apply wlb (hd := rfl); exact qbx; (exact gy0); rfl) | refine wln ⟨_, rfl, rfl⟩ rfl ?_ | refine wlnu ⟨_, rfl, rfl⟩ rfl ?_ | refine wst rfl rfl rfl List.not_mem_nil rfl rfl rfl rfl rfl rfl ?_ | refine W_condT rfl ?_ | refine W_condF rfl ?_ | refine W_region ?_ | refine wN rfl ?_))
        refine Exists.intro _ (Exists.intro _ ⟨?_, ⟨k + 1, by omega, rfl, rfl⟩, wkA⟩)
        omega
      · simp at hc; omega
    · (repeat (first | refine WL_nil ?_ | (apply wl0 (hd := rfl); (first | exact qv9); (exact gy0)) | (apply wlb (hd := rfl); exact qbx; (exact gy0); rfl) | refine wln ⟨_, rfl, rfl⟩ rfl ?_ | refine wlnu ⟨_, rfl, rfl⟩ rfl ?_ | refine wst rfl rfl rfl List.not_mem_nil rfl rfl rfl rfl rfl rfl ?_ | refine W_condT rfl ?_ | refine W_condF rfl ?_ | refine W_region ?_ | refine wN rfl ?_))
      (refine W_cond rfl (fun hc => ?_) (fun hc => ?_))
      · simp at hc; omega
      · have hk' : k = l.length := by omega
        subst hk'
        (repeat (first | refine WL_nil ?_ | (apply wl0 (hd := rfl); (first | exact qv9); (exact gy0)) | (apply wlb (hd := rfl); exact qbx; (exact gy0); rfl) | refine wln ⟨_, rfl, rfl⟩ rfl ?_ | refine wlnu ⟨_, rfl, rfl⟩ rfl ?_ | refine wst rfl rfl rfl List.not_mem_nil rfl rfl rfl rfl rfl rfl ?_ | refine W_condT rfl ?_ | refine W_condF rfl ?_ | refine W_region ?_ | refine wN rfl ?_))
        refine Exists.intro _ ⟨Weak.refl _, Exists.intro _ ⟨resA_tmp rfl rfl, ?_, rfl⟩⟩
        exact vi_eq (by simp [overW, hst])
theorem area1_ok (a b : Pt) : CallOk Tryz.prog 88 [a.av, b.av] (fun r => r = vi 1) := by
  refine callOk Tryz.func88 Tryz.ntmps88 Tryz.results88 rfl rfl rfl fun B w0 I0 => ?_
  (repeat (first | refine WL_nil ?_ | (apply wl0 (hd := rfl); (first | exact qv9); (exact gy0)) | (apply wlb (hd := rfl); exact qbx; (exact gy0); rfl) | refine wln ⟨_, rfl, rfl⟩ rfl ?_ | refine wlnu ⟨_, rfl, rfl⟩ rfl ?_ | refine wst rfl rfl rfl List.not_mem_nil rfl rfl rfl rfl rfl rfl ?_ | refine W_condT rfl ?_ | refine W_condF rfl ?_ | refine W_region ?_ | refine wN rfl ?_))
  refine Exists.intro _ ⟨Weak.refl _, Exists.intro _ ⟨resA_tmp rfl rfl, ?_, rfl⟩⟩
  rfl
theorem implAreaTwice_ok (l : List Pt) (hn : l.length ≤ 1048576) : CallOk Tryz.prog 68 [.agg [slPt l]] (fun r => r = vi (areaW l)) := by
  rw [← over_one]
  refine callOk Tryz.func68 Tryz.ntmps68 Tryz.results68 rfl rfl rfl fun B w0 I0 => ?_
  (repeat (first | refine WL_nil ?_ | (apply wl0 (hd := rfl); (first | exact qv9 | exact q_callA (overCorners_ok _ _ area1_ok l hn)); (exact gy0)) | (apply wlb (hd := rfl); exact qbx; (exact gy0); rfl) | refine wln ⟨_, rfl, rfl⟩ rfl ?_ | refine wlnu ⟨_, rfl, rfl⟩ rfl ?_ | refine wst rfl rfl rfl List.not_mem_nil rfl rfl rfl rfl rfl rfl ?_ | refine W_condT rfl ?_ | refine W_condF rfl ?_ | refine W_region ?_ | refine wN rfl ?_))
  refine Exists.intro _ ⟨Weak.refl _, Exists.intro _ ⟨resA_tmp rfl rfl, ?_, rfl⟩⟩
  rfl
theorem mom1_ok (a b : Pt) : CallOk Tryz.prog 70 [a.av, b.av] (fun r => r = vi (momF a b)) := by
  refine callOk Tryz.func70 Tryz.ntmps70 Tryz.results70 rfl rfl rfl fun B w0 I0 => ?_
  (repeat (first | refine WL_nil ?_ | (apply wl0 (hd := rfl); (first | exact qv9); (exact gy0)) | (apply wlb (hd := rfl); exact qbx; (exact gy0); rfl) | refine wln ⟨_, rfl, rfl⟩ rfl ?_ | refine wlnu ⟨_, rfl, rfl⟩ rfl ?_ | refine wst rfl rfl rfl List.not_mem_nil rfl rfl rfl rfl rfl rfl ?_ | refine W_condT rfl ?_ | refine W_condF rfl ?_ | refine W_region ?_ | refine wN rfl ?_))
  refine Exists.intro _ ⟨Weak.refl _, Exists.intro _ ⟨resA_tmp rfl rfl, ?_, rfl⟩⟩
  rfl
theorem implMomentOf_ok (l : List Pt) (hn : l.length ≤ 1048576) : CallOk Tryz.prog 50 [.agg [slPt l]] (fun r => r = vi (overW momF l)) := by
  refine callOk Tryz.func50 Tryz.ntmps50 Tryz.results50 rfl rfl rfl fun B w0 I0 => ?_
  (repeat (first | refine WL_nil ?_ | (apply wl0 (hd := rfl); (first | exact qv9 | exact q_callA (overCorners_ok _ _ mom1_ok l hn)); (exact gy0)) | (apply wlb (hd := rfl); exact qbx; (exact gy0); rfl) | refine wln ⟨_, rfl, rfl⟩ rfl ?_ | refine wlnu ⟨_, rfl, rfl⟩ rfl ?_ | refine wst rfl rfl rfl List.not_mem_nil rfl rfl rfl rfl rfl rfl ?_ | refine W_condT rfl ?_ | refine W_condF rfl ?_ | refine W_region ?_ | refine wN rfl ?_))
  refine Exists.intro _ ⟨Weak.refl _, Exists.intro _ ⟨resA_tmp rfl rfl, ?_, rfl⟩⟩
  rfl
theorem implWeightOf_ok (l : List Pt) (hn : l.length ≤ 1048576) : CallOk Tryz.prog 49 [.agg [slPt l]] (fun r => r = vi (weightW l)) := by
  refine callOk Tryz.func49 Tryz.ntmps49 Tryz.results49 rfl rfl rfl fun B w0 I0 => ?_
  (repeat (first | refine WL_nil ?_ | (apply wl0 (hd := rfl); (first | exact qv9 | exact q_callA (implAreaTwice_ok l hn)); (exact gy0)) | (apply wlb (hd := rfl); exact qbx; (exact gy0); rfl) | refine wln ⟨_, rfl, rfl⟩ rfl ?_ | refine wlnu ⟨_, rfl, rfl⟩ rfl ?_ | refine wst rfl rfl rfl List.not_mem_nil rfl rfl rfl rfl rfl rfl ?_ | refine W_condT rfl ?_ | refine W_condF rfl ?_ | refine W_region ?_ | refine wN rfl ?_))
  refine Exists.intro _ ⟨Weak.refl _, Exists.intro _ ⟨resA_tmp rfl rfl, ?_, rfl⟩⟩
  rfl
theorem weightOf_ok (l : List Pt) (hn : l.length ≤ 1048576) : CallOk Tryz.prog 82 [.agg [slPt l]] (fun r => r = vi (weightW l)) := by
  refine callOk Tryz.func82 Tryz.ntmps82 Tryz.results82 rfl rfl rfl fun B w0 I0 => ?_
  (repeat (first | refine WL_nil ?_ | (apply wl0 (hd := rfl); (first | exact qv9 | exact q_callA (areaTwice_ok l hn)); (exact gy0)) | (apply wlb (hd := rfl); exact qbx; (exact gy0); rfl) | refine wln ⟨_, rfl, rfl⟩ rfl ?_ | refine wlnu ⟨_, rfl, rfl⟩ rfl ?_ | refine wst rfl rfl rfl List.not_mem_nil rfl rfl rfl rfl rfl rfl ?_ | refine W_condT rfl ?_ | refine W_condF rfl ?_ | refine W_region ?_ | refine wN rfl ?_))
  refine Exists.intro _ ⟨Weak.refl _, Exists.intro _ ⟨resA_tmp rfl rfl, ?_, rfl⟩⟩
  rfl
end Go.Proofs.YtkaffcdjhbaifaaGreat

namespace Go.Proofs.YtkaffcdjhbaifaaGreat
open Go.Eng
set_option maxRecDepth 100000
attribute [local irreducible] QV TV WL HW W CallOk Weak
attribute [local irreducible] CallOkE

end Go.Proofs.YtkaffcdjhbaifaaGreat

namespace Go.Proofs.YtkaffcdjhbaifaaGreat
open Go.Eng

def jt4 (a b c d : Int) : Jt := ⟨⟨a, b⟩, ⟨c, d⟩⟩
def shp : Nat → List Jt
  | 0 => [jt4 (-8) 0 (-11) 0, jt4 (-6) 5 (-8) 7, jt4 (-2) 8 (-3) 11, jt4 2 8 3 11, jt4 6 5 8 7, jt4 8 0 11 0]
  | 1 => [jt4 0 0 (-2) 3, jt4 5 2 4 6, jt4 11 2 12 6, jt4 16 0 18 3]
  | 2 => [jt4 0 0 (-3) 0, jt4 2 6 0 8, jt4 6 11 6 14, jt4 10 6 12 8, jt4 12 0 15 0]
  | 3 => [jt4 0 0 (-1) 4, jt4 4 0 4 4, jt4 8 0 8 4, jt4 12 0 13 4]
  | 4 => [jt4 (-9) 0 (-10) 0, jt4 (-6) 7 (-7) 8, jt4 0 9 0 10, jt4 6 7 7 8, jt4 9 0 10 0]
  | _ => [jt4 0 0 (-2) 2, jt4 6 4 6 7, jt4 12 2 14 4]
def smP (m : Int) (p : Pt) : Prop := (-m ≤ p.x ∧ p.x ≤ m) ∧ -m ≤ p.y ∧ p.y ≤ m
def SmJ (m : Int) (js : List Jt) : Prop := ∀ j ∈ js, smP m j.i ∧ smP m j.o
theorem SmJ.le {m m' : Int} {js : List Jt} (h : SmJ m js) (hm : m ≤ m') : SmJ m' js := fun j hj => by
  have := h j hj
  unfold smP at this ⊢
  omega
theorem SmJ.set {m : Int} {js : List Jt} (h : SmJ m js) (i : Nat) {j : Jt} (hj : smP m j.i ∧ smP m j.o) : SmJ m (js.set i j) := fun k hk => by
  rcases List.mem_or_eq_of_mem_set hk with h1 | h1
  · exact h k h1
  · rw [h1]; exact hj
theorem SmJ.at {m : Int} {js : List Jt} (h : SmJ m js) {k : Nat} (hk : k < js.length) : smP m (jat js k).i ∧ smP m (jat js k).o := by
  have := List.mem_of_getElem? (jat_lt hk)
  exact h _ this
theorem shp_ok : ∀ k, k < 6 → archB (shp k) = true := by
  intro k hk
  have : k = 0 ∨ k = 1 ∨ k = 2 ∨ k = 3 ∨ k = 4 ∨ k = 5 := by omega
  rcases this with rfl | rfl | rfl | rfl | rfl | rfl <;> decide +kernel
theorem shp_sm : ∀ k, k < 6 → SmJ 18 (shp k) := by
  intro k hk
  have : k = 0 ∨ k = 1 ∨ k = 2 ∨ k = 3 ∨ k = 4 ∨ k = 5 := by omega
  unfold SmJ smP
  rcases this with rfl | rfl | rfl | rfl | rfl | rfl <;> decide
end Go.Proofs.YtkaffcdjhbaifaaGreat

namespace Go.Proofs.YtkaffcdjhbaifaaGreat
open Go.Eng
set_option maxRecDepth 100000
attribute [local irreducible] QV TV WL HW W CallOk Weak

theorem jt_cells (l : List Jt) : ∀ x ∈ (l.map Jt.row).flatten, isCell x = true := by
  intro x hx
  obtain ⟨r, hr, hx⟩ := List.mem_flatten.1 hx
  obtain ⟨p, _, rfl⟩ := List.mem_map.1 hr
  simp only [Jt.row, List.mem_cons, List.not_mem_nil, or_false] at hx
  rcases hx with rfl | rfl | rfl | rfl <;> rfl
theorem jt_lens (l : List Jt) : ∀ r ∈ l.map Jt.row, r.length = 4 := by
  intro r hr
  obtain ⟨p, _, rfl⟩ := List.mem_map.1 hr
  rfl
theorem l06Shape0_ok : CallOk Tryz.prog 38 [vi 0] (fun r => r = .agg [slJt (shp 0)]) := by
  refine callOk_dat (X := .agg [.own 200 82 4 ((shp 0).map Jt.row)]) ?_ rfl
  refine callOk Tryz.func38 Tryz.ntmps38 Tryz.results38 rfl rfl rfl fun B w0 I0 => ?_
  (repeat (first | refine WL_nil ?_ | (apply wl0 (hd := rfl); (first | exact qv9); (exact gy0)) | (apply wlb (hd := rfl); exact qbx; (exact gy0); rfl) | refine wln ⟨_, rfl, rfl⟩ rfl ?_ | refine wlnu ⟨_, rfl, rfl⟩ rfl ?_ | (apply wln1 (hd := rfl); exact q_buildSlice 200 rfl rfl rfl rfl; (exact gy0); rfl) | refine wst rfl rfl rfl List.not_mem_nil rfl rfl rfl rfl rfl rfl ?_ | refine W_condT rfl ?_ | refine W_condF rfl ?_ | refine W_region ?_ | refine wN rfl ?_))
  refine Exists.intro _ ⟨Weak.refl _, Exists.intro _ ⟨resA_cell rfl rfl rfl rfl, ?_, rfl⟩⟩
  rfl
theorem l06Shape1_ok : CallOk Tryz.prog 38 [vi 1] (fun r => r = .agg [slJt (shp 1)]) := by
  refine callOk_dat (X := .agg [.own 200 82 4 ((shp 1).map Jt.row)]) ?_ rfl
  refine callOk Tryz.func38 Tryz.ntmps38 Tryz.results38 rfl rfl rfl fun B w0 I0 => ?_
  (repeat (first | refine WL_nil ?_ | (apply wl0 (hd := rfl); (first | exact qv9); (exact gy0)) | (apply wlb (hd := rfl); exact qbx; (exact gy0); rfl) | refine wln ⟨_, rfl, rfl⟩ rfl ?_ | refine wlnu ⟨_, rfl, rfl⟩ rfl ?_ | (apply wln1 (hd := rfl); exact q_buildSlice 200 rfl rfl rfl rfl; (exact gy0); rfl) | refine wst rfl rfl rfl List.not_mem_nil rfl rfl rfl rfl rfl rfl ?_ | refine W_condT rfl ?_ | refine W_condF rfl ?_ | refine W_region ?_ | refine wN rfl ?_))
  refine Exists.intro _ ⟨Weak.refl _, Exists.intro _ ⟨resA_cell rfl rfl rfl rfl, ?_, rfl⟩⟩
  rfl
theorem l06Shape2_ok : CallOk Tryz.prog 38 [vi 2] (fun r => r = .agg [slJt (shp 2)]) := by
  refine callOk_dat (X := .agg [.own 200 82 4 ((shp 2).map Jt.row)]) ?_ rfl
  refine callOk Tryz.func38 Tryz.ntmps38 Tryz.results38 rfl rfl rfl fun B w0 I0 => ?_
  (repeat (first | refine WL_nil ?_ | (apply wl0 (hd := rfl); (first | exact qv9); (exact gy0)) | (apply wlb (hd := rfl); exact qbx; (exact gy0); rfl) | refine wln ⟨_, rfl, rfl⟩ rfl ?_ | refine wlnu ⟨_, rfl, rfl⟩ rfl ?_ | (apply wln1 (hd := rfl); exact q_buildSlice 200 rfl rfl rfl rfl; (exact gy0); rfl) | refine wst rfl rfl rfl List.not_mem_nil rfl rfl rfl rfl rfl rfl ?_ | refine W_condT rfl ?_ | refine W_condF rfl ?_ | refine W_region ?_ | refine wN rfl ?_))
  refine Exists.intro _ ⟨Weak.refl _, Exists.intro _ ⟨resA_cell rfl rfl rfl rfl, ?_, rfl⟩⟩
  rfl
theorem l06Shape3_ok : CallOk Tryz.prog 38 [vi 3] (fun r => r = .agg [slJt (shp 3)]) := by
  refine callOk_dat (X := .agg [.own 200 82 4 ((shp 3).map Jt.row)]) ?_ rfl
  refine callOk Tryz.func38 Tryz.ntmps38 Tryz.results38 rfl rfl rfl fun B w0 I0 => ?_
  (repeat (first | refine WL_nil ?_ | (apply wl0 (hd := rfl); (first | exact qv9); (exact gy0)) | (apply wlb (hd := rfl); exact qbx; (exact gy0); rfl) | refine wln ⟨_, rfl, rfl⟩ rfl ?_ | refine wlnu ⟨_, rfl, rfl⟩ rfl ?_ | (apply wln1 (hd := rfl); exact q_buildSlice 200 rfl rfl rfl rfl; (exact gy0); rfl) | refine wst rfl rfl rfl List.not_mem_nil rfl rfl rfl rfl rfl rfl ?_ | refine W_condT rfl ?_ | refine W_condF rfl ?_ | refine W_region ?_ | refine wN rfl ?_))
  refine Exists.intro _ ⟨Weak.refl _, Exists.intro _ ⟨resA_cell rfl rfl rfl rfl, ?_, rfl⟩⟩
  rfl
theorem l06Shape4_ok : CallOk Tryz.prog 38 [vi 4] (fun r => r = .agg [slJt (shp 4)]) := by
  refine callOk_dat (X := .agg [.own 200 82 4 ((shp 4).map Jt.row)]) ?_ rfl
  refine callOk Tryz.func38 Tryz.ntmps38 Tryz.results38 rfl rfl rfl fun B w0 I0 => ?_
  (repeat (first | refine WL_nil ?_ | (apply wl0 (hd := rfl); (first | exact qv9); (exact gy0)) | (apply wlb (hd := rfl); exact qbx; (exact gy0); rfl) | refine wln ⟨_, rfl, rfl⟩ rfl ?_ | refine wlnu ⟨_, rfl, rfl⟩ rfl ?_ | (apply wln1 (hd := rfl); exact q_buildSlice 200 rfl rfl rfl rfl; (exact gy0); rfl) | refine wst rfl rfl rfl List.not_mem_nil rfl rfl rfl rfl rfl rfl ?_ | refine W_condT rfl ?_ | refine W_condF rfl ?_ | refine W_region ?_ | refine wN rfl ?_))
  refine Exists.intro _ ⟨Weak.refl _, Exists.intro _ ⟨resA_cell rfl rfl rfl rfl, ?_, rfl⟩⟩
  rfl
theorem l06Shape5_ok : CallOk Tryz.prog 38 [vi 5] (fun r => r = .agg [slJt (shp 5)]) := by
  refine callOk_dat (X := .agg [.own 200 82 4 ((shp 5).map Jt.row)]) ?_ rfl
  refine callOk Tryz.func38 Tryz.ntmps38 Tryz.results38 rfl rfl rfl fun B w0 I0 => ?_
  (repeat (first | refine WL_nil ?_ | (apply wl0 (hd := rfl); (first | exact qv9); (exact gy0)) | (apply wlb (hd := rfl); exact qbx; (exact gy0); rfl) | refine wln ⟨_, rfl, rfl⟩ rfl ?_ | refine wlnu ⟨_, rfl, rfl⟩ rfl ?_ | (apply wln1 (hd := rfl); exact q_buildSlice 200 rfl rfl rfl rfl; (exact gy0); rfl) | refine wst rfl rfl rfl List.not_mem_nil rfl rfl rfl rfl rfl rfl ?_ | refine W_condT rfl ?_ | refine W_condF rfl ?_ | refine W_region ?_ | refine wN rfl ?_))
  refine Exists.intro _ ⟨Weak.refl _, Exists.intro _ ⟨resA_cell rfl rfl rfl rfl, ?_, rfl⟩⟩
  rfl
theorem l06Shape_ok (k : Nat) (hk : k < 6) : CallOk Tryz.prog 38 [vi k] (fun r => r = .agg [slJt (shp k)]) := by
  have h : k = 0 ∨ k = 1 ∨ k = 2 ∨ k = 3 ∨ k = 4 ∨ k = 5 := by omega
  rcases h with rfl | rfl | rfl | rfl | rfl | rfl
  · exact l06Shape0_ok
  · exact l06Shape1_ok
  · exact l06Shape2_ok
  · exact l06Shape3_ok
  · exact l06Shape4_ok
  · exact l06Shape5_ok
theorem l06Copy_ok (js : List Jt) (hn : js.length ≤ 1048576) : CallOk Tryz.prog 56 [.agg [slJt js]] (fun r => r = .agg [.own 3 82 4 (js.map Jt.row)]) := by
  refine callOk Tryz.func56 Tryz.ntmps56 Tryz.results56 rfl rfl rfl fun B w0 I0 => ?_
  (repeat (first | refine WL_nil ?_ | (apply wl0 (hd := rfl); (first | exact qv9); (exact gy0)) | (apply wlb (hd := rfl); exact qbx; (exact gy0); rfl) | refine wln ⟨_, rfl, rfl⟩ rfl ?_ | refine wlnu ⟨_, rfl, rfl⟩ rfl ?_ | (apply wln1 (hd := rfl); exact q_buildSlice 3 rfl rfl rfl rfl; (exact gy0); rfl) | refine wst rfl rfl rfl List.not_mem_nil rfl rfl rfl rfl rfl rfl ?_ | refine wappE (rows := []) (rows2 := js.map Jt.row) rfl rfl rfl (jt_cells js) (jt_lens js) (by simpa using hn) rfl rfl rfl rfl rfl ?_ | refine W_condT rfl ?_ | refine W_condF rfl ?_ | refine W_region ?_ | refine wN rfl ?_))
  refine Exists.intro _ ⟨Weak.refl _, Exists.intro _ ⟨resA_cell rfl rfl rfl rfl, ?_, rfl⟩⟩
  rfl
@[reducible] def OnceR (l : List Int) (r : AV) (cs : List AV) : Prop := ∃ b : Bool, r = vb b ∧ CurR l cs
theorem l01Once_ok (l : List Int) (hl : Bts l) (n : Int) (hn0 : 0 < n) (hn : n ≤ 10000) (i : Nat) (h : Int) : CallPtr Tryz.prog 17 [.ptr 1000000 0, vi n] [slU l, vi i, vi h] (OnceR l) := by
  refine callPtr Tryz.func17 Tryz.ntmps17 Tryz.results17 rfl rfl rfl fun B w0 b T I0 => ?_
  (repeat (first | refine WL_nil ?_ | (apply wl0 (hd := rfl); (first | exact qv9); (exact gy0)) | (apply wlb (hd := rfl); exact qbx; (exact gy0); rfl) | refine wln ⟨_, rfl, rfl⟩ rfl ?_ | refine wlnu ⟨_, rfl, rfl⟩ rfl ?_ | refine wst rfl rfl rfl List.not_mem_nil rfl rfl rfl rfl rfl rfl ?_ | refine W_condT rfl ?_ | refine W_condF rfl ?_ | refine W_region ?_ | refine wN rfl ?_))
  refine wldraw (l01Below_ok l hl n hn0 hn i h) rfl (by repeat' (first | exact PtA.nil | refine PtA.ptr ?_ | refine PtA.v ?_)) rfl rfl List.not_mem_nil rfl (fun x i1 h1 hx0 hx1 => ?_)
  (repeat (first | refine WL_nil ?_ | (apply wl0 (hd := rfl); (first | exact qv9); (exact gy0)) | (apply wlb (hd := rfl); exact qbx; (exact gy0); rfl) | refine wln ⟨_, rfl, rfl⟩ rfl ?_ | refine wlnu ⟨_, rfl, rfl⟩ rfl ?_ | refine wst rfl rfl rfl List.not_mem_nil rfl rfl rfl rfl rfl rfl ?_ | refine W_condT rfl ?_ | refine W_condF rfl ?_ | refine W_region ?_ | refine wN rfl ?_))
  refine ptrEnd (Weak.refl _) (resA_tmp rfl rfl) rfl rfl rfl ?_
  exact ⟨_, rfl, i1, h1, rfl⟩
@[reducible] def ArchD (l : List Int) (r : AV) (cs : List AV) : Prop := ∃ js : List Jt, archB js = true ∧ SmJ 22 js ∧ r = .agg [slJt js] ∧ CurR l cs
theorem l06Arch_ok (l : List Int) (hl : Bts l) (i : Nat) (h : Int) : CallPtr Tryz.prog 39 [.ptr 1000000 0] [slU l, vi i, vi h] (ArchD l) := by
  refine callPtr Tryz.func39 Tryz.ntmps39 Tryz.results39 rfl rfl rfl fun B w0 b T I0 => ?_
  (repeat (first | refine WL_nil ?_ | (apply wl0 (hd := rfl); (first | exact qv9); (exact gy0)) | (apply wlb (hd := rfl); exact qbx; (exact gy0); rfl) | refine wln ⟨_, rfl, rfl⟩ rfl ?_ | refine wlnu ⟨_, rfl, rfl⟩ rfl ?_ | refine wst rfl rfl rfl List.not_mem_nil rfl rfl rfl rfl rfl rfl ?_ | refine W_condT rfl ?_ | refine W_condF rfl ?_ | refine W_region ?_ | refine wN rfl ?_))
  refine wldraw (l01Below_ok l hl 6 (by decide) (by decide) i h) rfl (by repeat' (first | exact PtA.nil | refine PtA.ptr ?_ | refine PtA.v ?_)) rfl rfl List.not_mem_nil rfl (fun x i1 h1 hx0 hx1 => ?_)
  obtain ⟨q, rfl⟩ : ∃ q : Nat, x = q := ⟨x.toNat, by omega⟩
  have cq := l06Shape_ok q (by omega)
  have aq := shp_ok q (by omega)
  have mq := shp_sm q (by omega)
  (repeat (first | refine WL_nil ?_ | (apply wl0 (hd := rfl); (first | exact qv9 | exact q_callA (cq)); (exact gy0)) | (apply wlb (hd := rfl); exact qbx; (exact gy0); rfl) | refine wln ⟨_, rfl, rfl⟩ rfl ?_ | refine wlnu ⟨_, rfl, rfl⟩ rfl ?_ | refine wst rfl rfl rfl List.not_mem_nil rfl rfl rfl rfl rfl rfl ?_ | refine W_condT rfl ?_ | refine W_condF rfl ?_ | refine W_region ?_ | refine wN rfl ?_))
  refine wldraw (l01Below_ok l hl 5 (by decide) (by decide) i1 h1) rfl (by repeat' (first | exact PtA.nil | refine PtA.ptr ?_ | refine PtA.v ?_)) rfl rfl List.not_mem_nil rfl (fun y i2 h2 hy0 hy1 => ?_)
  obtain ⟨k, rfl⟩ : ∃ k : Nat, y = k := ⟨y.toNat, by omega⟩
  (repeat (first | refine WL_nil ?_ | (apply wl0 (hd := rfl); (first | exact qv9); (exact gy0)) | (apply wlb (hd := rfl); exact qbx; (exact gy0); rfl) | refine wln ⟨_, rfl, rfl⟩ rfl ?_ | refine wlnu ⟨_, rfl, rfl⟩ rfl ?_ | refine wst rfl rfl rfl List.not_mem_nil rfl rfl rfl rfl rfl rfl ?_ | refine W_condT rfl ?_ | refine W_condF rfl ?_ | refine W_region ?_ | refine wN rfl ?_))
  refine W_loop (fun n s => ∃ (m : Nat) (u : Int) (js : List Jt) (i : Nat) (h : Int), m ≤ 4 ∧ n = m ∧ u = m ∧ archB js = true ∧ SmJ (22 - m) js ∧ s = ⟨[(0, .ptr 1000000 0), (2, .ptr 2 0), (3, .ptr 3 0), (4, vi u)], [(3, [slJt js]), (2, [.v (.slice none 0 0)]), (1000000, [slU l, vi i, vi h])], []⟩) ⟨_, _, ⟨k, k, shp q, i2, h2, by omega, rfl, rfl, aq, mq.le (by omega), rfl⟩, wkA⟩ ?_
  rintro m s ⟨_, u, js, i3, h3, hm, rfl, hu, ha, hs, rfl⟩
  have h8 := arch_len ha
  have hne : 0 < (js.map Jt.row).length := by simp; omega
  cases m with
  | zero =>
    have c1 : abin .gtr .i64 u 0 = some (.bool false) := by simp [abin]; omega
    (repeat (first | refine WL_nil ?_ | (apply wl0 (hd := rfl); (first | exact QV_bin rfl rfl c1 | exact qv9); (exact gy0)) | (apply wlb (hd := rfl); exact qbx; (exact gy0); rfl) | refine wln ⟨_, rfl, rfl⟩ rfl ?_ | refine wlnu ⟨_, rfl, rfl⟩ rfl ?_ | refine wst rfl rfl rfl List.not_mem_nil rfl rfl rfl rfl rfl rfl ?_ | refine W_condT rfl ?_ | refine W_condF rfl ?_ | refine W_region ?_ | refine wN rfl ?_))
    refine ptrEnd (s' := ⟨[(2, .ptr 2 0)], [(2, [slJt js]), (1000000, [slU l, vi i3, vi h3])], []⟩) wkA (resA_cell rfl rfl rfl rfl) rfl rfl rfl ?_
    exact ⟨js, ha, hs, rfl, i3, h3, rfl⟩
  | succ m =>
    have c1 : abin .gtr .i64 u 0 = some (.bool true) := by simp [abin]; omega
    (repeat (first | refine WL_nil ?_ | (apply wl0 (hd := rfl); (first | exact QV_bin rfl rfl c1 | exact qv9 | exact QV_lenA rfl); (exact gy0)) | (apply wlb (hd := rfl); exact qbx; (exact gy0); rfl) | refine wln ⟨_, rfl, rfl⟩ rfl ?_ | refine wlnu ⟨_, rfl, rfl⟩ rfl ?_ | refine wst rfl rfl rfl List.not_mem_nil rfl rfl rfl rfl rfl rfl ?_ | refine wlmu (n := 3) (N := 2000000) (l06Copy_ok js (by omega)) rfl hne (map_plainB (fun _ => rfl)) rfl (by (repeat' (first | exact LeS.nil | refine LeS.v ?_ | refine LeS.sl ?_ | refine LeS.own ?_ | refine LeS.arr rfl (by first | exact len_map | exact len_mks) (map_lens (fun _ => rfl)) (map_plainB (fun _ => rfl)) ?_ | refine LeS.nilS ?_ | refine LeS.agg ?_ ?_)); first | done | fail "open") (by first | exact MutA.own | exact MutA.agg | exact MutA.tup | exact MutA.tupS) (List.length_map _) rfl rfl (fun more2000000 hmore2000000 => ?_) | refine W_condT rfl ?_ | refine W_condF rfl ?_ | refine W_region ?_ | refine wN rfl ?_))
    refine wldraw (l01Below_ok l hl js.length (by omega) (by omega) i3 h3) rfl (by repeat' (first | exact PtA.nil | refine PtA.ptr ?_ | refine PtA.v ?_)) rfl rfl List.not_mem_nil rfl (fun p i4 h4 hp0 hp1 => ?_)
    obtain ⟨j, rfl⟩ : ∃ j : Nat, p = j := ⟨p.toNat, by omega⟩
    have hj : j < js.length := by omega
    (repeat (first | refine WL_nil ?_ | (apply wl0 (hd := rfl); (first | exact qv9); (exact gy0)) | (apply wlb (hd := rfl); exact qbx; (exact gy0); rfl) | refine wln ⟨_, rfl, rfl⟩ rfl ?_ | refine wlnu ⟨_, rfl, rfl⟩ rfl ?_ | refine wst rfl rfl rfl List.not_mem_nil rfl rfl rfl rfl rfl rfl ?_ | refine W_condT rfl ?_ | refine W_condF rfl ?_ | refine W_region ?_ | refine wN rfl ?_))
    refine wldraw (l01Below_ok l hl 3 (by decide) (by decide) i4 h4) rfl (by repeat' (first | exact PtA.nil | refine PtA.ptr ?_ | refine PtA.v ?_)) rfl rfl List.not_mem_nil rfl (fun dx i5 h5 hdx0 hdx1 => ?_)
    (repeat (first | refine WL_nil ?_ | (apply wl0 (hd := rfl); (first | exact qv9); (exact gy0)) | (apply wlb (hd := rfl); exact qbx; (exact gy0); rfl) | refine wln ⟨_, rfl, rfl⟩ rfl ?_ | refine wlnu ⟨_, rfl, rfl⟩ rfl ?_ | refine wst rfl rfl rfl List.not_mem_nil rfl rfl rfl rfl rfl rfl ?_ | refine W_condT rfl ?_ | refine W_condF rfl ?_ | refine W_region ?_ | refine wN rfl ?_))
    refine wldraw (l01Below_ok l hl 3 (by decide) (by decide) i5 h5) rfl (by repeat' (first | exact PtA.nil | refine PtA.ptr ?_ | refine PtA.v ?_)) rfl rfl List.not_mem_nil rfl (fun dy i6 h6 hdy0 hdy1 => ?_)
    (repeat (first | refine WL_nil ?_ | (apply wl0 (hd := rfl); (first | exact qv9); (exact gy0)) | (apply wlb (hd := rfl); exact qbx; (exact gy0); rfl) | refine wln ⟨_, rfl, rfl⟩ rfl ?_ | refine wlnu ⟨_, rfl, rfl⟩ rfl ?_ | refine wst rfl rfl rfl List.not_mem_nil rfl rfl rfl rfl rfl rfl ?_ | refine W_condT rfl ?_ | refine W_condF rfl ?_ | refine W_region ?_ | refine wN rfl ?_))
    refine wlptr 0 [] (l01Once_ok l hl 2 (by decide) (by decide) i6 h6) rfl (by repeat' (first | exact PtA.nil | refine PtA.ptr ?_ | refine PtA.v ?_)) rfl rfl List.not_mem_nil (fun r cs ⟨b, hr, i, h, hc⟩ => by subst hr; subst hc; exact ⟨rfl, rfl⟩) rfl rfl (fun r cs hR => ?_)
    obtain ⟨b, rfl, i7, h7, rfl⟩ := hR
    have hat := hs.at hj
    unfold smP at hat
    have r0 : RowAt (js.map Jt.row ++ more2000000) j 4 (jat js j).row := ⟨by rw [List.getElem?_append_left (by simpa using hj)]; exact row_at (jat_lt hj), fun r hr => by
      rcases List.mem_append.1 hr with hr | hr
      · exact jt_lens js r hr
      · exact (hmore2000000 r hr).1⟩
    cases b
    · (repeat (first | refine WL_nil ?_ | (apply wl0 (hd := rfl); (first | exact qv9); (exact gy0)) | (apply wlb (hd := rfl); exact qbx; (exact gy0); rfl) | refine wln ⟨_, rfl, rfl⟩ rfl ?_ | refine wlnu ⟨_, rfl, rfl⟩ rfl ?_ | refine wst rfl rfl rfl List.not_mem_nil rfl rfl rfl rfl rfl rfl ?_ | refine W_condT rfl ?_ | refine W_condF rfl ?_ | refine W_region ?_ | refine wN rfl ?_))
      refine wdraw 24 (by kernel_rfl) (by kernel_rfl) (by kernel_rfl) rfl ?_
      (repeat (first | refine HW_nil ?_ | (apply hw0 (hd := rfl); (first | exact qv9 | exact QV_indexA rfl rfl rfl hj | exact q_loadA (j := j) (o := 2) rfl rfl r0.len r0.at_ rfl rfl | exact q_loadA (j := j) (o := 3) rfl rfl r0.len r0.at_ rfl rfl); (exact gy0)) | (apply hwb (hd := rfl); exact qbx; (exact gy0); rfl) | refine hwn ⟨_, rfl, rfl⟩ rfl ?_ | refine hwnu ⟨_, rfl, rfl⟩ rfl ?_))
      obtain ⟨js', hjs⟩ : ∃ js' : List Jt, js' = js.set j (⟨(jat js j).i, ⟨(jat js j).o.x + (dx - 1), (jat js j).o.y + (dy - 1)⟩⟩) := ⟨_, rfl⟩
      have hlen : js'.length = js.length := by rw [hjs, List.length_set]
      have hset : (js.map Jt.row ++ more2000000).set j (Jt.row (⟨(jat js j).i, ⟨(jat js j).o.x + (dx - 1), (jat js j).o.y + (dy - 1)⟩⟩)) = js'.map Jt.row ++ more2000000 := by
        rw [List.set_append_left _ _ (by simpa using hj), hjs, List.map_set]
      have hs' : SmJ (22 - m) js' := by
        rw [hjs]
        refine (hs.le (by omega)).set j ?_
        unfold smP
        exact ⟨by simp only; omega, by simp only; omega⟩
      (repeat (first | refine WL_nil ?_ | (apply wl0 (hd := rfl); (first | exact qv9); (exact gy0)) | (apply wlb (hd := rfl); exact qbx; (exact gy0); rfl) | refine wln ⟨_, rfl, rfl⟩ rfl ?_ | refine wlnu ⟨_, rfl, rfl⟩ rfl ?_ | refine wst rfl rfl rfl List.not_mem_nil rfl rfl rfl rfl rfl rfl ?_ | refine wstP (j := j) (e := 4) (o := 2) rfl rfl rfl List.not_mem_nil rfl rfl rfl rfl r0.at_ rfl r0.len rfl ?_ | refine W_condT rfl ?_ | refine W_condF rfl ?_ | refine W_region ?_ | refine wN rfl ?_))
      rw [hset]
      cases ha' : archB js'
      · have hok := archOk_ok js' (by omega)
        rw [ha'] at hok
        rw [← hlen]
        (repeat (first | refine WL_nil ?_ | (apply wl0 (hd := rfl); (first | exact qv9 | exact q_callSA (hok)); (exact gy0)) | (apply wlb (hd := rfl); exact qbx; (exact gy0); rfl) | refine wln ⟨_, rfl, rfl⟩ rfl ?_ | refine wlnu ⟨_, rfl, rfl⟩ rfl ?_ | refine wst rfl rfl rfl List.not_mem_nil rfl rfl rfl rfl rfl rfl ?_ | refine W_condT rfl ?_ | refine W_condF rfl ?_ | refine W_region ?_ | refine wN rfl ?_))
        refine Exists.intro _ (Exists.intro _ ⟨?_, ⟨m, u - 1, js, i7, h7, by omega, rfl, by omega, ha, hs.le (by omega), rfl⟩, wkA⟩)
        omega
      · have hok := archOk_ok js' (by omega)
        rw [ha'] at hok
        rw [← hlen]
        (repeat (first | refine WL_nil ?_ | (apply wl0 (hd := rfl); (first | exact qv9 | exact q_callSA (hok)); (exact gy0)) | (apply wlb (hd := rfl); exact qbx; (exact gy0); rfl) | refine wln ⟨_, rfl, rfl⟩ rfl ?_ | refine wlnu ⟨_, rfl, rfl⟩ rfl ?_ | refine wst rfl rfl rfl List.not_mem_nil rfl rfl rfl rfl rfl rfl ?_ | refine W_condT rfl ?_ | refine W_condF rfl ?_ | refine W_region ?_ | refine wN rfl ?_))
        refine Exists.intro _ (Exists.intro _ ⟨?_, ⟨m, u - 1, js', i7, h7, by omega, rfl, by omega, ha', hs', rfl⟩, ?_⟩)
        · omega
        · exact weak_dat 2000000 82 4 (js'.map Jt.row) more2000000.flatten rfl (fun _ hb => ⟨1000000, _, by decide, rfl, hb, rfl⟩) (by rw [← List.flatten_append]; rfl) (jt_lens js') (map_plainB (fun _ => rfl)) (by repeat' (first | exact trivial | refine And.intro ?_ ?_ | exact .inr (.inl rfl))) ⟨⟨_, rfl, .cons (.inl ⟨congrArg (AV.arr 2000000 82 4) (List.length_map _).symm, rfl⟩) .nil⟩, ⟨_, rfl, DLes.refl _⟩, ⟨_, rfl, DLes.refl _⟩, trivial⟩ rfl (by repeat' (first | exact trivial | refine And.intro ?_ ?_ | exact rfl)) rfl rfl (fun k b U hp => by obtain ⟨rfl, rfl, rfl⟩ := hp; simp)
    · (repeat (first | refine WL_nil ?_ | (apply wl0 (hd := rfl); (first | exact qv9); (exact gy0)) | (apply wlb (hd := rfl); exact qbx; (exact gy0); rfl) | refine wln ⟨_, rfl, rfl⟩ rfl ?_ | refine wlnu ⟨_, rfl, rfl⟩ rfl ?_ | refine wst rfl rfl rfl List.not_mem_nil rfl rfl rfl rfl rfl rfl ?_ | refine W_condT rfl ?_ | refine W_condF rfl ?_ | refine W_region ?_ | refine wN rfl ?_))
      refine wdraw 24 (by kernel_rfl) (by kernel_rfl) (by kernel_rfl) rfl ?_
      (repeat (first | refine HW_nil ?_ | (apply hw0 (hd := rfl); (first | exact qv9 | exact QV_indexA rfl rfl rfl hj | exact q_loadA (j := j) (o := 0) rfl rfl r0.len r0.at_ rfl rfl | exact q_loadA (j := j) (o := 1) rfl rfl r0.len r0.at_ rfl rfl); (exact gy0)) | (apply hwb (hd := rfl); exact qbx; (exact gy0); rfl) | refine hwn ⟨_, rfl, rfl⟩ rfl ?_ | refine hwnu ⟨_, rfl, rfl⟩ rfl ?_))
      obtain ⟨js', hjs⟩ : ∃ js' : List Jt, js' = js.set j (⟨⟨(jat js j).i.x + (dx - 1), (jat js j).i.y + (dy - 1)⟩, (jat js j).o⟩) := ⟨_, rfl⟩
      have hlen : js'.length = js.length := by rw [hjs, List.length_set]
      have hset : (js.map Jt.row ++ more2000000).set j (Jt.row (⟨⟨(jat js j).i.x + (dx - 1), (jat js j).i.y + (dy - 1)⟩, (jat js j).o⟩)) = js'.map Jt.row ++ more2000000 := by
        rw [List.set_append_left _ _ (by simpa using hj), hjs, List.map_set]
      have hs' : SmJ (22 - m) js' := by
        rw [hjs]
        refine (hs.le (by omega)).set j ?_
        unfold smP
        exact ⟨by simp only; omega, by simp only; omega⟩
      (repeat (first | refine WL_nil ?_ | (apply wl0 (hd := rfl); (first | exact qv9); (exact gy0)) | (apply wlb (hd := rfl); exact qbx; (exact gy0); rfl) | refine wln ⟨_, rfl, rfl⟩ rfl ?_ | refine wlnu ⟨_, rfl, rfl⟩ rfl ?_ | refine wst rfl rfl rfl List.not_mem_nil rfl rfl rfl rfl rfl rfl ?_ | refine wstP (j := j) (e := 4) (o := 0) rfl rfl rfl List.not_mem_nil rfl rfl rfl rfl r0.at_ rfl r0.len rfl ?_ | refine W_condT rfl ?_ | refine W_condF rfl ?_ | refine W_region ?_ | refine wN rfl ?_))
      rw [hset]
      cases ha' : archB js'
      · have hok := archOk_ok js' (by omega)
        rw [ha'] at hok
        rw [← hlen]
        (repeat (first | refine WL_nil ?_ | (apply wl0 (hd := rfl); (first | exact qv9 | exact q_callSA (hok)); (exact gy0)) | (apply wlb (hd := rfl); exact qbx; (exact gy0); rfl) | refine wln ⟨_, rfl, rfl⟩ rfl ?_ | refine wlnu ⟨_, rfl, rfl⟩ rfl ?_ | refine wst rfl rfl rfl List.not_mem_nil rfl rfl rfl rfl rfl rfl ?_ | refine W_condT rfl ?_ | refine W_condF rfl ?_ | refine W_region ?_ | refine wN rfl ?_))
        refine Exists.intro _ (Exists.intro _ ⟨?_, ⟨m, u - 1, js, i7, h7, by omega, rfl, by omega, ha, hs.le (by omega), rfl⟩, wkA⟩)
        omega
      · have hok := archOk_ok js' (by omega)
        rw [ha'] at hok
        rw [← hlen]
        (repeat (first | refine WL_nil ?_ | (apply wl0 (hd := rfl); (first | exact qv9 | exact q_callSA (hok)); (exact gy0)) | (apply wlb (hd := rfl); exact qbx; (exact gy0); rfl) | refine wln ⟨_, rfl, rfl⟩ rfl ?_ | refine wlnu ⟨_, rfl, rfl⟩ rfl ?_ | refine wst rfl rfl rfl List.not_mem_nil rfl rfl rfl rfl rfl rfl ?_ | refine W_condT rfl ?_ | refine W_condF rfl ?_ | refine W_region ?_ | refine wN rfl ?_))
        refine Exists.intro _ (Exists.intro _ ⟨?_, ⟨m, u - 1, js', i7, h7, by omega, rfl, by omega, ha', hs', rfl⟩, ?_⟩)
        · omega
        · exact weak_dat 2000000 82 4 (js'.map Jt.row) more2000000.flatten rfl (fun _ hb => ⟨1000000, _, by decide, rfl, hb, rfl⟩) (by rw [← List.flatten_append]; rfl) (jt_lens js') (map_plainB (fun _ => rfl)) (by repeat' (first | exact trivial | refine And.intro ?_ ?_ | exact .inr (.inl rfl))) ⟨⟨_, rfl, .cons (.inl ⟨congrArg (AV.arr 2000000 82 4) (List.length_map _).symm, rfl⟩) .nil⟩, ⟨_, rfl, DLes.refl _⟩, ⟨_, rfl, DLes.refl _⟩, trivial⟩ rfl (by repeat' (first | exact trivial | refine And.intro ?_ ?_ | exact rfl)) rfl rfl (fun k b U hp => by obtain ⟨rfl, rfl, rfl⟩ := hp; simp)
end Go.Proofs.YtkaffcdjhbaifaaGreat

namespace Go.Proofs.YtkaffcdjhbaifaaGreat
open Go.Eng
set_option maxRecDepth 100000
attribute [local irreducible] QV TV WL HW W CallOk Weak

theorem map_len {α : Type} {f : α → List AV} {l : List α} {e : Nat} (hf : ∀ p, (f p).length = e) : ∀ r ∈ l.map f, r.length = e := by
  intro r hr
  obtain ⟨p, _, rfl⟩ := List.mem_map.1 hr; exact hf p
theorem flat_toD {α : Type} {f : α → List AV} {l : List α} (hf : ∀ p, ∀ x ∈ f p, toD x = x) : ∀ x ∈ (l.map f).flatten, toD x = x := by
  intro x hx
  obtain ⟨r, hr, hx⟩ := List.mem_flatten.1 hx
  obtain ⟨p, _, rfl⟩ := List.mem_map.1 hr
  exact hf p x hx

end Go.Proofs.YtkaffcdjhbaifaaGreat
