/- Joints and arches: StoneBetween, ArchOk, CountStones, both ways. -/
import Derived.Test.YtpcahgedkmgllaaGreatYASt
set_option maxHeartbeats 4000000
namespace Go.Eng
open Go
section
variable {E : En} {bl : List (Nat × List AV)} {tm : List (Nat × AV)} {d : Option Tmp} {ty : TypeId} {pos : String} {af : Array Edge} {gd : Option (Nat × Bool)}
theorem q_buildSlice {t len : Nat} {ps : Array (Nat × Operand)} {T e by_ : Nat} {z : List Value} {fl rows : List AV} {out : List (List AV)} (n : Nat) [hs : ZSlOk E.P t T e by_ z]
    (h : buildO (fun i => some (i * e, e)) tm (List.replicate len (z.map AV.v)).flatten ps.toList = some fl) (hl : Nat.ble (len * e) 1048576 = true) (hd : fl.map toD = rows) (hr : chunk e len rows = out) :
    QV E bl tm ⟨d, .buildSlice t len ps, ty, pos, af, gd⟩ (.own n T e out) [] [n] := by
  subst hd; subst hr
  exact QV_buildSlice n (buildO_eq h) (Nat.le_of_ble_eq_true hl)
end
end Go.Eng
namespace Go.Proofs.YtpcahgedkmgllaaGreat
open Go.Eng
set_option maxRecDepth 100000
attribute [local irreducible] QV TV WL HW W CallOk Weak

def quad (a b : Jt) : List Pt := [a.i, b.i, b.o, a.o]
theorem quad_len (a b : Jt) : (quad a b).length ≤ 1048576 := by simp [quad]
def betw (a b : Jt) : AV := .tup [.agg [.own 15 67 2 ((quad a b).map Pt.row)], vb true]
def noBetw : AV := .tup [.agg [.v (.slice none 0 0)], vb false]
theorem stoneBetween_ok (a b : Jt) (h : stoneB (quad a b) = true) : CallOk Tryz.prog 32 [a.av, b.av] (fun r => r = betw a b) := by
  have hs := stoneOk_ok (quad a b) (quad_len a b)
  rw [h] at hs
  refine callOk Tryz.func32 Tryz.ntmps32 Tryz.results32 rfl rfl rfl fun B w0 M I0 V0 => ?_
  (repeat (first | refine WL_nil ?_ | refine zq0 (by first | exact qv9 | exact q_callA (hs)) ?_ | refine zq1 ?_ | refine zq2 ?_ | refine zq3 ?_ | (apply wln1 (hd := rfl); exact q_buildSlice 15 rfl rfl rfl rfl; (exact gy0); rfl) | refine zq4 ?_ | refine zq5 ?_ | refine zq6 ?_ | refine wN rfl ?_))
  refine Exists.intro _ ⟨Weak.refl _, Exists.intro _ ⟨resA_cell rfl rfl rfl (resA_tmp rfl rfl), ?_, rfl⟩⟩
  rfl
theorem stoneBetween_no (a b : Jt) (h : stoneB (quad a b) = false) : CallOk Tryz.prog 32 [a.av, b.av] (fun r => r = noBetw) := by
  have hs := stoneOk_ok (quad a b) (quad_len a b)
  rw [h] at hs
  refine callOk Tryz.func32 Tryz.ntmps32 Tryz.results32 rfl rfl rfl fun B w0 M I0 V0 => ?_
  (repeat (first | refine WL_nil ?_ | refine zq0 (by first | exact qv9 | exact q_callA (hs)) ?_ | refine zq1 ?_ | refine zq2 ?_ | refine zq3 ?_ | (apply wln1 (hd := rfl); exact q_buildSlice 15 rfl rfl rfl rfl; (exact gy0); rfl) | refine zq4 ?_ | refine zq5 ?_ | refine zq6 ?_ | refine wN rfl ?_))
  refine Exists.intro _ ⟨Weak.refl _, Exists.intro _ ⟨resA_cell rfl rfl rfl (resA_tmp rfl rfl), ?_, rfl⟩⟩
  rfl
theorem implStoneBetween_ok (a b : Jt) (h : stoneB (quad a b) = true) : CallOk Tryz.prog 38 [a.av, b.av] (fun r => r = betw a b) := by
  have hs := implStoneOk_ok (quad a b) (quad_len a b)
  rw [h] at hs
  refine callOk Tryz.func38 Tryz.ntmps38 Tryz.results38 rfl rfl rfl fun B w0 M I0 V0 => ?_
  (repeat (first | refine WL_nil ?_ | refine zq0 (by first | exact qv9 | exact q_callA (hs)) ?_ | refine zq1 ?_ | refine zq2 ?_ | refine zq3 ?_ | (apply wln1 (hd := rfl); exact q_buildSlice 15 rfl rfl rfl rfl; (exact gy0); rfl) | refine zq4 ?_ | refine zq5 ?_ | refine zq6 ?_ | refine wN rfl ?_))
  refine Exists.intro _ ⟨Weak.refl _, Exists.intro _ ⟨resA_cell rfl rfl rfl (resA_tmp rfl rfl), ?_, rfl⟩⟩
  rfl
theorem implStoneBetween_no (a b : Jt) (h : stoneB (quad a b) = false) : CallOk Tryz.prog 38 [a.av, b.av] (fun r => r = noBetw) := by
  have hs := implStoneOk_ok (quad a b) (quad_len a b)
  rw [h] at hs
  refine callOk Tryz.func38 Tryz.ntmps38 Tryz.results38 rfl rfl rfl fun B w0 M I0 V0 => ?_
  (repeat (first | refine WL_nil ?_ | refine zq0 (by first | exact qv9 | exact q_callA (hs)) ?_ | refine zq1 ?_ | refine zq2 ?_ | refine zq3 ?_ | (apply wln1 (hd := rfl); exact q_buildSlice 15 rfl rfl rfl rfl; (exact gy0); rfl) | refine zq4 ?_ | refine zq5 ?_ | refine zq6 ?_ | refine wN rfl ?_))
  refine Exists.intro _ ⟨Weak.refl _, Exists.intro _ ⟨resA_cell rfl rfl rfl (resA_tmp rfl rfl), ?_, rfl⟩⟩
  rfl
end Go.Proofs.YtpcahgedkmgllaaGreat

namespace Go.Proofs.YtpcahgedkmgllaaGreat
open Go.Eng
set_option maxRecDepth 100000
attribute [local irreducible] QV TV WL HW W CallOk Weak

def jat (l : List Jt) (i : Nat) : Jt := l.getD i ⟨⟨0, 0⟩, ⟨0, 0⟩⟩
theorem jat_lt {l : List Jt} {i : Nat} (h : i < l.length) : l[i]? = some (jat l i) := by
  simp [jat, h]
theorem pred_at (i : Nat) : ((i + 1 : Nat) : Int) - 1 = ((i : Nat) : Int) := by omega
def stepB (l : List Jt) (i : Nat) : Bool := stoneB (quad (jat l i) (jat l (i + 1))) && decide ((jat l i).i.x < (jat l (i + 1)).i.x)
def archB (l : List Jt) : Bool := inR l.length 3 8 && (List.range (l.length - 1)).all (stepB l)
theorem arch_false {l : List Jt} {i : Nat} (hi : i + 1 < l.length) (h : stepB l i = false) : archB l = false := by
  unfold archB
  rw [all_range_false (by omega) h, Bool.and_false]
theorem arch_len {l : List Jt} (h : archB l = true) : 3 ≤ l.length ∧ l.length ≤ 8 := by
  simp only [archB, Bool.and_eq_true] at h
  have := inR_true.1 h.1
  omega
theorem archOk_ok (l : List Jt) (hn : l.length ≤ 1048576) : CallOk Tryz.prog 18 [.agg [slJt l]] (fun r => r = vb (archB l)) := by
  refine callOk Tryz.func18 Tryz.ntmps18 Tryz.results18 rfl rfl rfl fun B w0 M I0 V0 => ?_
  (repeat (first | refine WL_nil ?_ | refine zq0 qv9 ?_ | refine zq1 ?_ | refine zq2 ?_ | refine zq3 ?_ | refine zq4 ?_ | refine zq5 ?_ | refine zq6 ?_ | refine wN rfl ?_))
  refine W_loop (fun n s => ∃ i : Nat, i ≤ l.length - 1 ∧ n = l.length - 1 - i ∧ (List.range i).all (stepB l) = true ∧ s = ⟨[(1, .ptr 1 0), (3, vi (i + 1 : Nat))], [(1, [slJt l])], []⟩) ⟨_, _, ⟨0, by omega, rfl, rfl, rfl⟩, wkA⟩ ?_
  rintro n s ⟨i, hi, rfl, hall, rfl⟩
  by_cases hlt : i + 1 < l.length
  · have hp := jat_lt (show i < l.length by omega)
    have hq := jat_lt hlt
    (repeat (first | refine WL_nil ?_ | refine zq0 qv9 ?_ | refine zq1 ?_ | refine zq2 ?_ | refine zq3 ?_ | refine zq4 ?_ | refine zq5 ?_ | refine zq6 ?_ | refine wN rfl ?_))
    (refine W_cond rfl (fun hc => ?_) (fun hc => ?_))
    · cases hst : stoneB (quad (jat l i) (jat l (i + 1)))
      · have hs := stoneBetween_no _ _ hst
        (repeat (first | refine WL_nil ?_ | refine zq0 qv9 ?_ | refine zq1 ?_ | refine zq2 ?_ | refine zq3 ?_ | refine zq4 ?_ | refine zq5 ?_ | refine zq6 ?_ | refine wN rfl ?_))
        refine wdraw 18 (by kernel_rfl) (by kernel_rfl) (by kernel_rfl) rfl ?_
        (repeat (first | refine HW_nil ?_ | (apply hw0 (hd := rfl); (first | exact qv9 | exact QV_indexAddr rfl rfl rfl (pred_at i) (row_at hp) | exact QV_indexAddr rfl rfl rfl rfl (row_at hq) | exact q_callA (hs)); (exact gy0)) | (apply hwb (hd := rfl); (first | exact q_box rfl rfl rfl | exact q_allocT rfl); (exact gy0); rfl) | refine zq7 ?_ | refine zq8 ?_ | refine hwi rfl rfl List.not_mem_nil rfl rfl rfl rfl rfl ?_))
        (repeat (first | refine WL_nil ?_ | refine zq0 qv9 ?_ | refine zq1 ?_ | refine zq2 ?_ | refine zq3 ?_ | refine zq4 ?_ | refine zq5 ?_ | refine zq6 ?_ | refine wN rfl ?_))
        refine wdraw 20 (by kernel_rfl) (by kernel_rfl) (by kernel_rfl) rfl ?_
        (repeat (first | refine HW_nil ?_ | (apply hw0 (hd := rfl); (first | exact qv9); (exact gy0)) | (apply hwb (hd := rfl); exact qbx; (exact gy0); rfl) | refine zq7 ?_ | refine zq8 ?_))
        (repeat (first | refine WL_nil ?_ | refine zq0 qv9 ?_ | refine zq1 ?_ | refine zq2 ?_ | refine zq3 ?_ | refine zq4 ?_ | refine zq5 ?_ | refine zq6 ?_ | refine wN rfl ?_))
        refine Exists.intro _ ⟨Weak.refl _, Exists.intro _ ⟨resA_tmp rfl rfl, ?_, rfl⟩⟩
        exact vb_eq (arch_false hlt (by simp [stepB, hst])).symm
      · have hs := stoneBetween_ok _ _ hst
        (repeat (first | refine WL_nil ?_ | refine zq0 qv9 ?_ | refine zq1 ?_ | refine zq2 ?_ | refine zq3 ?_ | refine zq4 ?_ | refine zq5 ?_ | refine zq6 ?_ | refine wN rfl ?_))
        refine wdraw 18 (by kernel_rfl) (by kernel_rfl) (by kernel_rfl) rfl ?_
        (repeat (first | refine HW_nil ?_ | (apply hw0 (hd := rfl); (first | exact qv9 | exact QV_indexAddr rfl rfl rfl (pred_at i) (row_at hp) | exact QV_indexAddr rfl rfl rfl rfl (row_at hq)); (exact gy0)) | (apply hwb (hd := rfl); (first | exact q_box rfl rfl rfl | exact q_allocT rfl); (exact gy0); rfl) | refine zq7 ?_ | refine zq8 ?_ | (apply hwn1 (hd := rfl); exact q_call1A 20 15 (hs); (exact gy0); rfl) | refine hwi rfl rfl List.not_mem_nil rfl rfl rfl rfl rfl ?_))
        (repeat (first | refine WL_nil ?_ | refine zq0 qv9 ?_ | refine zq1 ?_ | refine zq2 ?_ | refine zq3 ?_ | refine zq4 ?_ | refine zq5 ?_ | refine zq6 ?_ | refine wN rfl ?_))
        refine wdraw 20 (by kernel_rfl) (by kernel_rfl) (by kernel_rfl) rfl ?_
        (repeat (first | refine HW_nil ?_ | (apply hw0 (hd := rfl); (first | exact qv9 | exact QV_indexAddr rfl rfl rfl (pred_at i) (row_at hp) | exact QV_indexAddr rfl rfl rfl rfl (row_at hq)); (exact gy0)) | (apply hwb (hd := rfl); exact qbx; (exact gy0); rfl) | refine zq7 ?_ | refine zq8 ?_))
        (repeat (first | refine WL_nil ?_ | refine zq0 qv9 ?_ | refine zq1 ?_ | refine zq2 ?_ | refine zq3 ?_ | refine zq4 ?_ | refine zq5 ?_ | refine zq6 ?_ | refine wN rfl ?_))
        (refine W_cond rfl (fun hc => ?_) (fun hc => ?_))
        · (repeat (first | refine WL_nil ?_ | refine zq0 qv9 ?_ | refine zq1 ?_ | refine zq2 ?_ | refine zq3 ?_ | refine zq4 ?_ | refine zq5 ?_ | refine zq6 ?_ | refine wN rfl ?_))
          refine Exists.intro _ ⟨Weak.refl _, Exists.intro _ ⟨resA_tmp rfl rfl, ?_, rfl⟩⟩
          exact vb_eq (arch_false hlt (by simp [stepB, hst]; simp at hc; omega)).symm
        · (repeat (first | refine WL_nil ?_ | refine zq0 qv9 ?_ | refine zq1 ?_ | refine zq2 ?_ | refine zq3 ?_ | refine zq4 ?_ | refine zq5 ?_ | refine zq6 ?_ | refine wN rfl ?_))
          refine Exists.intro _ (Exists.intro _ ⟨?_, ⟨i + 1, by omega, rfl, by rw [all_range_succ, hall]; simp [stepB, hst]; simp at hc; omega, rfl⟩, wkA⟩)
          omega
    · simp at hc; omega
  · (repeat (first | refine WL_nil ?_ | refine zq0 qv9 ?_ | refine zq1 ?_ | refine zq2 ?_ | refine zq3 ?_ | refine zq4 ?_ | refine zq5 ?_ | refine zq6 ?_ | refine wN rfl ?_))
    (refine W_cond rfl (fun hc => ?_) (fun hc => ?_))
    · simp at hc; omega
    · (repeat (first | refine WL_nil ?_ | refine zq0 (by first | exact qv9 | exact q_callA (l01In_ok _ _ _)) ?_ | refine zq1 ?_ | refine zq2 ?_ | refine zq3 ?_ | refine zq4 ?_ | refine zq5 ?_ | refine zq6 ?_ | refine wN rfl ?_))
      refine Exists.intro _ ⟨Weak.refl _, Exists.intro _ ⟨resA_tmp rfl rfl, ?_, rfl⟩⟩
      have : i = l.length - 1 := by omega
      subst this
      exact vb_eq (by simp [archB, hall])
theorem implArchOk_ok (l : List Jt) (hn : l.length ≤ 1048576) : CallOk Tryz.prog 34 [.agg [slJt l]] (fun r => r = vb (archB l)) := by
  have hw := within_ok l.length 3 8
  refine callOk Tryz.func34 Tryz.ntmps34 Tryz.results34 rfl rfl rfl fun B w0 M I0 V0 => ?_
  cases hin : inR l.length 3 8
  · rw [hin] at hw
    (repeat (first | refine WL_nil ?_ | refine zq0 (by first | exact qv9 | exact q_callA (hw)) ?_ | refine zq1 ?_ | refine zq2 ?_ | refine zq3 ?_ | refine zq4 ?_ | refine zq5 ?_ | refine zq6 ?_ | refine wN rfl ?_))
    refine Exists.intro _ ⟨Weak.refl _, Exists.intro _ ⟨resA_tmp rfl rfl, ?_, rfl⟩⟩
    exact vb_eq (by simp [archB, hin])
  · rw [hin] at hw
    (repeat (first | refine WL_nil ?_ | refine zq0 (by first | exact qv9 | exact q_callA (hw)) ?_ | refine zq1 ?_ | refine zq2 ?_ | refine zq3 ?_ | refine zq4 ?_ | refine zq5 ?_ | refine zq6 ?_ | refine wN rfl ?_))
    refine W_loop (fun n s => ∃ i : Nat, i ≤ l.length - 1 ∧ n = l.length - 1 - i ∧ (List.range i).all (stepB l) = true ∧ s = ⟨[(1, .ptr 1 0), (3, vi (i + 1 : Nat))], [(1, [slJt l])], []⟩) ⟨_, _, ⟨0, by omega, rfl, rfl, rfl⟩, wkA⟩ ?_
    rintro n s ⟨i, hi, rfl, hall, rfl⟩
    by_cases hlt : i + 1 < l.length
    · have hp := jat_lt (show i < l.length by omega)
      have hq := jat_lt hlt
      (repeat (first | refine WL_nil ?_ | refine zq0 qv9 ?_ | refine zq1 ?_ | refine zq2 ?_ | refine zq3 ?_ | refine zq4 ?_ | refine zq5 ?_ | refine zq6 ?_ | refine wN rfl ?_))
      (refine W_cond rfl (fun hc => ?_) (fun hc => ?_))
      · cases hst : stoneB (quad (jat l i) (jat l (i + 1)))
        · have hs := implStoneBetween_no _ _ hst
          (repeat (first | refine WL_nil ?_ | refine zq0 qv9 ?_ | refine zq1 ?_ | refine zq2 ?_ | refine zq3 ?_ | refine zq4 ?_ | refine zq5 ?_ | refine zq6 ?_ | refine wN rfl ?_))
          refine wdraw 18 (by kernel_rfl) (by kernel_rfl) (by kernel_rfl) rfl ?_
          (repeat (first | refine HW_nil ?_ | (apply hw0 (hd := rfl); (first | exact qv9 | exact QV_indexAddr rfl rfl rfl (pred_at i) (row_at hp) | exact QV_indexAddr rfl rfl rfl rfl (row_at hq) | exact q_callA (hs)); (exact gy0)) | (apply hwb (hd := rfl); (first | exact q_box rfl rfl rfl | exact q_allocT rfl); (exact gy0); rfl) | refine zq7 ?_ | refine zq8 ?_ | refine hwi rfl rfl List.not_mem_nil rfl rfl rfl rfl rfl ?_))
          (repeat (first | refine WL_nil ?_ | refine zq0 qv9 ?_ | refine zq1 ?_ | refine zq2 ?_ | refine zq3 ?_ | refine zq4 ?_ | refine zq5 ?_ | refine zq6 ?_ | refine wN rfl ?_))
          refine wdraw 20 (by kernel_rfl) (by kernel_rfl) (by kernel_rfl) rfl ?_
          (repeat (first | refine HW_nil ?_ | (apply hw0 (hd := rfl); (first | exact qv9); (exact gy0)) | (apply hwb (hd := rfl); exact qbx; (exact gy0); rfl) | refine zq7 ?_ | refine zq8 ?_))
          (repeat (first | refine WL_nil ?_ | refine zq0 qv9 ?_ | refine zq1 ?_ | refine zq2 ?_ | refine zq3 ?_ | refine zq4 ?_ | refine zq5 ?_ | refine zq6 ?_ | refine wN rfl ?_))
          refine Exists.intro _ ⟨Weak.refl _, Exists.intro _ ⟨resA_tmp rfl rfl, ?_, rfl⟩⟩
          exact vb_eq (arch_false hlt (by simp [stepB, hst])).symm
        · have hs := implStoneBetween_ok _ _ hst
          (repeat (first | refine WL_nil ?_ | refine zq0 qv9 ?_ | refine zq1 ?_ | refine zq2 ?_ | refine zq3 ?_ | refine zq4 ?_ | refine zq5 ?_ | refine zq6 ?_ | refine wN rfl ?_))
          refine wdraw 18 (by kernel_rfl) (by kernel_rfl) (by kernel_rfl) rfl ?_
          (repeat (first | refine HW_nil ?_ | (apply hw0 (hd := rfl); (first | exact qv9 | exact QV_indexAddr rfl rfl rfl (pred_at i) (row_at hp) | exact QV_indexAddr rfl rfl rfl rfl (row_at hq)); (exact gy0)) | (apply hwb (hd := rfl); (first | exact q_box rfl rfl rfl | exact q_allocT rfl); (exact gy0); rfl) | refine zq7 ?_ | refine zq8 ?_ | (apply hwn1 (hd := rfl); exact q_call1A 20 15 (hs); (exact gy0); rfl) | refine hwi rfl rfl List.not_mem_nil rfl rfl rfl rfl rfl ?_))
          (repeat (first | refine WL_nil ?_ | refine zq0 qv9 ?_ | refine zq1 ?_ | refine zq2 ?_ | refine zq3 ?_ | refine zq4 ?_ | refine zq5 ?_ | refine zq6 ?_ | refine wN rfl ?_))
          refine wdraw 20 (by kernel_rfl) (by kernel_rfl) (by kernel_rfl) rfl ?_
          (repeat (first | refine HW_nil ?_ | (apply hw0 (hd := rfl); (first | exact qv9 | exact QV_indexAddr rfl rfl rfl (pred_at i) (row_at hp) | exact QV_indexAddr rfl rfl rfl rfl (row_at hq)); (exact gy0)) | (apply hwb (hd := rfl); exact qbx; (exact gy0); rfl) | refine zq7 ?_ | refine zq8 ?_))
          (repeat (first | refine WL_nil ?_ | refine zq0 qv9 ?_ | refine zq1 ?_ | refine zq2 ?_ | refine zq3 ?_ | refine zq4 ?_ | refine zq5 ?_ | refine zq6 ?_ | refine wN rfl ?_))
          (refine W_cond rfl (fun hc => ?_) (fun hc => ?_))
          · (repeat (first | refine WL_nil ?_ | refine zq0 qv9 ?_ | refine zq1 ?_ | refine zq2 ?_ | refine zq3 ?_ | refine zq4 ?_ | refine zq5 ?_ | refine zq6 ?_ | refine wN rfl ?_))
            refine Exists.intro _ ⟨Weak.refl _, Exists.intro _ ⟨resA_tmp rfl rfl, ?_, rfl⟩⟩
            exact vb_eq (arch_false hlt (by simp [stepB, hst]; simp at hc; omega)).symm
          · (repeat (first | refine WL_nil ?_ | refine zq0 qv9 ?_ | refine zq1 ?_ | refine zq2 ?_ | refine zq3 ?_ | refine zq4 ?_ | refine zq5 ?_ | refine zq6 ?_ | refine wN rfl ?_))
            refine Exists.intro _ (Exists.intro _ ⟨?_, ⟨i + 1, by omega, rfl, by rw [all_range_succ, hall]; simp [stepB, hst]; simp at hc; omega, rfl⟩, wkA⟩)
            omega
      · simp at hc; omega
    · (repeat (first | refine WL_nil ?_ | refine zq0 qv9 ?_ | refine zq1 ?_ | refine zq2 ?_ | refine zq3 ?_ | refine zq4 ?_ | refine zq5 ?_ | refine zq6 ?_ | refine wN rfl ?_))
      (refine W_cond rfl (fun hc => ?_) (fun hc => ?_))
      · simp at hc; omega
      · (repeat (first | refine WL_nil ?_ | refine zq0 qv9 ?_ | refine zq1 ?_ | refine zq2 ?_ | refine zq3 ?_ | refine zq4 ?_ | refine zq5 ?_ | refine zq6 ?_ | refine wN rfl ?_))
        refine Exists.intro _ ⟨Weak.refl _, Exists.intro _ ⟨resA_tmp rfl rfl, ?_, rfl⟩⟩
        have : i = l.length - 1 := by omega
        subst this
        exact vb_eq (by simp [archB, hall, hin])
theorem last_at {n : Nat} (h : 0 < n) : (n : Int) - 1 = ((n - 1 : Nat) : Int) := by omega
end Go.Proofs.YtpcahgedkmgllaaGreat

namespace Go.Proofs.YtpcahgedkmgllaaGreat
open Go.Eng
set_option maxRecDepth 100000
attribute [local irreducible] QV TV WL HW W CallOk Weak

def crossW (a b : Pt) : Int := W64 (W64 (a.x * b.y) - W64 (a.y * b.x))
def sumW (f : Nat → Int) : Nat → Int
  | 0 => 0
  | k + 1 => W64 (sumW f k + f k)
def areaW (l : List Pt) : Int := if stoneB l then sumW (fun i => crossW (cor l i) (cor l (i + 1))) l.length else 0
def overW (F : Pt → Pt → Int) (l : List Pt) : Int := if stoneB l then sumW (fun i => W64 (F (cor l i) (cor l (i + 1)) * crossW (cor l i) (cor l (i + 1)))) l.length else 0
def weightW (l : List Pt) : Int := W64 (3 * areaW l)
def momF (a b : Pt) : Int := W64 (a.x + b.x)
theorem w64_idem (n : Int) : W64 (W64 n) = W64 n := by
  refine w64 ?_
  show _ ≤ IntKind.i64.wrap n ∧ IntKind.i64.wrap n ≤ _
  rw [IntKind.wrap_i64]; omega
theorem over_one (l : List Pt) : overW (fun _ _ => 1) l = areaW l := by
  have : ∀ a b : Pt, W64 (1 * crossW a b) = crossW a b := fun a b => by rw [Int.one_mul]; exact w64_idem _
  simp only [overW, areaW, this]
theorem stone_len {l : List Pt} (h : stoneB l = true) : 3 ≤ l.length ∧ l.length ≤ 6 := by
  simp only [stoneB, Bool.and_eq_true] at h
  have := inR_true.1 h.1
  omega




theorem overCorners_ok (f : Nat) [FnOk Tryz.prog f] (F : Pt → Pt → Int) (hF : ∀ a b, CallOk Tryz.prog f [a.av, b.av] (fun r => r = vi (F a b))) (l : List Pt) (hn : l.length ≤ 1048576) : CallOk Tryz.prog 57 [.agg [slPt l], .v (.func (.func f) #[] #[])] (fun r => r = vi (overW F l)) := by
  have hok := implStoneOk_ok l hn
  refine callOk Tryz.func57 Tryz.ntmps57 Tryz.results57 rfl rfl rfl fun B w0 M I0 V0 => ?_
  cases hst : stoneB l
  · rw [hst] at hok
    (repeat (first | refine WL_nil ?_ | refine zq0 (by first | exact qv9 | exact q_callA (hok)) ?_ | refine zq1 ?_ | refine zq2 ?_ | refine zq3 ?_ | refine zq4 ?_ | refine zq5 ?_ | refine zq6 ?_ | refine wN rfl ?_))
    refine Exists.intro _ ⟨Weak.refl _, Exists.intro _ ⟨resA_tmp rfl rfl, ?_, rfl⟩⟩
    exact vi_eq (by simp [overW, hst])
  · rw [hst] at hok
    have h0 : 0 < l.length := by have := stone_len hst; omega
    (repeat (first | refine WL_nil ?_ | refine zq0 (by first | exact qv9 | exact q_callA (hok)) ?_ | refine zq1 ?_ | refine zq2 ?_ | refine zq3 ?_ | refine zq4 ?_ | refine zq5 ?_ | refine zq6 ?_ | refine wN rfl ?_))
    refine W_loop (fun n s => ∃ k : Nat, k ≤ l.length ∧ n = l.length - k ∧ s = ⟨[(1, .v (.func (.func f) #[] #[])), (2, .ptr 2 0), (5, vi (sumW (fun i => W64 (F (cor l i) (cor l (i + 1)) * crossW (cor l i) (cor l (i + 1)))) k)), (14, vi l.length), (15, vi k)], [(2, [slPt l])], []⟩) ⟨_, _, ⟨0, by omega, rfl, rfl⟩, wkA⟩ ?_
    rintro n s ⟨k, hk, rfl, rfl⟩
    by_cases hlt : k < l.length
    · have hp := cor_lt hlt
      have hp1 := cor_at (i := k + 1) h0
      (repeat (first | refine WL_nil ?_ | refine zq0 qv9 ?_ | refine zq1 ?_ | refine zq2 ?_ | refine zq3 ?_ | refine zq4 ?_ | refine zq5 ?_ | refine zq6 ?_ | refine wN rfl ?_))
      (refine W_cond rfl (fun hc => ?_) (fun hc => ?_))
      · (repeat (first | refine WL_nil ?_ | refine zq0 qv9 ?_ | refine zq1 ?_ | refine zq2 ?_ | refine zq3 ?_ | refine zq4 ?_ | refine zq5 ?_ | refine zq6 ?_ | refine wN rfl ?_))
        refine wdraw 19 (by kernel_rfl) (by kernel_rfl) (by kernel_rfl) rfl ?_
        (repeat (first | refine HW_nil ?_ | (apply hw0 (hd := rfl); (first | exact qv9 | exact QV_div rfl rfl (by omega) rfl | exact QV_indexAddr rfl rfl rfl rfl (row_at hp) | exact QV_indexAddr rfl rfl rfl (rem_at k 1 _) (row_at hp1)); (exact gy0)) | (apply hwb (hd := rfl); (first | exact q_box rfl rfl rfl | exact q_allocT rfl); (exact gy0); rfl) | refine zq7 ?_ | refine zq8 ?_ | refine hwi rfl rfl List.not_mem_nil rfl rfl rfl rfl rfl ?_))
        (repeat (first | refine WL_nil ?_ | refine zq0 qv9 ?_ | refine zq1 ?_ | refine zq2 ?_ | refine zq3 ?_ | refine zq4 ?_ | refine zq5 ?_ | refine zq6 ?_ | refine wN rfl ?_))
        refine wdraw 19 (by kernel_rfl) (by kernel_rfl) (by kernel_rfl) rfl ?_
        (repeat (first | refine HW_nil ?_ | (apply hw0 (hd := rfl); (first | exact qv9 | exact q_callA (hF _ _)); (exact gy0)) | (apply hwb (hd := rfl); exact qbx; (exact gy0); rfl) | refine zq7 ?_ | refine zq8 ?_))
        (repeat (first | refine WL_nil ?_ | refine zq0 qv9 ?_ | refine zq1 ?_ | refine zq2 ?_ | refine zq3 ?_ | refine zq4 ?_ | refine zq5 ?_ | refine zq6 ?_ | refine wN rfl ?_))
        refine Exists.intro _ (Exists.intro _ ⟨?_, ⟨k + 1, by omega, rfl, rfl⟩, wkA⟩)
        omega
      · simp at hc; omega
    · (repeat (first | refine WL_nil ?_ | refine zq0 qv9 ?_ | refine zq1 ?_ | refine zq2 ?_ | refine zq3 ?_ | refine zq4 ?_ | refine zq5 ?_ | refine zq6 ?_ | refine wN rfl ?_))
      (refine W_cond rfl (fun hc => ?_) (fun hc => ?_))
      · simp at hc; omega
      · have hk' : k = l.length := by omega
        subst hk'
        (repeat (first | refine WL_nil ?_ | refine zq0 qv9 ?_ | refine zq1 ?_ | refine zq2 ?_ | refine zq3 ?_ | refine zq4 ?_ | refine zq5 ?_ | refine zq6 ?_ | refine wN rfl ?_))
        refine Exists.intro _ ⟨Weak.refl _, Exists.intro _ ⟨resA_tmp rfl rfl, ?_, rfl⟩⟩
        exact vi_eq (by simp [overW, hst])
theorem area1_ok (a b : Pt) : CallOk Tryz.prog 89 [a.av, b.av] (fun r => r = vi 1) := by
  refine callOk Tryz.func89 Tryz.ntmps89 Tryz.results89 rfl rfl rfl fun B w0 M I0 V0 => ?_
  (repeat (first | refine WL_nil ?_ | refine zq0 qv9 ?_ | refine zq1 ?_ | refine zq2 ?_ | refine zq3 ?_ | refine zq4 ?_ | refine zq5 ?_ | refine zq6 ?_ | refine wN rfl ?_))
  refine Exists.intro _ ⟨Weak.refl _, Exists.intro _ ⟨resA_tmp rfl rfl, ?_, rfl⟩⟩
  rfl
theorem implAreaTwice_ok (l : List Pt) (hn : l.length ≤ 1048576) : CallOk Tryz.prog 56 [.agg [slPt l]] (fun r => r = vi (areaW l)) := by
  rw [← over_one]
  refine callOk Tryz.func56 Tryz.ntmps56 Tryz.results56 rfl rfl rfl fun B w0 M I0 V0 => ?_
  (repeat (first | refine WL_nil ?_ | refine zq0 (by first | exact qv9 | exact q_callA (overCorners_ok _ _ area1_ok l hn)) ?_ | refine zq1 ?_ | refine zq2 ?_ | refine zq3 ?_ | refine zq4 ?_ | refine zq5 ?_ | refine zq6 ?_ | refine wN rfl ?_))
  refine Exists.intro _ ⟨Weak.refl _, Exists.intro _ ⟨resA_tmp rfl rfl, ?_, rfl⟩⟩
  rfl
theorem mom1_ok (a b : Pt) : CallOk Tryz.prog 58 [a.av, b.av] (fun r => r = vi (momF a b)) := by
  refine callOk Tryz.func58 Tryz.ntmps58 Tryz.results58 rfl rfl rfl fun B w0 M I0 V0 => ?_
  (repeat (first | refine WL_nil ?_ | refine zq0 qv9 ?_ | refine zq1 ?_ | refine zq2 ?_ | refine zq3 ?_ | refine zq4 ?_ | refine zq5 ?_ | refine zq6 ?_ | refine wN rfl ?_))
  refine Exists.intro _ ⟨Weak.refl _, Exists.intro _ ⟨resA_tmp rfl rfl, ?_, rfl⟩⟩
  rfl
theorem implMomentOf_ok (l : List Pt) (hn : l.length ≤ 1048576) : CallOk Tryz.prog 40 [.agg [slPt l]] (fun r => r = vi (overW momF l)) := by
  refine callOk Tryz.func40 Tryz.ntmps40 Tryz.results40 rfl rfl rfl fun B w0 M I0 V0 => ?_
  (repeat (first | refine WL_nil ?_ | refine zq0 (by first | exact qv9 | exact q_callA (overCorners_ok _ _ mom1_ok l hn)) ?_ | refine zq1 ?_ | refine zq2 ?_ | refine zq3 ?_ | refine zq4 ?_ | refine zq5 ?_ | refine zq6 ?_ | refine wN rfl ?_))
  refine Exists.intro _ ⟨Weak.refl _, Exists.intro _ ⟨resA_tmp rfl rfl, ?_, rfl⟩⟩
  rfl
theorem implWeightOf_ok (l : List Pt) (hn : l.length ≤ 1048576) : CallOk Tryz.prog 39 [.agg [slPt l]] (fun r => r = vi (weightW l)) := by
  refine callOk Tryz.func39 Tryz.ntmps39 Tryz.results39 rfl rfl rfl fun B w0 M I0 V0 => ?_
  (repeat (first | refine WL_nil ?_ | refine zq0 (by first | exact qv9 | exact q_callA (implAreaTwice_ok l hn)) ?_ | refine zq1 ?_ | refine zq2 ?_ | refine zq3 ?_ | refine zq4 ?_ | refine zq5 ?_ | refine zq6 ?_ | refine wN rfl ?_))
  refine Exists.intro _ ⟨Weak.refl _, Exists.intro _ ⟨resA_tmp rfl rfl, ?_, rfl⟩⟩
  rfl
end Go.Proofs.YtpcahgedkmgllaaGreat

namespace Go.Proofs.YtpcahgedkmgllaaGreat
open Go.Eng
set_option maxRecDepth 100000
attribute [local irreducible] QV TV WL HW W CallOk Weak

theorem map_len {α : Type} {f : α → List AV} {l : List α} {e : Nat} (hf : ∀ p, (f p).length = e) : ∀ r ∈ l.map f, r.length = e := by
  intro r hr
  obtain ⟨p, _, rfl⟩ := List.mem_map.1 hr; exact hf p
theorem flat_toD {α : Type} {f : α → List AV} {l : List α} (hf : ∀ p, ∀ x ∈ f p, toD x = x) : ∀ x ∈ (l.map f).flatten, toD x = x := by
  intro x hx
  obtain ⟨r, hr, hx⟩ := List.mem_flatten.1 hx
  obtain ⟨p, _, rfl⟩ := List.mem_map.1 hr
  exact hf p x hx

end Go.Proofs.YtpcahgedkmgllaaGreat
