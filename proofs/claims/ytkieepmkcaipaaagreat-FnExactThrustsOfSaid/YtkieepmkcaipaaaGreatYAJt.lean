/- Joints and arches: StoneBetween, ArchOk, CountStones, both ways. -/
import Derived.Test.YtkieepmkcaipaaaGreatYASt
namespace Go.Eng
open Go
section
variable {E : En} {bl : List (Nat × List AV)} {tm : List (Nat × AV)} {d : Option Tmp} {ty : TypeId} {pos : String} {af : Array Edge} {gd : Option (Nat × Bool)}
theorem q_buildSlice {t len : Nat} {ps : Array (Nat × Operand)} {T e by_ : Nat} {z : List Value} {fl rows : List AV} {out : List (List AV)} (n : Nat) [hs : ZSlOk E.P t T e by_ z]
    (h : buildO (fun i => some (i * e, e)) tm (List.replicate len (z.map AV.v)).flatten ps.toList = some fl) (hl : Nat.ble (len * e) 1048576 = true) (hd : fl.map toD = rows) (hr : chunk e len rows = out) :
    QV E bl tm ⟨d, .buildSlice t len ps, ty, pos, af, gd⟩ (.own n T e out) [] [n] := by
  subst hd; subst hr
  exact QV_buildSlice n (buildO_eq h) (Nat.le_of_ble_eq_true hl)
end
end Go.Eng
namespace Go.Proofs.YtkieepmkcaipaaaGreat
open Go.Eng
set_option maxRecDepth 100000
attribute [local irreducible] QV TV WL HW W CallOk Weak

def quad (a b : Jt) : List Pt := [a.i, b.i, b.o, a.o]
theorem quad_len (a b : Jt) : (quad a b).length ≤ 1048576 := by simp [quad]
def betw (a b : Jt) : AV := .tup [.agg [.own 15 77 2 ((quad a b).map Pt.row)], vb true]
def noBetw : AV := .tup [.agg [.v (.slice none 0 0)], vb false]
theorem stoneBetween_ok (a b : Jt) (h : stoneB (quad a b) = true) : CallOk Tryz.prog 119 [a.av, b.av] (fun r => r = betw a b) := by
  have hs := stoneOk_ok (quad a b) (quad_len a b)
  rw [h] at hs
  refine callOk Tryz.func119 Tryz.ntmps119 Tryz.results119 rfl rfl rfl fun B w0 M I0 V0 => ?_
  (repeat (first | refine WL_nil ?_ | (apply wl0 (hd := rfl); (first | exact qv0 | exact QV_bne Tryz.underlying4 rfl rfl | exact QV_beq Tryz.underlying4 rfl rfl | exact qv1 | exact q_callA (hs)); (exact gy0)) | (apply wlb (hd := rfl); (first | exact q_box rfl rfl rfl | exact q_alloc); (exact gy0); rfl) | refine wln ⟨_, rfl, rfl⟩ rfl ?_ | refine wlnu ⟨_, rfl, rfl⟩ rfl ?_ | (apply wln1 (hd := rfl); exact q_buildSlice 15 rfl rfl rfl rfl; (exact gy0); rfl) | refine wst rfl rfl rfl List.not_mem_nil rfl rfl rfl rfl rfl rfl ?_ | refine W_seq ?_ | refine W_condT rfl ?_ | refine W_condF rfl ?_ | refine W_region ?_ | refine W_skip ?_ | refine W_ret ?_ | refine W_block ?_ | refine W_exit ?_))
  refine Exists.intro _ ⟨Weak.refl _, Exists.intro _ ⟨resA_cell rfl rfl rfl (resA_tmp rfl rfl), ?_, rfl⟩⟩
  rfl
theorem stoneBetween_no (a b : Jt) (h : stoneB (quad a b) = false) : CallOk Tryz.prog 119 [a.av, b.av] (fun r => r = noBetw) := by
  have hs := stoneOk_ok (quad a b) (quad_len a b)
  rw [h] at hs
  refine callOk Tryz.func119 Tryz.ntmps119 Tryz.results119 rfl rfl rfl fun B w0 M I0 V0 => ?_
  (repeat (first | refine WL_nil ?_ | (apply wl0 (hd := rfl); (first | exact qv0 | exact QV_bne Tryz.underlying4 rfl rfl | exact QV_beq Tryz.underlying4 rfl rfl | exact qv1 | exact q_callA (hs)); (exact gy0)) | (apply wlb (hd := rfl); (first | exact q_box rfl rfl rfl | exact q_alloc); (exact gy0); rfl) | refine wln ⟨_, rfl, rfl⟩ rfl ?_ | refine wlnu ⟨_, rfl, rfl⟩ rfl ?_ | (apply wln1 (hd := rfl); exact q_buildSlice 15 rfl rfl rfl rfl; (exact gy0); rfl) | refine wst rfl rfl rfl List.not_mem_nil rfl rfl rfl rfl rfl rfl ?_ | refine W_seq ?_ | refine W_condT rfl ?_ | refine W_condF rfl ?_ | refine W_region ?_ | refine W_skip ?_ | refine W_ret ?_ | refine W_block ?_ | refine W_exit ?_))
  refine Exists.intro _ ⟨Weak.refl _, Exists.intro _ ⟨resA_cell rfl rfl rfl (resA_tmp rfl rfl), ?_, rfl⟩⟩
  rfl
theorem implStoneBetween_ok (a b : Jt) (h : stoneB (quad a b) = true) : CallOk Tryz.prog 123 [a.av, b.av] (fun r => r = betw a b) := by
  have hs := implStoneOk_ok (quad a b) (quad_len a b)
  rw [h] at hs
  refine callOk Tryz.func123 Tryz.ntmps123 Tryz.results123 rfl rfl rfl fun B w0 M I0 V0 => ?_
  (repeat (first | refine WL_nil ?_ | (apply wl0 (hd := rfl); (first | exact qv0 | exact QV_bne Tryz.underlying4 rfl rfl | exact QV_beq Tryz.underlying4 rfl rfl | exact qv1 | exact q_callA (hs)); (exact gy0)) | (apply wlb (hd := rfl); (first | exact q_box rfl rfl rfl | exact q_alloc); (exact gy0); rfl) | refine wln ⟨_, rfl, rfl⟩ rfl ?_ | refine wlnu ⟨_, rfl, rfl⟩ rfl ?_ | (apply wln1 (hd := rfl); exact q_buildSlice 15 rfl rfl rfl rfl; (exact gy0); rfl) | refine wst rfl rfl rfl List.not_mem_nil rfl rfl rfl rfl rfl rfl ?_ | refine W_seq ?_ | refine W_condT rfl ?_ | refine W_condF rfl ?_ | refine W_region ?_ | refine W_skip ?_ | refine W_ret ?_ | refine W_block ?_ | refine W_exit ?_))
  refine Exists.intro _ ⟨Weak.refl _, Exists.intro _ ⟨resA_cell rfl rfl rfl (resA_tmp rfl rfl), ?_, rfl⟩⟩
  rfl
theorem implStoneBetween_no (a b : Jt) (h : stoneB (quad a b) = false) : CallOk Tryz.prog 123 [a.av, b.av] (fun r => r = noBetw) := by
  have hs := implStoneOk_ok (quad a b) (quad_len a b)
  rw [h] at hs
  refine callOk Tryz.func123 Tryz.ntmps123 Tryz.results123 rfl rfl rfl fun B w0 M I0 V0 => ?_
  (repeat (first | refine WL_nil ?_ | (apply wl0 (hd := rfl); (first | exact qv0 | exact QV_bne Tryz.underlying4 rfl rfl | exact QV_beq Tryz.underlying4 rfl rfl | exact qv1 | exact q_callA (hs)); (exact gy0)) | (apply wlb (hd := rfl); (first | exact q_box rfl rfl rfl | exact q_alloc); (exact gy0); rfl) | refine wln ⟨_, rfl, rfl⟩ rfl ?_ | refine wlnu ⟨_, rfl, rfl⟩ rfl ?_ | (apply wln1 (hd := rfl); exact q_buildSlice 15 rfl rfl rfl rfl; (exact gy0); rfl) | refine wst rfl rfl rfl List.not_mem_nil rfl rfl rfl rfl rfl rfl ?_ | refine W_seq ?_ | refine W_condT rfl ?_ | refine W_condF rfl ?_ | refine W_region ?_ | refine W_skip ?_ | refine W_ret ?_ | refine W_block ?_ | refine W_exit ?_))
  refine Exists.intro _ ⟨Weak.refl _, Exists.intro _ ⟨resA_cell rfl rfl rfl (resA_tmp rfl rfl), ?_, rfl⟩⟩
  rfl
end Go.Proofs.YtkieepmkcaipaaaGreat
