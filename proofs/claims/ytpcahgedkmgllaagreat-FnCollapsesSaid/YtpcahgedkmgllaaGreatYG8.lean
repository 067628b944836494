/- cornersFrom. -/
import Derived.Test.YtpcahgedkmgllaaGreatYASv
import Derived.Test.YtpcahgedkmgllaaGreatYG6
import Derived.Test.YtpcahgedkmgllaaGreatYG1
set_option maxHeartbeats 4000000
namespace Go.Proofs.YtpcahgedkmgllaaGreat
open Go.Eng
set_option maxRecDepth 100000
attribute [local irreducible] QV TV WL HW W CallOk Weak

def addF (l : List Rw) (out : List Th) : Option Th → List Th
  | none => out
  | some t => bif fulAll t l then out ++ [t] else out
def frM (l : List Rw) (i k : Nat) (out : List Th) : Nat → List Th
  | 0 => out
  | n + 1 => addF l (frM l i k out n) (slvA l i k (k + 1 + n))
def frK (l : List Rw) (i : Nat) (out : List Th) : Nat → List Th
  | 0 => out
  | n + 1 => frM l i (i + 1 + n) (frK l i out n) (l.length - (i + 1 + n + 1))
def frI (l : List Rw) (i : Nat) : List Th := frK l i [] (l.length - (i + 1))
theorem frM_len (l : List Rw) (i k : Nat) (out : List Th) : ∀ n, (frM l i k out n).length ≤ out.length + n
  | 0 => by simp [frM]
  | n + 1 => by
    have h1 := frM_len l i k out n
    simp only [frM]
    cases slvA l i k (k + 1 + n) with
    | none => simp only [addF]; omega
    | some t => simp only [addF]; cases fulAll t l <;> simp <;> omega
theorem frK_len (l : List Rw) (hl : l.length ≤ 20) (i : Nat) (out : List Th) : ∀ n, (frK l i out n).length ≤ out.length + 20 * n
  | 0 => by simp [frK]
  | n + 1 => by
    have h1 := frK_len l hl i out n
    have h2 := frM_len l i (i + 1 + n) (frK l i out n) (l.length - (i + 1 + n + 1))
    simp only [frK]; omega
theorem frI_len (l : List Rw) (hl : l.length ≤ 20) (i : Nat) : (frI l i).length ≤ 400 := by
  have := frK_len l hl i [] (l.length - (i + 1))
  simp only [frI]
  simp at this
  omega
abbrev oFr (out : List Th) : AV := .own 5 105 4 (out.map Th.row)
theorem cornersFrom_ok (l : List Rw) (hl : l.length ≤ 20) (i : Nat) (hil : i < l.length) : CallOk Tryz.prog 51 [slRw l, vi i] (fun r => r = oFr (frI l i)) := by
  refine callOk Tryz.func51 Tryz.ntmps51 Tryz.results51 rfl rfl rfl fun B w0 M I0 V0 => ?_
  (repeat (first | refine WL_nil ?_ | refine zq0 qv9 ?_ | refine zq1 ?_ | refine zq2 ?_ | refine zq3 ?_ | refine zq4 ?_ | refine zq5 ?_ | refine zq6 ?_ | refine wN rfl ?_))
  refine W_loop (fun n s => ∃ k : Nat, k ≤ l.length - (i + 1) ∧ n = l.length - (i + 1) - k ∧ s = ⟨[(0, slRw l), (1, vi i), (5, oFr (frK l i [] k)), (6, vi (i + 1 + k : Nat))], [], [5]⟩) ⟨_, _, ⟨0, by omega, rfl, rfl⟩, wkO⟩ ?_
  rintro n s ⟨k, hk, rfl, rfl⟩
  have hK := frK_len l hl i [] k
  by_cases hkl : k < l.length - (i + 1)
  · have ck : abin .lss .i64 ((i + 1 + k : Nat) : Int) (l.length : Int) = some (.bool true) := by simp [abin]; omega
    (repeat (first | refine WL_nil ?_ | refine zq0 (by first | exact QV_bin rfl rfl ck | exact qv9) ?_ | refine zq1 ?_ | refine zq2 ?_ | refine zq3 ?_ | refine zq4 ?_ | refine zq5 ?_ | refine zq6 ?_ | refine wN rfl ?_))
    refine W_loop (fun n s => ∃ m : Nat, m ≤ l.length - (i + 1 + k + 1) ∧ n = l.length - (i + 1 + k + 1) - m ∧ s = ⟨[(0, slRw l), (1, vi i), (5, oFr (frM l i (i + 1 + k) (frK l i [] k) m)), (6, vi (i + 1 + k : Nat)), (7, vi (i + 1 + k + 1 + m : Nat))], [], [5]⟩) ⟨_, _, ⟨0, by omega, rfl, rfl⟩, wkA⟩ ?_
    rintro n s ⟨m, hm, rfl, rfl⟩
    obtain ⟨out, hout⟩ : ∃ out, frM l i (i + 1 + k) (frK l i [] k) m = out := ⟨_, rfl⟩
    have hM := frM_len l i (i + 1 + k) (frK l i [] k) m
    have hstep : frM l i (i + 1 + k) (frK l i [] k) (m + 1) = addF l out (slvA l i (i + 1 + k) (i + 1 + k + 1 + m)) := by rw [← hout]; rfl
    rw [hout] at hM ⊢
    by_cases hml : m < l.length - (i + 1 + k + 1)
    · have cm : abin .lss .i64 ((i + 1 + k + 1 + m : Nat) : Int) (l.length : Int) = some (.bool true) := by simp [abin]; omega
      have hs := implSolveRows_ok (wat l i) (wat l (i + 1 + k)) (wat l (i + 1 + k + 1 + m))
      simp only [List.length_nil] at hK
      have hle : out.length ≤ 1048576 := by omega
      cases e1 : slv (wat l i) (wat l (i + 1 + k)) (wat l (i + 1 + k + 1 + m)) with
      | none =>
        have hnext : frM l i (i + 1 + k) (frK l i [] k) (m + 1) = out := by rw [hstep, show slvA l i (i + 1 + k) (i + 1 + k + 1 + m) = none from e1]; rfl
        rw [e1, thO_none] at hs
        (repeat (first | refine WL_nil ?_ | refine zq0 (by first | exact QV_bin rfl rfl cm | exact qv9) ?_ | refine zq1 ?_ | refine zq2 ?_ | refine zq3 ?_ | refine zq4 ?_ | refine zq5 ?_ | refine zq6 ?_ | refine wN rfl ?_))
        refine wdraw 18 (by kernel_rfl) (by kernel_rfl) (by kernel_rfl) rfl ?_
        (repeat (first | refine HW_nil ?_ | (apply hw0 (hd := rfl); (first | exact qv9 | exact q_callA (hs) | exact QV_indexAddr rfl rfl rfl rfl (solve_row hil) | exact QV_indexAddr rfl rfl rfl rfl (solve_row (show i + 1 + k < l.length by omega)) | exact QV_indexAddr rfl rfl rfl rfl (solve_row (show i + 1 + k + 1 + m < l.length by omega))); (exact gy0)) | (apply hwb (hd := rfl); (first | exact q_box rfl rfl rfl | exact q_allocT rfl); (exact gy0); rfl) | refine zq7 ?_ | refine zq8 ?_ | refine hwi rfl rfl List.not_mem_nil rfl rfl rfl rfl rfl ?_))
        (repeat (first | refine WL_nil ?_ | refine zq0 qv9 ?_ | refine zq1 ?_ | refine zq2 ?_ | refine zq3 ?_ | refine zq4 ?_ | refine zq5 ?_ | refine zq6 ?_ | refine wN rfl ?_))
        rw [← hnext]
        refine Exists.intro _ (Exists.intro _ ⟨?_, ⟨m + 1, by omega, rfl, rfl⟩, wkA⟩)
        omega
      | some t =>
        have hnext : slvA l i (i + 1 + k) (i + 1 + k + 1 + m) = some t := e1
        rw [hnext] at hstep
        rw [e1, thO_some] at hs
        have hful := implFulfillsAll_ok t l (by omega)
        cases e2 : fulAll t l
        · rw [e2] at hful
          (repeat (first | refine WL_nil ?_ | refine zq0 (by first | exact QV_bin rfl rfl cm | exact qv9) ?_ | refine zq1 ?_ | refine zq2 ?_ | refine zq3 ?_ | refine zq4 ?_ | refine zq5 ?_ | refine zq6 ?_ | refine wN rfl ?_))
          refine wdraw 18 (by kernel_rfl) (by kernel_rfl) (by kernel_rfl) rfl ?_
          (repeat (first | refine HW_nil ?_ | (apply hw0 (hd := rfl); (first | exact qv9 | exact q_callA (hs) | exact QV_indexAddr rfl rfl rfl rfl (solve_row hil) | exact QV_indexAddr rfl rfl rfl rfl (solve_row (show i + 1 + k < l.length by omega)) | exact QV_indexAddr rfl rfl rfl rfl (solve_row (show i + 1 + k + 1 + m < l.length by omega))); (exact gy0)) | (apply hwb (hd := rfl); (first | exact q_box rfl rfl rfl | exact q_allocT rfl); (exact gy0); rfl) | refine zq7 ?_ | refine zq8 ?_ | refine hwi rfl rfl List.not_mem_nil rfl rfl rfl rfl rfl ?_))
          (repeat (first | refine WL_nil ?_ | refine zq0 (by first | exact qv9 | exact q_callA (hful)) ?_ | refine zq1 ?_ | refine zq2 ?_ | refine zq3 ?_ | refine zq4 ?_ | refine zq5 ?_ | refine zq6 ?_ | refine wN rfl ?_))
          rw [show addF l out (some t) = out by simp [addF, e2]] at hstep
          rw [← hstep]
          refine Exists.intro _ (Exists.intro _ ⟨?_, ⟨m + 1, by omega, rfl, rfl⟩, wkA⟩)
          omega
        · rw [e2] at hful
          have ha : (out.map Th.row).length + [t.row].length ≤ 1048576 := by simp; omega
          rw [show addF l out (some t) = out ++ [t] by simp [addF, e2]] at hstep
          (repeat (first | refine WL_nil ?_ | refine zq0 (by first | exact QV_bin rfl rfl cm | exact qv9) ?_ | refine zq1 ?_ | refine zq2 ?_ | refine zq3 ?_ | refine zq4 ?_ | refine zq5 ?_ | refine zq6 ?_ | refine wN rfl ?_))
          refine wdraw 18 (by kernel_rfl) (by kernel_rfl) (by kernel_rfl) rfl ?_
          (repeat (first | refine HW_nil ?_ | (apply hw0 (hd := rfl); (first | exact qv9 | exact q_callA (hs) | exact QV_indexAddr rfl rfl rfl rfl (solve_row hil) | exact QV_indexAddr rfl rfl rfl rfl (solve_row (show i + 1 + k < l.length by omega)) | exact QV_indexAddr rfl rfl rfl rfl (solve_row (show i + 1 + k + 1 + m < l.length by omega))); (exact gy0)) | (apply hwb (hd := rfl); (first | exact q_box rfl rfl rfl | exact q_allocT rfl); (exact gy0); rfl) | refine zq7 ?_ | refine zq8 ?_ | refine hwi rfl rfl List.not_mem_nil rfl rfl rfl rfl rfl ?_))
          (repeat (first | refine WL_nil ?_ | refine zq0 (by first | exact qv9 | exact q_callA (hful)) ?_ | refine zq1 ?_ | refine zq2 ?_ | refine zq3 ?_ | (apply wln1 (hd := rfl); exact q_buildSlice 94 rfl rfl rfl rfl; (exact gy0); rfl) | refine zq4 ?_ | refine wappE rfl rfl rfl (th_cells [t]) (th_lens [t]) ha rfl rfl (th_app (t := t)) rfl rfl ?_ | refine zq5 ?_ | refine zq6 ?_ | refine wN rfl ?_))
          rw [← hstep]
          refine Exists.intro _ (Exists.intro _ ⟨?_, ⟨m + 1, by omega, rfl, rfl⟩, wkA⟩)
          omega
    · have cm : abin .lss .i64 ((i + 1 + k + 1 + m : Nat) : Int) (l.length : Int) = some (.bool false) := by simp [abin]; omega
      have hm' : m = l.length - (i + 1 + k + 1) := by omega
      (repeat (first | refine WL_nil ?_ | refine zq0 (by first | exact QV_bin rfl rfl cm | exact qv9) ?_ | refine zq1 ?_ | refine zq2 ?_ | refine zq3 ?_ | refine zq4 ?_ | refine zq5 ?_ | refine zq6 ?_ | refine wN rfl ?_))
      rw [← hout, hm']
      refine Exists.intro _ (Exists.intro _ ⟨?_, ⟨k + 1, by omega, rfl, rfl⟩, wkA⟩)
      omega
  · have ck : abin .lss .i64 ((i + 1 + k : Nat) : Int) (l.length : Int) = some (.bool false) := by simp [abin]; omega
    have hk' : k = l.length - (i + 1) := by omega
    subst hk'
    (repeat (first | refine WL_nil ?_ | refine zq0 (by first | exact QV_bin rfl rfl ck | exact qv9) ?_ | refine zq1 ?_ | refine zq2 ?_ | refine zq3 ?_ | refine zq4 ?_ | refine zq5 ?_ | refine zq6 ?_ | refine wN rfl ?_))
    refine Exists.intro _ ⟨Weak.refl _, Exists.intro _ ⟨resA_tmp rfl rfl, ?_, rfl⟩⟩
    rfl
end Go.Proofs.YtpcahgedkmgllaaGreat

namespace Go.Proofs.YtpcahgedkmgllaaGreat
open Go.Eng
set_option maxRecDepth 100000
attribute [local irreducible] QV TV WL HW W CallOk Weak

theorem lbig_ok (l : List Int) : CallOk Tryz.prog 4 [slU l] (fun r => r = vb (decide ((1048576 : Int) < l.length))) := by
  refine callOk Tryz.func4 Tryz.ntmps4 Tryz.results4 rfl rfl rfl fun B w0 M I0 V0 => ?_
  (repeat (first | refine WL_nil ?_ | refine zq0 qv9 ?_ | refine zq1 ?_ | refine zq2 ?_ | refine zq3 ?_ | refine zq4 ?_ | refine zq5 ?_ | refine zq6 ?_ | refine wN rfl ?_))
  refine Exists.intro _ ⟨Weak.refl _, Exists.intro _ ⟨resA_tmp rfl rfl, ?_, rfl⟩⟩
  rfl
end Go.Proofs.YtpcahgedkmgllaaGreat

namespace Go.Proofs.YtpcahgedkmgllaaGreat
open Go.ChangeShapes Go.WideShapes Go.ChangeAt Go.RowKit Go.Deep Go.Eng
set_option maxRecDepth 100000
attribute [local irreducible] QV TV WL HW W CallOk Weak

section
variable {H : Type} {enc : TypeId × Value → H} {W : World}
theorem ewf_u8 {x : Int} (h : (Lit.int .u8 x).wf = true) : isU8 x := by
  simp [Lit.wf, IntKind.min, IntKind.max, IntKind.bits, IntKind.signed] at h
  unfold isU8
  omega
theorem opens_U8 : Opens enc Tryz.prog W 5 1 (fun r => ∃ x : Int, r = u8r x ∧ isU8 x) := fun fuel cs x h _ => by
  obtain ⟨n, rfl, _, hw⟩ := DataW.trod_int Tryz.underlying5 h
  exact ⟨_, ⟨n, rfl, ewf_u8 hw⟩, by simp [dreps, drep], rfl⟩
theorem opens_Code : Opens enc Tryz.prog W 22 1 (RowsR 1 u8r isU8) :=
  opens_slice Tryz.underlying22 (by kernel_rfl) (by decide) opens_U8
theorem open_code {r : Reach} {b0 : Nat} {v : Value} {d : DataW H} {p : List MemPlace} (hv : Value.okWide Tryz.prog W r b0 22 v) (h : DataW.Trod enc Tryz.prog W 0 (fun _ => true) true 22 v d p) (hlt : ∀ x ∈ p, x.block < W.heap.size) :
    ∃ l : List Int, (∀ x ∈ l, isU8 x) ∧ l.length ≤ 9223372036854775807 ∧ drep (Old W) W (slU l) v := by
  obtain ⟨a0, len, cap, rfl⟩ := okWide_slice Tryz.underlying22 hv
  obtain ⟨x, ⟨l, e, h1, h2⟩, h3⟩ := open_cell opens_Code rfl h hlt
  cases e
  exact ⟨l, h1, h2, h3⟩
end
end Go.Proofs.YtpcahgedkmgllaaGreat
