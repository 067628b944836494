/- impl.CornersOf: the contract. -/
import Derived.Test.YtkieepmkcaipaaaGreatYCr
namespace Go.Proofs.YtkieepmkcaipaaaGreat
open Go.Eng
set_option maxRecDepth 100000
attribute [local irreducible] QV TV WL HW W CallOk Weak

theorem implCornersOf_no (l : List Rw) (hn : l.length ≤ 1048576) (h : (l.all rowB && inR l.length 3 20) = false) : CallOk Tryz.prog 96 [slRw l] (fun r => r = .own 6 60 4 (([] : List Th).map Th.row)) := by
  have h1 := within_ok l.length 3 20
  have h2 := rowsOk_ok l hn
  refine callOk Tryz.func96 Tryz.ntmps96 Tryz.results96 rfl rfl rfl fun B w0 M I0 V0 => ?_
  cases e1 : inR l.length 3 20
  · rw [e1] at h1
    (repeat (first | refine WL_nil ?_ | (apply wl0 (hd := rfl); (first | exact qv0 | exact QV_bne Tryz.underlying4 rfl rfl | exact QV_beq Tryz.underlying4 rfl rfl | exact qv1 | exact q_callA (h1)); (exact gy0)) | (apply wlb (hd := rfl); (first | exact q_box rfl rfl rfl | exact q_alloc); (exact gy0); rfl) | refine wln ⟨_, rfl, rfl⟩ rfl ?_ | refine wlnu ⟨_, rfl, rfl⟩ rfl ?_ | refine wst rfl rfl rfl List.not_mem_nil rfl rfl rfl rfl rfl rfl ?_ | refine W_seq ?_ | refine W_condT rfl ?_ | refine W_condF rfl ?_ | refine W_region ?_ | refine W_skip ?_ | refine W_ret ?_ | refine W_block ?_ | refine W_exit ?_))
    refine Exists.intro (⟨[(2, .own 6 60 4 [])], [], [6]⟩ : St) ⟨wkO, Exists.intro _ ⟨resA_tmp rfl rfl, ?_, rfl⟩⟩
    rfl
  · rw [e1, Bool.and_true] at h
    rw [e1] at h1
    rw [h] at h2
    (repeat (first | refine WL_nil ?_ | (apply wl0 (hd := rfl); (first | exact qv0 | exact QV_bne Tryz.underlying4 rfl rfl | exact QV_beq Tryz.underlying4 rfl rfl | exact qv1 | exact q_callA (h1) | exact q_callA (h2)); (exact gy0)) | (apply wlb (hd := rfl); (first | exact q_box rfl rfl rfl | exact q_alloc); (exact gy0); rfl) | refine wln ⟨_, rfl, rfl⟩ rfl ?_ | refine wlnu ⟨_, rfl, rfl⟩ rfl ?_ | refine wst rfl rfl rfl List.not_mem_nil rfl rfl rfl rfl rfl rfl ?_ | refine W_seq ?_ | refine W_condT rfl ?_ | refine W_condF rfl ?_ | refine W_region ?_ | refine W_skip ?_ | refine W_ret ?_ | refine W_block ?_ | refine W_exit ?_))
    refine Exists.intro (⟨[(2, .own 6 60 4 [])], [], [6]⟩ : St) ⟨wkO, Exists.intro _ ⟨resA_tmp rfl rfl, ?_, rfl⟩⟩
    rfl
theorem fulAll_hol {l : List Rw} {t : Th} (ht : thOk t = true) (hall : l.all rowB = true) (h20 : inR l.length 3 20 = true) : fulAll t l = l.all (holB t) := by
  have h40 : inR l.length 1 40 = true := by rw [inR_true] at *; omega
  have : ∀ l : List Rw, l.all rowB = true → l.all (fulB t) = l.all (holB t) := by
    intro l
    induction l with
    | nil => intro _; rfl
    | cons r l ih =>
      intro h
      simp only [List.all_cons, Bool.and_eq_true] at h
      simp only [List.all_cons, ih h.2, fulB, ht, h.1, Bool.true_and, holB]
  rw [fulAll, h40, Bool.true_and, this l hall]
theorem addF_add {l : List Rw} (hall : l.all rowB = true) (h20 : inR l.length 3 20 = true) {o : Option Th} (ho : ∀ t, o = some t → thOk t = true) (out fr : List Th) : addL out (addF l fr o) = addO l (addL out fr) o := by
  cases o with
  | none => rfl
  | some t =>
    have e := fulAll_hol (ho t rfl) hall h20
    simp only [addF, e]
    cases e2 : l.all (holB t)
    · simp only [cond_false]
      cases e3 : hasT (addL out fr) t <;> simp [addO, e2, e3]
    · simp only [cond_true, addL_snoc]
      cases e3 : hasT (addL out fr) t <;> simp [addO, e2, e3]
theorem frM_add {l : List Rw} (hall : l.all rowB = true) (h20 : inR l.length 3 20 = true) (i k : Nat) (out fr : List Th) : ∀ n, addL out (frM l i k fr n) = cM l i k (addL out fr) n
  | 0 => rfl
  | n + 1 => by
    simp only [frM, cM, addF_add hall h20 (o := slvA l i k (k + 1 + n)) (fun _ h => slv_ok h), frM_add hall h20 i k out fr n]
theorem frK_add {l : List Rw} (hall : l.all rowB = true) (h20 : inR l.length 3 20 = true) (i : Nat) (out fr : List Th) : ∀ n, addL out (frK l i fr n) = cK l i (addL out fr) n
  | 0 => rfl
  | n + 1 => by
    simp only [frK, cK, frM_add hall h20, frK_add hall h20 i out fr n]
theorem corI_eq {l : List Rw} (hall : l.all rowB = true) (h20 : inR l.length 3 20 = true) : ∀ n, corI l n = cI l n
  | 0 => rfl
  | n + 1 => by
    simp only [corI, cI, frI, frK_add hall h20, corI_eq hall h20 n]
    rfl
abbrev oCo (out : List Th) : AV := .own 6 60 4 (out.map Th.row)
theorem implCornersOf_ok (l : List Rw) (hn : l.length ≤ 1048576) : CallOkA Tryz.prog 96 [slRw l] (fun r => r = oCo (corL l)) := by
  cases h : l.all rowB && inR l.length 3 20
  · rw [show corL l = [] by simp only [corL, h]; rfl]
    exact callOkA_of (implCornersOf_no l hn h)
  · rw [show corL l = cI l l.length by simp only [corL, h]; rfl]
    simp only [Bool.and_eq_true] at h
    rw [← corI_eq h.1 h.2]
    exact implCornersOf_go l h.1 h.2
end Go.Proofs.YtkieepmkcaipaaaGreat
