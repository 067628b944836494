/- CollapseOf of the reference. -/
import Derived.Test.YtkadjimnamcjbaaYAFp
import Derived.Test.YtkadjimnamcjbaaYARo
namespace Go.Proofs.Ytkadjimnamcjbaa
open Go.Eng
set_option maxRecDepth 100000
attribute [local irreducible] QV TV WL HW W CallOk Weak

theorem collapseOf_ok (js : List Jt) (ls : List Ld) (hj : js.length ≤ 1048576) (hn : ls.length ≤ 1048576) : CallOk Try.prog 84 [.agg [slJt js], slLd ls] (fun r => r = fourD (pfind (rowsA js ls))) := by
  have h1 := rowsOf_ok js ls hj hn
  have h2 := findProof_ok (rowsA js ls) (rowsA_len js ls)
  obtain ⟨rs, ers⟩ : ∃ rs, rs = rowsA js ls := ⟨_, rfl⟩
  rw [← ers] at h1 h2 ⊢
  cases e : pfind rs with
  | none =>
    rw [e] at h2
    refine callOk Try.func84 Try.ntmps84 Try.results84 rfl rfl rfl fun B w0 I0 => ?_
    (repeat (first | refine WL_nil ?_ | (apply wl0 (hd := rfl); (first | exact qv0 | exact QV_bne Try.underlying4 rfl rfl | exact QV_beq Try.underlying4 rfl rfl | exact qv1 | exact q_callA (h1) | exact q_callA (h2)); (exact gy0)) | (apply wlb (hd := rfl); (first | exact q_box rfl rfl rfl | exact q_alloc); (exact gy0); rfl) | refine wln ⟨_, rfl, rfl⟩ rfl ?_ | refine wlnu ⟨_, rfl, rfl⟩ rfl ?_ | refine wst rfl rfl rfl List.not_mem_nil rfl rfl rfl rfl rfl rfl ?_ | refine W_seq ?_ | refine W_condT rfl ?_ | refine W_condF rfl ?_ | refine W_region ?_ | refine W_skip ?_ | refine W_ret ?_ | refine W_block ?_ | refine W_exit ?_))
    refine Exists.intro _ ⟨Weak.refl _, Exists.intro _ ⟨resA_cell rfl rfl rfl (resA_tmp rfl rfl), ?_, rfl⟩⟩
    rfl
  | some p =>
    obtain ⟨ks, fs⟩ := p
    rw [e] at h2
    refine callOk Try.func84 Try.ntmps84 Try.results84 rfl rfl rfl fun B w0 I0 => ?_
    (repeat (first | refine WL_nil ?_ | (apply wl0 (hd := rfl); (first | exact qv0 | exact QV_bne Try.underlying4 rfl rfl | exact QV_beq Try.underlying4 rfl rfl | exact qv1 | exact q_callA (h1) | exact q_callA (h2)); (exact gy0)) | (apply wlb (hd := rfl); (first | exact q_box rfl rfl rfl | exact q_alloc); (exact gy0); rfl) | refine wln ⟨_, rfl, rfl⟩ rfl ?_ | refine wlnu ⟨_, rfl, rfl⟩ rfl ?_ | refine wst rfl rfl rfl List.not_mem_nil rfl rfl rfl rfl rfl rfl ?_ | refine W_seq ?_ | refine W_condT rfl ?_ | refine W_condF rfl ?_ | refine W_region ?_ | refine W_skip ?_ | refine W_ret ?_ | refine W_block ?_ | refine W_exit ?_))
    refine Exists.intro _ ⟨Weak.refl _, Exists.intro _ ⟨resA_cell rfl rfl rfl (resA_tmp rfl rfl), ?_, rfl⟩⟩
    rfl
theorem or_some {α : Type} {a b : Option α} {p : α} (h : a.or b = some p) : a = some p ∨ b = some p := by
  cases a with
  | none => exact .inr (by simpa using h)
  | some x => exact .inl (by simpa using h)
theorem four_isp {rs : List Rw} {i k m x : Nat} {ks fs : List Int} (h : four rs i k m x = some (ks, fs)) : ispB rs ks fs = true := by
  unfold four at h
  generalize hc : ((fourF rs i k m x).all (fun f => decide (0 ≤ f)) && ispB rs (selR (fourI i k m x) (fourF rs i k m x) (fourF rs i k m x).length) (selF (fourF rs i k m x) (fourF rs i k m x).length)) = c at h
  cases c
  · cases h
  · simp only [cond_true, Option.some.injEq, Prod.mk.injEq] at h
    simp only [Bool.and_eq_true] at hc
    rw [h.1, h.2] at hc
    exact hc.2
theorem pf4_isp {rs : List Rw} {i k m : Nat} {ks fs : List Int} : ∀ {c : Nat}, pf4 rs i k m c = some (ks, fs) → ispB rs ks fs = true
  | 0, h => by cases h
  | c + 1, h => (or_some h).elim pf4_isp four_isp
theorem pf3_isp {rs : List Rw} {i k : Nat} {ks fs : List Int} : ∀ {c : Nat}, pf3 rs i k c = some (ks, fs) → ispB rs ks fs = true
  | 0, h => by cases h
  | c + 1, h => (or_some h).elim pf3_isp pf4_isp
theorem pf2_isp {rs : List Rw} {i : Nat} {ks fs : List Int} : ∀ {c : Nat}, pf2 rs i c = some (ks, fs) → ispB rs ks fs = true
  | 0, h => by cases h
  | c + 1, h => (or_some h).elim pf2_isp pf3_isp
theorem pf1_isp {rs : List Rw} {ks fs : List Int} : ∀ {c : Nat}, pf1 rs c = some (ks, fs) → ispB rs ks fs = true
  | 0, h => by cases h
  | c + 1, h => (or_some h).elim pf1_isp pf2_isp
theorem pfind_isp {rs : List Rw} {ks fs : List Int} (h : pfind rs = some (ks, fs)) : ispB rs ks fs = true := by
  unfold pfind at h
  by_cases hc : rs.length ≤ 20
  · rw [decide_eq_true hc, cond_true] at h; exact pf1_isp h
  · rw [decide_eq_false hc] at h; cases h
theorem pfind_or (rs : List Rw) : pfind rs = none ∨ ∃ p, pfind rs = some p := by
  cases h : pfind rs with
  | none => exact .inl rfl
  | some p => exact .inr ⟨p, rfl⟩
theorem pfind_len {rs : List Rw} {ks fs : List Int} (h : pfind rs = some (ks, fs)) : 0 < ks.length ∧ ks.length ≤ 4 ∧ 0 < fs.length ∧ fs.length ≤ 4 := by
  have h1 := pfind_isp h
  simp only [ispB, Bool.and_eq_true] at h1
  have h2 := pf_len h1.1
  have h3 := (pf_at h1.1 (k := 0) (by omega)).2.2
  omega
end Go.Proofs.Ytkadjimnamcjbaa
