/- CollapseOf of the reference. -/
import Derived.Test.YtkaffcdjhbaifaaGreatYG5
import Derived.Test.YtkaffcdjhbaifaaGreatYARo
namespace Go.Proofs.YtkaffcdjhbaifaaGreat
open Go.Eng
set_option maxRecDepth 100000
attribute [local irreducible] QV TV WL HW W CallOk Weak

theorem or_some {α : Type} {a b : Option α} {p : α} (h : a.or b = some p) : a = some p ∨ b = some p := by
  cases a with
  | none => exact .inr (by simpa using h)
  | some x => exact .inl (by simpa using h)
theorem four_isp {rs : List Rw} {i k m x : Nat} {ks fs : List Int} (h : four rs i k m x = some (ks, fs)) : ispB rs ks fs = true := by
  unfold four at h
  generalize hc : ((fourF rs i k m x).all (fun f => decide (0 ≤ f)) && ispB rs (selR (fourI i k m x) (fourF rs i k m x) (fourF rs i k m x).length) (selF (fourF rs i k m x) (fourF rs i k m x).length)) = c at h
  cases c
  · cases h
  · simp only [cond_true, Option.some.injEq, Prod.mk.injEq] at h
    simp only [Bool.and_eq_true] at hc
    rw [h.1, h.2] at hc
    exact hc.2
theorem pf4_isp {rs : List Rw} {i k m : Nat} {ks fs : List Int} : ∀ {c : Nat}, pf4 rs i k m c = some (ks, fs) → ispB rs ks fs = true
  | 0, h => by cases h
  | c + 1, h => (or_some h).elim pf4_isp four_isp
theorem pf3_isp {rs : List Rw} {i k : Nat} {ks fs : List Int} : ∀ {c : Nat}, pf3 rs i k c = some (ks, fs) → ispB rs ks fs = true
  | 0, h => by cases h
  | c + 1, h => (or_some h).elim pf3_isp pf4_isp
theorem pf2_isp {rs : List Rw} {i : Nat} {ks fs : List Int} : ∀ {c : Nat}, pf2 rs i c = some (ks, fs) → ispB rs ks fs = true
  | 0, h => by cases h
  | c + 1, h => (or_some h).elim pf2_isp pf3_isp
theorem pf1_isp {rs : List Rw} {ks fs : List Int} : ∀ {c : Nat}, pf1 rs c = some (ks, fs) → ispB rs ks fs = true
  | 0, h => by cases h
  | c + 1, h => (or_some h).elim pf1_isp pf2_isp
theorem pfind_isp {rs : List Rw} {ks fs : List Int} (h : pfind rs = some (ks, fs)) : ispB rs ks fs = true := by
  unfold pfind at h
  by_cases hc : rs.length ≤ 20
  · rw [decide_eq_true hc, cond_true] at h; exact pf1_isp h
  · rw [decide_eq_false hc] at h; cases h
theorem pfind_or (rs : List Rw) : pfind rs = none ∨ ∃ p, pfind rs = some p := by
  cases h : pfind rs with
  | none => exact .inl rfl
  | some p => exact .inr ⟨p, rfl⟩
end Go.Proofs.YtkaffcdjhbaifaaGreat

namespace Go.Proofs.YtkaffcdjhbaifaaGreat
open Go.Eng
set_option maxRecDepth 100000
attribute [local irreducible] QV TV WL HW W CallOk Weak

set_option maxHeartbeats 4000000 in
theorem implProofOfFour_of (rs : List Rw) (i k m x : Nat) (hr : rs.length ≤ 1048576) (h1 : i < k) (h2 : k < m) (h3 : m < x) (h4 : x < rs.length) (hsum : ∀ ks fs : List Int, ks.length ≤ 4 → fs.length ≤ 4 → CallOk Tryz.prog 28 [slRw rs, .agg [slI ks, slI fs]] (fun r => r = sumAv rs ks fs)) : CallOk Tryz.prog 58 [slRw rs, slI (fourI i k m x)] (fun r => r = fourO (four rs i k m x)) := by
  have hasc := ascending_ok (fourI i k m x) 0 (rs.length - 1) (by simp [fourI])
  have hasc1 : ascB 0 (rs.length - 1) (fourI i k m x) = true := by
    have q0 : inR (i : Int) 0 (rs.length - 1) = true := inR_true.2 (by omega)
    have q1 : inR (k : Int) 0 (rs.length - 1) = true := inR_true.2 (by omega)
    have q2 : inR (m : Int) 0 (rs.length - 1) = true := inR_true.2 (by omega)
    have q3 : inR (x : Int) 0 (rs.length - 1) = true := inR_true.2 (by omega)
    simp only [ascB, fourI, List.length_cons, List.length_nil, Nat.reduceAdd, show List.range 4 = [0, 1, 2, 3] from rfl, List.all_cons, List.all_nil, ascAt, iat, List.getD_cons_zero, List.getD_cons_succ, Nat.reduceSub, q0, q1, q2, q3]
    simp
    omega
  rw [hasc1] at hasc
  have a1 := wat_lt (show i < rs.length by omega)
  have a2 := wat_lt (show k < rs.length by omega)
  have a3 := wat_lt (show m < rs.length by omega)
  have a4 := wat_lt (show x < rs.length by omega)
  have hf := implFactorsOf_sl (wat rs i) (wat rs k) (wat rs m) (wat rs x)
  have hfl := facL_len (wat rs i) (wat rs k) (wat rs m) (wat rs x)
  unfold four fourF
  obtain ⟨f, ef⟩ : ∃ f, f = facL (wat rs i) (wat rs k) (wat rs m) (wat rs x) := ⟨_, rfl⟩
  rw [← ef] at hf hfl ⊢
  have i0 : (fourI i k m x)[0]? = some (i : Int) := rfl
  have i1 : (fourI i k m x)[1]? = some (k : Int) := rfl
  have i2 : (fourI i k m x)[2]? = some (m : Int) := rfl
  have i3 : (fourI i k m x)[3]? = some (x : Int) := rfl
  refine callOk Tryz.func58 Tryz.ntmps58 Tryz.results58 rfl rfl rfl fun B w0 I0 => ?_
  (repeat (first | refine WL_nil ?_ | (apply wl0 (hd := rfl); (first | exact qv9 | exact q_callA (hasc)); (exact gy0)) | (apply wlb (hd := rfl); exact qbx; (exact gy0); rfl) | refine wln ⟨_, rfl, rfl⟩ rfl ?_ | refine wlnu ⟨_, rfl, rfl⟩ rfl ?_ | refine wst rfl rfl rfl List.not_mem_nil rfl rfl rfl rfl rfl rfl ?_ | refine W_condT rfl ?_ | refine W_condF rfl ?_ | refine W_region ?_ | refine wN rfl ?_))
  refine wdraw 27 (by kernel_rfl) (by kernel_rfl) (by kernel_rfl) rfl ?_
  (repeat (first | refine HW_nil ?_ | (apply hw0 (hd := rfl); (first | exact qv9 | exact q_callA (hf) | exact QV_indexAddr rfl rfl rfl rfl (row_at i0) | exact QV_indexAddr rfl rfl rfl rfl (row_at i1) | exact QV_indexAddr rfl rfl rfl rfl (row_at i2) | exact QV_indexAddr rfl rfl rfl rfl (row_at i3) | exact QV_indexAddr rfl rfl rfl rfl (row_at a1) | exact QV_indexAddr rfl rfl rfl rfl (row_at a2) | exact QV_indexAddr rfl rfl rfl rfl (row_at a3) | exact QV_indexAddr rfl rfl rfl rfl (row_at a4)); (exact gy0)) | (apply hwb (hd := rfl); exact qbx; (exact gy0); rfl) | refine hwn ⟨_, rfl, rfl⟩ rfl ?_ | refine hwnu ⟨_, rfl, rfl⟩ rfl ?_))
  (repeat (first | refine WL_nil ?_ | (apply wl0 (hd := rfl); (first | exact qv9); (exact gy0)) | (apply wlb (hd := rfl); exact qbx; (exact gy0); rfl) | refine wln ⟨_, rfl, rfl⟩ rfl ?_ | refine wlnu ⟨_, rfl, rfl⟩ rfl ?_ | refine wst rfl rfl rfl List.not_mem_nil rfl rfl rfl rfl rfl rfl ?_ | refine W_condT rfl ?_ | refine W_condF rfl ?_ | refine W_region ?_ | refine wN rfl ?_))
  refine W_loop (fun n s => ∃ (j : Nat) (R F : List (List AV)), j ≤ f.length ∧ n = f.length - j ∧ (f.take j).all (fun z => decide (0 ≤ z)) = true ∧ R = (selR (fourI i k m x) f j).map iRow ∧ F = (selF f j).map iRow ∧ s = ⟨[(0, slRw rs), (1, slI (fourI i k m x)), (4, .ptr 4 0), (6, .ptr 6 0), (45, slI f), (46, vi f.length), (47, vi j)], [(6, [.own 20 3 1 R, .own 21 3 1 F]), (4, [.v (.slice none 0 0), .v (.slice none 0 0)])], [20, 21]⟩) ⟨_, _, ⟨0, [], [], by omega, rfl, rfl, rfl, rfl, rfl⟩, wkO⟩ ?_
  rintro n s ⟨j, R, F, hj, rfl, hall, hR, hF, rfl⟩
  by_cases hlt : j < f.length
  · have hp := iat_lt hlt
    have hq := iat_lt (show j < (fourI i k m x).length by show j < 4; omega)
    have hsl := sel_len (fourI i k m x) f j
    by_cases n1 : iat f j < 0
    · have c1 : abin .lss .i64 (iat f j) 0 = some (.bool true) := by simp only [abin, decide_eq_true n1]
      (repeat (first | refine WL_nil ?_ | (apply wl0 (hd := rfl); (first | exact qv9); (exact gy0)) | (apply wlb (hd := rfl); exact qbx; (exact gy0); rfl) | refine wln ⟨_, rfl, rfl⟩ rfl ?_ | refine wlnu ⟨_, rfl, rfl⟩ rfl ?_ | refine wst rfl rfl rfl List.not_mem_nil rfl rfl rfl rfl rfl rfl ?_ | refine W_condT rfl ?_ | refine W_condF rfl ?_ | refine W_region ?_ | refine wN rfl ?_))
      (refine W_cond rfl (fun hc => ?_) (fun hc => ?_))
      · (repeat (first | refine WL_nil ?_ | (apply wl0 (hd := rfl); (first | exact QV_bin rfl rfl c1 | exact qv9 | exact QV_indexAddr rfl rfl rfl rfl (row_at hp)); (exact gy0)) | (apply wlb (hd := rfl); exact qbx; (exact gy0); rfl) | refine wln ⟨_, rfl, rfl⟩ rfl ?_ | refine wlnu ⟨_, rfl, rfl⟩ rfl ?_ | refine wst rfl rfl rfl List.not_mem_nil rfl rfl rfl rfl rfl rfl ?_ | refine W_condT rfl ?_ | refine W_condF rfl ?_ | refine W_region ?_ | refine wN rfl ?_))
        refine Exists.intro _ ⟨Weak.refl _, Exists.intro _ ⟨resA_cell rfl rfl rfl (resA_tmp rfl rfl), ?_, rfl⟩⟩
        rw [all_at_false hp (by simp; omega)]
        rfl
      · simp at hc; omega
    · have c1 : abin .lss .i64 (iat f j) 0 = some (.bool false) := by simp only [abin, decide_eq_false n1]
      by_cases n2 : 0 < iat f j
      · have c2 : abin .gtr .i64 (iat f j) 0 = some (.bool true) := by simp only [abin]; rw [decide_eq_true (by omega)]
        have hr1 : R.length + [iRow (iat (fourI i k m x) j)].length ≤ 1048576 := by rw [hR]; simp; omega
        have hr2 : F.length + [iRow (iat f j)].length ≤ 1048576 := by rw [hF]; simp; omega
        obtain ⟨s1, s2⟩ := sel_in (l := fourI i k m x) n2
        (repeat (first | refine WL_nil ?_ | (apply wl0 (hd := rfl); (first | exact qv9); (exact gy0)) | (apply wlb (hd := rfl); exact qbx; (exact gy0); rfl) | refine wln ⟨_, rfl, rfl⟩ rfl ?_ | refine wlnu ⟨_, rfl, rfl⟩ rfl ?_ | refine wst rfl rfl rfl List.not_mem_nil rfl rfl rfl rfl rfl rfl ?_ | refine W_condT rfl ?_ | refine W_condF rfl ?_ | refine W_region ?_ | refine wN rfl ?_))
        (refine W_cond rfl (fun hc => ?_) (fun hc => ?_))
        · (repeat (first | refine WL_nil ?_ | (apply wl0 (hd := rfl); (first | exact QV_bin rfl rfl c1 | exact QV_bin rfl rfl c2 | exact qv9 | exact QV_indexAddr rfl rfl rfl rfl (row_at hp)); (exact gy0)) | (apply wlb (hd := rfl); exact qbx; (exact gy0); rfl) | refine wln ⟨_, rfl, rfl⟩ rfl ?_ | refine wlnu ⟨_, rfl, rfl⟩ rfl ?_ | refine wst rfl rfl rfl List.not_mem_nil rfl rfl rfl rfl rfl rfl ?_ | refine W_condT rfl ?_ | refine W_condF rfl ?_ | refine W_region ?_ | refine wN rfl ?_))
          refine wdraw 7 (by kernel_rfl) (by kernel_rfl) (by kernel_rfl) rfl ?_
          (repeat (first | refine HW_nil ?_ | (apply hw0 (hd := rfl); (first | exact qv9 | exact QV_indexAddr rfl rfl rfl rfl (row_at hq)); (exact gy0)) | (apply hwb (hd := rfl); exact qbx; (exact gy0); rfl) | refine hwn ⟨_, rfl, rfl⟩ rfl ?_ | refine hwnu ⟨_, rfl, rfl⟩ rfl ?_ | (apply hwn1 (hd := rfl); exact q_buildSlice 29 rfl rfl rfl rfl; (exact gy0); rfl)))
          (repeat (first | refine WL_nil ?_ | (apply wl0 (hd := rfl); (first | exact qv9); (exact gy0)) | (apply wlb (hd := rfl); exact qbx; (exact gy0); rfl) | refine wln ⟨_, rfl, rfl⟩ rfl ?_ | refine wlnu ⟨_, rfl, rfl⟩ rfl ?_ | refine wst rfl rfl rfl List.not_mem_nil rfl rfl rfl rfl rfl rfl ?_ | refine wapp (rows2 := [iRow (iat (fourI i k m x) j)]) rfl rfl rfl (by simp [isCell, Value.oneCell', iRow]) (by simp [iRow]) hr1 rfl rfl rfl rfl ?_ | refine W_condT rfl ?_ | refine W_condF rfl ?_ | refine W_region ?_ | refine wN rfl ?_))
          (repeat (first | refine WL_nil ?_ | (apply wl0 (hd := rfl); (first | exact qv9); (exact gy0)) | (apply wlb (hd := rfl); exact qbx; (exact gy0); rfl) | refine wln ⟨_, rfl, rfl⟩ rfl ?_ | refine wlnu ⟨_, rfl, rfl⟩ rfl ?_ | (apply wln1 (hd := rfl); exact q_buildSlice 30 rfl rfl rfl rfl; (exact gy0); rfl) | refine wst rfl rfl rfl List.not_mem_nil rfl rfl rfl rfl rfl rfl ?_ | refine wapp (rows2 := [iRow (iat f j)]) rfl rfl rfl (by simp [isCell, Value.oneCell', iRow]) (by simp [iRow]) hr2 rfl rfl rfl rfl ?_ | refine W_condT rfl ?_ | refine W_condF rfl ?_ | refine W_region ?_ | refine wN rfl ?_))
          refine Exists.intro _ (Exists.intro _ ⟨?_, ⟨j + 1, R ++ [iRow (iat (fourI i k m x) j)], F ++ [iRow (iat f j)], by omega, rfl, by rw [all_take_succ hp, hall]; simp; omega, by rw [hR, s1]; simp, by rw [hF, s2]; simp, rfl⟩, wkA⟩)
          omega
        · simp at hc; omega
      · have c2 : abin .gtr .i64 (iat f j) 0 = some (.bool false) := by simp only [abin]; rw [decide_eq_false (by omega)]
        obtain ⟨s1, s2⟩ := sel_out (l := fourI i k m x) n2
        (repeat (first | refine WL_nil ?_ | (apply wl0 (hd := rfl); (first | exact qv9); (exact gy0)) | (apply wlb (hd := rfl); exact qbx; (exact gy0); rfl) | refine wln ⟨_, rfl, rfl⟩ rfl ?_ | refine wlnu ⟨_, rfl, rfl⟩ rfl ?_ | refine wst rfl rfl rfl List.not_mem_nil rfl rfl rfl rfl rfl rfl ?_ | refine W_condT rfl ?_ | refine W_condF rfl ?_ | refine W_region ?_ | refine wN rfl ?_))
        (refine W_cond rfl (fun hc => ?_) (fun hc => ?_))
        · (repeat (first | refine WL_nil ?_ | (apply wl0 (hd := rfl); (first | exact QV_bin rfl rfl c1 | exact QV_bin rfl rfl c2 | exact qv9 | exact QV_indexAddr rfl rfl rfl rfl (row_at hp)); (exact gy0)) | (apply wlb (hd := rfl); exact qbx; (exact gy0); rfl) | refine wln ⟨_, rfl, rfl⟩ rfl ?_ | refine wlnu ⟨_, rfl, rfl⟩ rfl ?_ | refine wst rfl rfl rfl List.not_mem_nil rfl rfl rfl rfl rfl rfl ?_ | refine W_condT rfl ?_ | refine W_condF rfl ?_ | refine W_region ?_ | refine wN rfl ?_))
          refine Exists.intro _ (Exists.intro _ ⟨?_, ⟨j + 1, R, F, by omega, rfl, by rw [all_take_succ hp, hall]; simp; omega, by rw [hR, s1], by rw [hF, s2], rfl⟩, wkA⟩)
          omega
        · simp at hc; omega
  · (repeat (first | refine WL_nil ?_ | (apply wl0 (hd := rfl); (first | exact qv9); (exact gy0)) | (apply wlb (hd := rfl); exact qbx; (exact gy0); rfl) | refine wln ⟨_, rfl, rfl⟩ rfl ?_ | refine wlnu ⟨_, rfl, rfl⟩ rfl ?_ | refine wst rfl rfl rfl List.not_mem_nil rfl rfl rfl rfl rfl rfl ?_ | refine W_condT rfl ?_ | refine W_condF rfl ?_ | refine W_region ?_ | refine wN rfl ?_))
    (refine W_cond rfl (fun hc => ?_) (fun hc => ?_))
    · simp at hc; omega
    · have hj' : j = f.length := by omega
      subst hj'
      rw [List.take_length] at hall
      have hsl := sel_len (fourI i k m x) f f.length
      have hip := implIsProof_of rs (selR (fourI i k m x) f f.length) (selF f f.length) hr (by omega) (by omega) (hsum _ _ (by omega) (by omega))
      subst hR hF
      rw [hall, Bool.true_and]
      cases e : ispB rs (selR (fourI i k m x) f f.length) (selF f f.length)
      · rw [e] at hip
        (repeat (first | refine WL_nil ?_ | (apply wl0 (hd := rfl); (first | exact qv9 | exact q_callA (hip)); (exact gy0)) | (apply wlb (hd := rfl); exact qbx; (exact gy0); rfl) | refine wln ⟨_, rfl, rfl⟩ rfl ?_ | refine wlnu ⟨_, rfl, rfl⟩ rfl ?_ | refine wst rfl rfl rfl List.not_mem_nil rfl rfl rfl rfl rfl rfl ?_ | refine W_condT rfl ?_ | refine W_condF rfl ?_ | refine W_region ?_ | refine wN rfl ?_))
        refine Exists.intro _ ⟨Weak.refl _, Exists.intro _ ⟨resA_cell rfl rfl rfl (resA_tmp rfl rfl), ?_, rfl⟩⟩
        rfl
      · rw [e] at hip
        (repeat (first | refine WL_nil ?_ | (apply wl0 (hd := rfl); (first | exact qv9 | exact q_callA (hip)); (exact gy0)) | (apply wlb (hd := rfl); exact qbx; (exact gy0); rfl) | refine wln ⟨_, rfl, rfl⟩ rfl ?_ | refine wlnu ⟨_, rfl, rfl⟩ rfl ?_ | refine wst rfl rfl rfl List.not_mem_nil rfl rfl rfl rfl rfl rfl ?_ | refine W_condT rfl ?_ | refine W_condF rfl ?_ | refine W_region ?_ | refine wN rfl ?_))
        refine Exists.intro _ ⟨Weak.refl _, Exists.intro _ ⟨resA_cell rfl rfl rfl (resA_tmp rfl rfl), ?_, rfl⟩⟩
        rfl
end Go.Proofs.YtkaffcdjhbaifaaGreat
