/- The search for a proof by the reference. -/
import Derived.Test.YtkadjimnamcjbaaYAPq
namespace Go.Proofs.Ytkadjimnamcjbaa
open Go.Eng
set_option maxRecDepth 100000
attribute [local irreducible] QV TV WL HW W CallOk Weak

abbrev PfO := Option (List Int × List Int)
/-- The first proof with rows i, k, m and one of the c rows behind m. -/
def pf4 (rs : List Rw) (i k m : Nat) : Nat → PfO
  | 0 => none
  | c + 1 => (pf4 rs i k m c).or (four rs i k m (m + 1 + c))
def pf3 (rs : List Rw) (i k : Nat) : Nat → PfO
  | 0 => none
  | c + 1 => (pf3 rs i k c).or (pf4 rs i k (k + 1 + c) (rs.length - (k + 1 + c + 1)))
def pf2 (rs : List Rw) (i : Nat) : Nat → PfO
  | 0 => none
  | c + 1 => (pf2 rs i c).or (pf3 rs i (i + 1 + c) (rs.length - (i + 1 + c + 1)))
def pf1 (rs : List Rw) : Nat → PfO
  | 0 => none
  | c + 1 => (pf1 rs c).or (pf2 rs c (rs.length - (c + 1)))
def pfind (rs : List Rw) : PfO := bif decide (rs.length ≤ 20) then pf1 rs rs.length else none
def outR : PfO → List (List AV)
  | none => []
  | some (ks, fs) => [[slI ks, slI fs]]
abbrev fourD : PfO → AV
  | some (ks, fs) => .tup [.agg [slI ks, slI fs], vb true]
  | none => .tup [.agg [.v (.slice none 0 0), .v (.slice none 0 0)], vb false]
theorem proofOfFour_d (rs : List Rw) (i k m x : Nat) (hr : rs.length ≤ 1048576) (h1 : i < k) (h2 : k < m) (h3 : m < x) (h4 : x < rs.length) : CallOk Try.prog 177 [slRw rs, slI (fourI i k m x)] (fun r => r = fourD (four rs i k m x)) := by
  have h := proofOfFour_ok rs i k m x hr h1 h2 h3 h4
  cases e : four rs i k m x with
  | none => rw [e] at h; exact h
  | some p => obtain ⟨ks, fs⟩ := p; rw [e] at h; exact callOk_dat h rfl
theorem l16All_far (rs : List Rw) (hr : rs.length ≤ 1048576) (hn : 20 < rs.length) : CallOk Try.prog 162 [slRw rs, vi 1] (fun r => r = .own 13 88 2 []) := by
  have g1 : abin .lss .i64 0 (rs.length : Int) = some (.bool true) := by simp only [abin]; rw [decide_eq_true (by omega)]
  have g2 : abin .leq .i64 (rs.length : Int) 20 = some (.bool false) := by simp only [abin]; rw [decide_eq_false (by omega)]
  refine callOk Try.func162 Try.ntmps162 Try.results162 rfl rfl rfl fun B w0 I0 => ?_
  (repeat (first | refine WL_nil ?_ | (apply wl0 (hd := rfl); (first | exact qv0 | exact QV_bne Try.underlying4 rfl rfl | exact QV_beq Try.underlying4 rfl rfl | exact qv1); (exact gy0)) | (apply wlb (hd := rfl); (first | exact q_box rfl rfl rfl | exact q_alloc); (exact gy0); rfl) | refine wln ⟨_, rfl, rfl⟩ rfl ?_ | refine wlnu ⟨_, rfl, rfl⟩ rfl ?_ | (apply wln1 (hd := rfl); exact q_buildSlice 13 rfl rfl rfl rfl; (exact gy0); rfl) | refine wst rfl rfl rfl List.not_mem_nil rfl rfl rfl rfl rfl rfl ?_ | refine W_seq ?_ | refine W_condT rfl ?_ | refine W_condF rfl ?_ | refine W_region ?_ | refine W_skip ?_ | refine W_ret ?_ | refine W_block ?_ | refine W_exit ?_))
  refine W_rounds 1 ?_
  (repeat (first | refine WL_nil ?_ | (apply wl0 (hd := rfl); (first | exact QV_bin rfl rfl g1 | exact QV_bin rfl rfl g2 | exact qv0 | exact QV_bne Try.underlying4 rfl rfl | exact QV_beq Try.underlying4 rfl rfl | exact qv1); (exact gy0)) | (apply wlb (hd := rfl); (first | exact q_box rfl rfl rfl | exact q_alloc); (exact gy0); rfl) | refine wln ⟨_, rfl, rfl⟩ rfl ?_ | refine wlnu ⟨_, rfl, rfl⟩ rfl ?_ | refine wst rfl rfl rfl List.not_mem_nil rfl rfl rfl rfl rfl rfl ?_ | refine W_seq ?_ | refine W_condT rfl ?_ | refine W_condF rfl ?_ | refine W_region ?_ | refine W_skip ?_ | refine W_ret ?_ | refine W_block ?_ | refine W_exit ?_))
  refine Exists.intro _ ⟨Weak.refl _, Exists.intro _ ⟨resA_tmp rfl rfl, ?_, rfl⟩⟩
  rfl
theorem pf4_some {rs : List Rw} {i k m : Nat} {o : PfO} {e : Nat} {p : List Int × List Int} (h : o.or (pf4 rs i k m e) = some p) : ∀ c, e ≤ c → o.or (pf4 rs i k m c) = some p := by
  intro c hc
  induction c with
  | zero => rw [show e = 0 by omega] at h; exact h
  | succ c ih =>
    by_cases he : e = c + 1
    · rw [he] at h; exact h
    · rw [pf4, ← Option.or_assoc, ih (by omega)]
      rfl
set_option maxHeartbeats 4000000 in
theorem l16All_ok (rs : List Rw) (hr : rs.length ≤ 20) : CallOk Try.prog 162 [slRw rs, vi 1] (fun r => r = .own 13 88 2 (outR (pf1 rs rs.length))) := by
  have g2 : abin .leq .i64 (rs.length : Int) 20 = some (.bool true) := by simp only [abin]; rw [decide_eq_true (by omega)]
  refine callOk Try.func162 Try.ntmps162 Try.results162 rfl rfl rfl fun B w0 I0 => ?_
  (repeat (first | refine WL_nil ?_ | (apply wl0 (hd := rfl); (first | exact qv0 | exact QV_bne Try.underlying4 rfl rfl | exact QV_beq Try.underlying4 rfl rfl | exact qv1); (exact gy0)) | (apply wlb (hd := rfl); (first | exact q_box rfl rfl rfl | exact q_alloc); (exact gy0); rfl) | refine wln ⟨_, rfl, rfl⟩ rfl ?_ | refine wlnu ⟨_, rfl, rfl⟩ rfl ?_ | (apply wln1 (hd := rfl); exact q_buildSlice 13 rfl rfl rfl rfl; (exact gy0); rfl) | refine wst rfl rfl rfl List.not_mem_nil rfl rfl rfl rfl rfl rfl ?_ | refine W_seq ?_ | refine W_condT rfl ?_ | refine W_condF rfl ?_ | refine W_region ?_ | refine W_skip ?_ | refine W_ret ?_ | refine W_block ?_ | refine W_exit ?_))
  refine W_loop (fun n s => ∃ (i : Nat) (R : List (List AV)), i ≤ rs.length ∧ n = rs.length - i ∧ R = outR (pf1 rs i) ∧ s = ⟨[(0, slRw rs), (1, vi 1), (5, .own 13 88 2 R), (6, vi rs.length), (7, vi i)], [], [13]⟩) ⟨_, _, ⟨0, [], by omega, rfl, rfl, rfl⟩, (weak_mk (by repeat' (first | exact trivial | refine And.intro ?_ ?_ | exact Le.refl | exact Le.nilOwn rfl | exact Le.nilSl | exact Le.ownSl | exact Le.top)) (by repeat' (first | exact trivial | refine And.intro ?_ ?_ | exact ⟨_, rfl, Les.refl _⟩ | exact ⟨_, rfl, by repeat' (first | exact Les.nil | exact Les.cons Le.refl (Les.refl _) | refine Les.cons (by first | exact Le.top | exact Le.refl | exact Le.ownSl | exact Le.nilSl) ?_)⟩)) rfl (by repeat' (first | exact trivial | refine And.intro ?_ ?_ | exact rfl | exact refs_fill (fun _ => rfl) rfl | exact refs_map (fun _ => rfl))) (fun _ _ _ h => by first | exact h.elim | (obtain ⟨rfl, rfl, rfl⟩ := h; simp)))⟩ ?_
  rintro n s ⟨i, R, hi, rfl, hR, rfl⟩
  by_cases hlt : i < rs.length
  · have g1 : abin .lss .i64 (i : Int) (rs.length : Int) = some (.bool true) := by simp only [abin]; rw [decide_eq_true (by omega)]
    (repeat (first | refine WL_nil ?_ | (apply wl0 (hd := rfl); (first | exact QV_bin rfl rfl g1 | exact QV_bin rfl rfl g2 | exact qv0 | exact QV_bne Try.underlying4 rfl rfl | exact QV_beq Try.underlying4 rfl rfl | exact qv1); (exact gy0)) | (apply wlb (hd := rfl); (first | exact q_box rfl rfl rfl | exact q_alloc); (exact gy0); rfl) | refine wln ⟨_, rfl, rfl⟩ rfl ?_ | refine wlnu ⟨_, rfl, rfl⟩ rfl ?_ | refine wst rfl rfl rfl List.not_mem_nil rfl rfl rfl rfl rfl rfl ?_ | refine W_seq ?_ | refine W_condT rfl ?_ | refine W_condF rfl ?_ | refine W_region ?_ | refine W_skip ?_ | refine W_ret ?_ | refine W_block ?_ | refine W_exit ?_))
    refine W_loop (fun n s => ∃ (c : Nat) (R : List (List AV)), c ≤ rs.length - (i + 1) ∧ n = rs.length - (i + 1) - c ∧ R = outR ((pf1 rs i).or (pf2 rs i c)) ∧ s = ⟨[(0, slRw rs), (1, vi 1), (5, .own 13 88 2 R), (6, vi rs.length), (7, vi i), (8, vi (i + 1 + c : Nat))], [], [13]⟩) ⟨_, _, ⟨0, R, by omega, rfl, by rw [hR]; simp [pf2], rfl⟩, (weak_mk (by repeat' (first | exact trivial | refine And.intro ?_ ?_ | exact Le.refl | exact Le.nilOwn rfl | exact Le.nilSl | exact Le.ownSl | exact Le.top)) (by repeat' (first | exact trivial | refine And.intro ?_ ?_ | exact ⟨_, rfl, Les.refl _⟩ | exact ⟨_, rfl, by repeat' (first | exact Les.nil | exact Les.cons Le.refl (Les.refl _) | refine Les.cons (by first | exact Le.top | exact Le.refl | exact Le.ownSl | exact Le.nilSl) ?_)⟩)) rfl (by repeat' (first | exact trivial | refine And.intro ?_ ?_ | exact rfl | exact refs_fill (fun _ => rfl) rfl | exact refs_map (fun _ => rfl))) (fun _ _ _ h => by first | exact h.elim | (obtain ⟨rfl, rfl, rfl⟩ := h; simp)))⟩ ?_
    rintro n s ⟨c, R, hc, rfl, hR, rfl⟩
    by_cases hlt2 : c < rs.length - (i + 1)
    · have g3 : abin .lss .i64 ((i + 1 + c : Nat) : Int) (rs.length : Int) = some (.bool true) := by simp only [abin]; rw [decide_eq_true (by omega)]
      (repeat (first | refine WL_nil ?_ | (apply wl0 (hd := rfl); (first | exact QV_bin rfl rfl g3 | exact qv0 | exact QV_bne Try.underlying4 rfl rfl | exact QV_beq Try.underlying4 rfl rfl | exact qv1); (exact gy0)) | (apply wlb (hd := rfl); (first | exact q_box rfl rfl rfl | exact q_alloc); (exact gy0); rfl) | refine wln ⟨_, rfl, rfl⟩ rfl ?_ | refine wlnu ⟨_, rfl, rfl⟩ rfl ?_ | refine wst rfl rfl rfl List.not_mem_nil rfl rfl rfl rfl rfl rfl ?_ | refine W_seq ?_ | refine W_condT rfl ?_ | refine W_condF rfl ?_ | refine W_region ?_ | refine W_skip ?_ | refine W_ret ?_ | refine W_block ?_ | refine W_exit ?_))
      obtain ⟨K, eK⟩ : ∃ K, K = i + 1 + c := ⟨_, rfl⟩
      have eq2 : pf2 rs i (c + 1) = (pf2 rs i c).or (pf3 rs i K (rs.length - (K + 1))) := by rw [eK]; rfl
      have hK : i < K ∧ K < rs.length := by omega
      rw [← eK]
      refine W_loop (fun n s => ∃ (d : Nat) (R : List (List AV)), d ≤ rs.length - (K + 1) ∧ n = rs.length - (K + 1) - d ∧ R = outR (((pf1 rs i).or (pf2 rs i c)).or (pf3 rs i K d)) ∧ s = ⟨[(0, slRw rs), (1, vi 1), (5, .own 13 88 2 R), (6, vi rs.length), (7, vi i), (8, vi K), (9, vi (K + 1 + d : Nat))], [], [13]⟩) ⟨_, _, ⟨0, R, by omega, rfl, by rw [hR]; simp [pf3], rfl⟩, (weak_mk (by repeat' (first | exact trivial | refine And.intro ?_ ?_ | exact Le.refl | exact Le.nilOwn rfl | exact Le.nilSl | exact Le.ownSl | exact Le.top)) (by repeat' (first | exact trivial | refine And.intro ?_ ?_ | exact ⟨_, rfl, Les.refl _⟩ | exact ⟨_, rfl, by repeat' (first | exact Les.nil | exact Les.cons Le.refl (Les.refl _) | refine Les.cons (by first | exact Le.top | exact Le.refl | exact Le.ownSl | exact Le.nilSl) ?_)⟩)) rfl (by repeat' (first | exact trivial | refine And.intro ?_ ?_ | exact rfl | exact refs_fill (fun _ => rfl) rfl | exact refs_map (fun _ => rfl))) (fun _ _ _ h => by first | exact h.elim | (obtain ⟨rfl, rfl, rfl⟩ := h; simp)))⟩ ?_
      rintro n s ⟨d, R, hd, rfl, hR, rfl⟩
      by_cases hlt3 : d < rs.length - (K + 1)
      · have g4 : abin .lss .i64 ((K + 1 + d : Nat) : Int) (rs.length : Int) = some (.bool true) := by simp only [abin]; rw [decide_eq_true (by omega)]
        obtain ⟨M, eM⟩ : ∃ M, M = K + 1 + d := ⟨_, rfl⟩
        have eq3 : pf3 rs i K (d + 1) = (pf3 rs i K d).or (pf4 rs i K M (rs.length - (M + 1))) := by rw [eM]; rfl
        have hM : K < M ∧ M < rs.length := by omega
        rw [← eM] at g4 ⊢
        obtain ⟨o, eo⟩ : ∃ o, o = ((pf1 rs i).or (pf2 rs i c)).or (pf3 rs i K d) := ⟨_, rfl⟩
        rw [← eo] at hR
        (repeat (first | refine WL_nil ?_ | (apply wl0 (hd := rfl); (first | exact QV_bin rfl rfl g4 | exact qv0 | exact QV_bne Try.underlying4 rfl rfl | exact QV_beq Try.underlying4 rfl rfl | exact qv1); (exact gy0)) | (apply wlb (hd := rfl); (first | exact q_box rfl rfl rfl | exact q_alloc); (exact gy0); rfl) | refine wln ⟨_, rfl, rfl⟩ rfl ?_ | refine wlnu ⟨_, rfl, rfl⟩ rfl ?_ | refine wst rfl rfl rfl List.not_mem_nil rfl rfl rfl rfl rfl rfl ?_ | refine W_seq ?_ | refine W_condT rfl ?_ | refine W_condF rfl ?_ | refine W_region ?_ | refine W_skip ?_ | refine W_ret ?_ | refine W_block ?_ | refine W_exit ?_))
        refine W_loop (fun n s => ∃ (e : Nat) (R : List (List AV)), e ≤ rs.length - (M + 1) ∧ n = rs.length - (M + 1) - e ∧ R = outR (o.or (pf4 rs i K M e)) ∧ s = ⟨[(0, slRw rs), (1, vi 1), (5, .own 13 88 2 R), (6, vi rs.length), (7, vi i), (8, vi K), (9, vi M), (10, vi (M + 1 + e : Nat))], [], [13]⟩) ⟨_, _, ⟨0, R, by omega, rfl, by rw [hR]; simp [pf4], rfl⟩, (weak_mk (by repeat' (first | exact trivial | refine And.intro ?_ ?_ | exact Le.refl | exact Le.nilOwn rfl | exact Le.nilSl | exact Le.ownSl | exact Le.top)) (by repeat' (first | exact trivial | refine And.intro ?_ ?_ | exact ⟨_, rfl, Les.refl _⟩ | exact ⟨_, rfl, by repeat' (first | exact Les.nil | exact Les.cons Le.refl (Les.refl _) | refine Les.cons (by first | exact Le.top | exact Le.refl | exact Le.ownSl | exact Le.nilSl) ?_)⟩)) rfl (by repeat' (first | exact trivial | refine And.intro ?_ ?_ | exact rfl | exact refs_fill (fun _ => rfl) rfl | exact refs_map (fun _ => rfl))) (fun _ _ _ h => by first | exact h.elim | (obtain ⟨rfl, rfl, rfl⟩ := h; simp)))⟩ ?_
        rintro n s ⟨e, R, he, rfl, hR, rfl⟩
        obtain ⟨X, eX⟩ : ∃ X, X = M + 1 + e := ⟨_, rfl⟩
        have eq4 : pf4 rs i K M (e + 1) = (pf4 rs i K M e).or (four rs i K M X) := by rw [eX]; rfl
        have done : ∀ r, o.or (pf4 rs i K M (rs.length - (M + 1))) = r → outR (((pf1 rs i).or (pf2 rs i c)).or (pf3 rs i K (d + 1))) = outR r := fun r h => by rw [eq3, ← Option.or_assoc, ← eo, h]
        rw [← eX]
        by_cases hlt4 : e < rs.length - (M + 1)
        · have g5 : abin .lss .i64 (X : Int) (rs.length : Int) = some (.bool true) := by simp only [abin]; rw [decide_eq_true (by omega)]
          cases hp : o.or (pf4 rs i K M e) with
          | some p =>
            rw [hp] at hR
            obtain ⟨ks, fs⟩ := p
            have hR' : R = [[slI ks, slI fs]] := hR
            subst hR'
            (repeat (first | refine WL_nil ?_ | (apply wl0 (hd := rfl); (first | exact QV_bin rfl rfl g5 | exact qv0 | exact QV_bne Try.underlying4 rfl rfl | exact QV_beq Try.underlying4 rfl rfl | exact qv1); (exact gy0)) | (apply wlb (hd := rfl); (first | exact q_box rfl rfl rfl | exact q_alloc); (exact gy0); rfl) | refine wln ⟨_, rfl, rfl⟩ rfl ?_ | refine wlnu ⟨_, rfl, rfl⟩ rfl ?_ | refine wst rfl rfl rfl List.not_mem_nil rfl rfl rfl rfl rfl rfl ?_ | refine W_seq ?_ | refine W_condT rfl ?_ | refine W_condF rfl ?_ | refine W_region ?_ | refine W_skip ?_ | refine W_ret ?_ | refine W_block ?_ | refine W_exit ?_))
            subst eM
            refine Exists.intro _ (Exists.intro _ ⟨?_, ⟨d + 1, [[slI ks, slI fs]], by omega, rfl, (done _ (pf4_some hp _ (by omega))).symm, rfl⟩, (weak_mk (by repeat' (first | exact trivial | refine And.intro ?_ ?_ | exact Le.refl | exact Le.nilOwn rfl | exact Le.nilSl | exact Le.ownSl | exact Le.top)) (by repeat' (first | exact trivial | refine And.intro ?_ ?_ | exact ⟨_, rfl, Les.refl _⟩ | exact ⟨_, rfl, by repeat' (first | exact Les.nil | exact Les.cons Le.refl (Les.refl _) | refine Les.cons (by first | exact Le.top | exact Le.refl | exact Le.ownSl | exact Le.nilSl) ?_)⟩)) rfl (by repeat' (first | exact trivial | refine And.intro ?_ ?_ | exact rfl | exact refs_fill (fun _ => rfl) rfl | exact refs_map (fun _ => rfl))) (fun _ _ _ h => by first | exact h.elim | (obtain ⟨rfl, rfl, rfl⟩ := h; simp)))⟩)
            omega
          | none =>
            rw [hp] at hR
            have hR' : R = [] := hR
            subst hR'
            have hq := proofOfFour_d rs i K M X (by omega) hK.1 hM.1 (by omega) (by omega)
            cases hf : four rs i K M X with
            | none =>
              rw [hf] at hq
              (repeat (first | refine WL_nil ?_ | (apply wl0 (hd := rfl); (first | exact QV_bin rfl rfl g5 | exact qv0 | exact QV_bne Try.underlying4 rfl rfl | exact QV_beq Try.underlying4 rfl rfl | exact qv1 | exact q_callA (hq)); (exact gy0)) | (apply wlb (hd := rfl); (first | exact q_box rfl rfl rfl | exact q_alloc); (exact gy0); rfl) | refine wln ⟨_, rfl, rfl⟩ rfl ?_ | refine wlnu ⟨_, rfl, rfl⟩ rfl ?_ | (apply wln1 (hd := rfl); exact q_buildSlice 58 rfl rfl rfl rfl; (exact gy0); rfl) | refine wst rfl rfl rfl List.not_mem_nil rfl rfl rfl rfl rfl rfl ?_ | refine W_seq ?_ | refine W_condT rfl ?_ | refine W_condF rfl ?_ | refine W_region ?_ | refine W_skip ?_ | refine W_ret ?_ | refine W_block ?_ | refine W_exit ?_))
              subst eX
              refine Exists.intro _ (Exists.intro _ ⟨?_, ⟨e + 1, [], by omega, rfl, by rw [eq4, ← Option.or_assoc, hp, hf]; rfl, rfl⟩, (weak_mk (by repeat' (first | exact trivial | refine And.intro ?_ ?_ | exact Le.refl | exact Le.nilOwn rfl | exact Le.nilSl | exact Le.ownSl | exact Le.top)) (by repeat' (first | exact trivial | refine And.intro ?_ ?_ | exact ⟨_, rfl, Les.refl _⟩ | exact ⟨_, rfl, by repeat' (first | exact Les.nil | exact Les.cons Le.refl (Les.refl _) | refine Les.cons (by first | exact Le.top | exact Le.refl | exact Le.ownSl | exact Le.nilSl) ?_)⟩)) rfl (by repeat' (first | exact trivial | refine And.intro ?_ ?_ | exact rfl | exact refs_fill (fun _ => rfl) rfl | exact refs_map (fun _ => rfl))) (fun _ _ _ h => by first | exact h.elim | (obtain ⟨rfl, rfl, rfl⟩ := h; simp)))⟩)
              omega
            | some p =>
              obtain ⟨ks, fs⟩ := p
              rw [hf] at hq
              (repeat (first | refine WL_nil ?_ | (apply wl0 (hd := rfl); (first | exact QV_bin rfl rfl g5 | exact qv0 | exact QV_bne Try.underlying4 rfl rfl | exact QV_beq Try.underlying4 rfl rfl | exact qv1 | exact q_callA (hq)); (exact gy0)) | (apply wlb (hd := rfl); (first | exact q_box rfl rfl rfl | exact q_alloc); (exact gy0); rfl) | refine wln ⟨_, rfl, rfl⟩ rfl ?_ | refine wlnu ⟨_, rfl, rfl⟩ rfl ?_ | (apply wln1 (hd := rfl); exact q_buildSlice 58 rfl rfl rfl rfl; (exact gy0); rfl) | (apply wln1 (hd := rfl); exact q_buildSlice 65 rfl rfl rfl rfl; (exact gy0); rfl) | refine wst rfl rfl rfl List.not_mem_nil rfl rfl rfl rfl rfl rfl ?_ | refine wapp (rows2 := [[slI ks, slI fs]]) rfl rfl rfl (by intro z hz; simp at hz; rcases hz with rfl | rfl <;> rfl) (by simp) (by simp) rfl rfl rfl rfl ?_ | refine W_seq ?_ | refine W_condT rfl ?_ | refine W_condF rfl ?_ | refine W_region ?_ | refine W_skip ?_ | refine W_ret ?_ | refine W_block ?_ | refine W_exit ?_))
              subst eX
              refine Exists.intro _ (Exists.intro _ ⟨?_, ⟨e + 1, [[slI ks, slI fs]], by omega, rfl, by rw [eq4, ← Option.or_assoc, hp, hf]; rfl, rfl⟩, (weak_mk (by repeat' (first | exact trivial | refine And.intro ?_ ?_ | exact Le.refl | exact Le.nilOwn rfl | exact Le.nilSl | exact Le.ownSl | exact Le.top)) (by repeat' (first | exact trivial | refine And.intro ?_ ?_ | exact ⟨_, rfl, Les.refl _⟩ | exact ⟨_, rfl, by repeat' (first | exact Les.nil | exact Les.cons Le.refl (Les.refl _) | refine Les.cons (by first | exact Le.top | exact Le.refl | exact Le.ownSl | exact Le.nilSl) ?_)⟩)) rfl (by repeat' (first | exact trivial | refine And.intro ?_ ?_ | exact rfl | exact refs_fill (fun _ => rfl) rfl | exact refs_map (fun _ => rfl))) (fun _ _ _ h => by first | exact h.elim | (obtain ⟨rfl, rfl, rfl⟩ := h; simp)))⟩)
              omega
        · have g5 : abin .lss .i64 (X : Int) (rs.length : Int) = some (.bool false) := by simp only [abin]; rw [decide_eq_false (by omega)]
          have he' : e = rs.length - (M + 1) := by omega
          (repeat (first | refine WL_nil ?_ | (apply wl0 (hd := rfl); (first | exact QV_bin rfl rfl g5 | exact qv0 | exact QV_bne Try.underlying4 rfl rfl | exact QV_beq Try.underlying4 rfl rfl | exact qv1); (exact gy0)) | (apply wlb (hd := rfl); (first | exact q_box rfl rfl rfl | exact q_alloc); (exact gy0); rfl) | refine wln ⟨_, rfl, rfl⟩ rfl ?_ | refine wlnu ⟨_, rfl, rfl⟩ rfl ?_ | refine wst rfl rfl rfl List.not_mem_nil rfl rfl rfl rfl rfl rfl ?_ | refine W_seq ?_ | refine W_condT rfl ?_ | refine W_condF rfl ?_ | refine W_region ?_ | refine W_skip ?_ | refine W_ret ?_ | refine W_block ?_ | refine W_exit ?_))
          subst eM
          refine Exists.intro _ (Exists.intro _ ⟨?_, ⟨d + 1, R, by omega, rfl, by rw [hR, he']; exact (done _ rfl).symm, rfl⟩, (weak_mk (by repeat' (first | exact trivial | refine And.intro ?_ ?_ | exact Le.refl | exact Le.nilOwn rfl | exact Le.nilSl | exact Le.ownSl | exact Le.top)) (by repeat' (first | exact trivial | refine And.intro ?_ ?_ | exact ⟨_, rfl, Les.refl _⟩ | exact ⟨_, rfl, by repeat' (first | exact Les.nil | exact Les.cons Le.refl (Les.refl _) | refine Les.cons (by first | exact Le.top | exact Le.refl | exact Le.ownSl | exact Le.nilSl) ?_)⟩)) rfl (by repeat' (first | exact trivial | refine And.intro ?_ ?_ | exact rfl | exact refs_fill (fun _ => rfl) rfl | exact refs_map (fun _ => rfl))) (fun _ _ _ h => by first | exact h.elim | (obtain ⟨rfl, rfl, rfl⟩ := h; simp)))⟩)
          omega
      · have g4 : abin .lss .i64 ((K + 1 + d : Nat) : Int) (rs.length : Int) = some (.bool false) := by simp only [abin]; rw [decide_eq_false (by omega)]
        have hd' : d = rs.length - (K + 1) := by omega
        (repeat (first | refine WL_nil ?_ | (apply wl0 (hd := rfl); (first | exact QV_bin rfl rfl g4 | exact qv0 | exact QV_bne Try.underlying4 rfl rfl | exact QV_beq Try.underlying4 rfl rfl | exact qv1); (exact gy0)) | (apply wlb (hd := rfl); (first | exact q_box rfl rfl rfl | exact q_alloc); (exact gy0); rfl) | refine wln ⟨_, rfl, rfl⟩ rfl ?_ | refine wlnu ⟨_, rfl, rfl⟩ rfl ?_ | refine wst rfl rfl rfl List.not_mem_nil rfl rfl rfl rfl rfl rfl ?_ | refine W_seq ?_ | refine W_condT rfl ?_ | refine W_condF rfl ?_ | refine W_region ?_ | refine W_skip ?_ | refine W_ret ?_ | refine W_block ?_ | refine W_exit ?_))
        subst eK
        refine Exists.intro _ (Exists.intro _ ⟨?_, ⟨c + 1, R, by omega, rfl, by rw [hR, eq2, hd', Option.or_assoc], rfl⟩, (weak_mk (by repeat' (first | exact trivial | refine And.intro ?_ ?_ | exact Le.refl | exact Le.nilOwn rfl | exact Le.nilSl | exact Le.ownSl | exact Le.top)) (by repeat' (first | exact trivial | refine And.intro ?_ ?_ | exact ⟨_, rfl, Les.refl _⟩ | exact ⟨_, rfl, by repeat' (first | exact Les.nil | exact Les.cons Le.refl (Les.refl _) | refine Les.cons (by first | exact Le.top | exact Le.refl | exact Le.ownSl | exact Le.nilSl) ?_)⟩)) rfl (by repeat' (first | exact trivial | refine And.intro ?_ ?_ | exact rfl | exact refs_fill (fun _ => rfl) rfl | exact refs_map (fun _ => rfl))) (fun _ _ _ h => by first | exact h.elim | (obtain ⟨rfl, rfl, rfl⟩ := h; simp)))⟩)
        omega
    · have g3 : abin .lss .i64 ((i + 1 + c : Nat) : Int) (rs.length : Int) = some (.bool false) := by simp only [abin]; rw [decide_eq_false (by omega)]
      have hc' : c = rs.length - (i + 1) := by omega
      subst hc'
      (repeat (first | refine WL_nil ?_ | (apply wl0 (hd := rfl); (first | exact QV_bin rfl rfl g3 | exact qv0 | exact QV_bne Try.underlying4 rfl rfl | exact QV_beq Try.underlying4 rfl rfl | exact qv1); (exact gy0)) | (apply wlb (hd := rfl); (first | exact q_box rfl rfl rfl | exact q_alloc); (exact gy0); rfl) | refine wln ⟨_, rfl, rfl⟩ rfl ?_ | refine wlnu ⟨_, rfl, rfl⟩ rfl ?_ | refine wst rfl rfl rfl List.not_mem_nil rfl rfl rfl rfl rfl rfl ?_ | refine W_seq ?_ | refine W_condT rfl ?_ | refine W_condF rfl ?_ | refine W_region ?_ | refine W_skip ?_ | refine W_ret ?_ | refine W_block ?_ | refine W_exit ?_))
      refine Exists.intro _ (Exists.intro _ ⟨?_, ⟨i + 1, R, by omega, rfl, by rw [hR]; rfl, rfl⟩, (weak_mk (by repeat' (first | exact trivial | refine And.intro ?_ ?_ | exact Le.refl | exact Le.nilOwn rfl | exact Le.nilSl | exact Le.ownSl | exact Le.top)) (by repeat' (first | exact trivial | refine And.intro ?_ ?_ | exact ⟨_, rfl, Les.refl _⟩ | exact ⟨_, rfl, by repeat' (first | exact Les.nil | exact Les.cons Le.refl (Les.refl _) | refine Les.cons (by first | exact Le.top | exact Le.refl | exact Le.ownSl | exact Le.nilSl) ?_)⟩)) rfl (by repeat' (first | exact trivial | refine And.intro ?_ ?_ | exact rfl | exact refs_fill (fun _ => rfl) rfl | exact refs_map (fun _ => rfl))) (fun _ _ _ h => by first | exact h.elim | (obtain ⟨rfl, rfl, rfl⟩ := h; simp)))⟩)
      omega
  · have g1 : abin .lss .i64 (i : Int) (rs.length : Int) = some (.bool false) := by simp only [abin]; rw [decide_eq_false (by omega)]
    have hi' : i = rs.length := by omega
    subst hi'
    (repeat (first | refine WL_nil ?_ | (apply wl0 (hd := rfl); (first | exact QV_bin rfl rfl g1 | exact qv0 | exact QV_bne Try.underlying4 rfl rfl | exact QV_beq Try.underlying4 rfl rfl | exact qv1); (exact gy0)) | (apply wlb (hd := rfl); (first | exact q_box rfl rfl rfl | exact q_alloc); (exact gy0); rfl) | refine wln ⟨_, rfl, rfl⟩ rfl ?_ | refine wlnu ⟨_, rfl, rfl⟩ rfl ?_ | refine wst rfl rfl rfl List.not_mem_nil rfl rfl rfl rfl rfl rfl ?_ | refine W_seq ?_ | refine W_condT rfl ?_ | refine W_condF rfl ?_ | refine W_region ?_ | refine W_skip ?_ | refine W_ret ?_ | refine W_block ?_ | refine W_exit ?_))
    refine Exists.intro _ ⟨Weak.refl _, Exists.intro _ ⟨resA_tmp rfl rfl, ?_, rfl⟩⟩
    rw [hR]
    rfl
theorem findProof_ok (rs : List Rw) (hr : rs.length ≤ 1048576) : CallOk Try.prog 136 [slRw rs] (fun r => r = fourD (pfind rs)) := by
  unfold pfind
  by_cases h : rs.length ≤ 20
  · have hl := l16All_ok rs h
    rw [decide_eq_true h, cond_true]
    cases e : pf1 rs rs.length with
    | none =>
      rw [e] at hl
      refine callOk Try.func136 Try.ntmps136 Try.results136 rfl rfl rfl fun B w0 I0 => ?_
      (repeat (first | refine WL_nil ?_ | (apply wl0 (hd := rfl); (first | exact qv0 | exact QV_bne Try.underlying4 rfl rfl | exact QV_beq Try.underlying4 rfl rfl | exact qv1); (exact gy0)) | (apply wlb (hd := rfl); (first | exact q_box rfl rfl rfl | exact q_alloc); (exact gy0); rfl) | refine wln ⟨_, rfl, rfl⟩ rfl ?_ | refine wlnu ⟨_, rfl, rfl⟩ rfl ?_ | (apply wln1 (hd := rfl); exact q_call1A 0 13 (hl); (exact gy0); rfl) | refine wst rfl rfl rfl List.not_mem_nil rfl rfl rfl rfl rfl rfl ?_ | refine W_seq ?_ | refine W_condT rfl ?_ | refine W_condF rfl ?_ | refine W_region ?_ | refine W_skip ?_ | refine W_ret ?_ | refine W_block ?_ | refine W_exit ?_))
      refine Exists.intro _ ⟨Weak.refl _, Exists.intro _ ⟨resA_cell rfl rfl rfl (resA_tmp rfl rfl), ?_, rfl⟩⟩
      rfl
    | some p =>
      obtain ⟨ks, fs⟩ := p
      rw [e] at hl
      have h0 : (outR (some (ks, fs)))[0]? = some [slI ks, slI fs] := rfl
      refine callOk Try.func136 Try.ntmps136 Try.results136 rfl rfl rfl fun B w0 I0 => ?_
      (repeat (first | refine WL_nil ?_ | (apply wl0 (hd := rfl); (first | exact qv0 | exact QV_bne Try.underlying4 rfl rfl | exact QV_beq Try.underlying4 rfl rfl | exact qv1 | exact QV_indexAddr rfl rfl rfl rfl h0); (exact gy0)) | (apply wlb (hd := rfl); (first | exact q_box rfl rfl rfl | exact q_alloc); (exact gy0); rfl) | refine wln ⟨_, rfl, rfl⟩ rfl ?_ | refine wlnu ⟨_, rfl, rfl⟩ rfl ?_ | (apply wln1 (hd := rfl); exact q_call1A 0 13 (hl); (exact gy0); rfl) | refine wst rfl rfl rfl List.not_mem_nil rfl rfl rfl rfl rfl rfl ?_ | refine W_seq ?_ | refine W_condT rfl ?_ | refine W_condF rfl ?_ | refine W_region ?_ | refine W_skip ?_ | refine W_ret ?_ | refine W_block ?_ | refine W_exit ?_))
      refine Exists.intro _ ⟨Weak.refl _, Exists.intro _ ⟨resA_cell rfl rfl rfl (resA_tmp rfl rfl), ?_, rfl⟩⟩
      rfl
  · have hl := l16All_far rs hr (by omega)
    rw [decide_eq_false h, cond_false]
    refine callOk Try.func136 Try.ntmps136 Try.results136 rfl rfl rfl fun B w0 I0 => ?_
    (repeat (first | refine WL_nil ?_ | (apply wl0 (hd := rfl); (first | exact qv0 | exact QV_bne Try.underlying4 rfl rfl | exact QV_beq Try.underlying4 rfl rfl | exact qv1); (exact gy0)) | (apply wlb (hd := rfl); (first | exact q_box rfl rfl rfl | exact q_alloc); (exact gy0); rfl) | refine wln ⟨_, rfl, rfl⟩ rfl ?_ | refine wlnu ⟨_, rfl, rfl⟩ rfl ?_ | (apply wln1 (hd := rfl); exact q_call1A 0 13 (hl); (exact gy0); rfl) | refine wst rfl rfl rfl List.not_mem_nil rfl rfl rfl rfl rfl rfl ?_ | refine W_seq ?_ | refine W_condT rfl ?_ | refine W_condF rfl ?_ | refine W_region ?_ | refine W_skip ?_ | refine W_ret ?_ | refine W_block ?_ | refine W_exit ?_))
    refine Exists.intro _ ⟨Weak.refl _, Exists.intro _ ⟨resA_cell rfl rfl rfl (resA_tmp rfl rfl), ?_, rfl⟩⟩
    rfl
end Go.Proofs.Ytkadjimnamcjbaa
