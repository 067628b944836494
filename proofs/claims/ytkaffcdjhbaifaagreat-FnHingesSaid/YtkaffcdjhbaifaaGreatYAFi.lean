/- The program's FindProof: the first proof that proofsOf hands out. -/
import Derived.Test.YtkaffcdjhbaifaaGreatYG5
import Derived.Test.YtkaffcdjhbaifaaGreatYG6
import Derived.Test.YtkaffcdjhbaifaaGreatYG4
import Derived.Test.YtkaffcdjhbaifaaGreatZ16
import Derived.OwnWalkIn
import Derived.TacticsInMore
namespace Go.Proofs.YtkaffcdjhbaifaaGreat
open Go.Eng Go.RowKit
attribute [local go_sem] Oper.semAt_some
set_option maxRecDepth 100000
attribute [local irreducible] QV TV WL HW W CallOk Weak

theorem implProofOfFour_ok (rs : List Rw) (i k m x : Nat) (hr : rs.length ≤ 1048576) (h1 : i < k) (h2 : k < m) (h3 : m < x) (h4 : x < rs.length) : CallOk Tryz.prog 58 [slRw rs, slI (fourI i k m x)] (fun r => r = fourO (four rs i k m x)) :=
  implProofOfFour_of rs i k m x hr h1 h2 h3 h4 fun ks fs hk hf => implSumOfRows_ok rs ks fs hr (by omega) (by omega)
set_option maxHeartbeats 1000000 in
theorem proofsC (a : Option Addr) (len cap : Nat) (w : World) :
    Calls Tryz.prog 40 #[.slice a len cap] w fun e w' => e = .returned (.func (.func 57) #[] #[.pointer (some ⟨w.heap.size, 0, none⟩)]) ∧ w' = w.alloc (.cells #[.slice a len cap] 44) := by
  refine (callsIn_wide (n := 4)).1 (callsIn_of_wp Tryz.func40 rfl trivial ?_ rfl)
  simp only [Tryz.ntmps40, List.size_toArray, List.length_cons, List.length_nil, Nat.reduceAdd, Nat.reduceSub, Array.replicate_succ, Array.replicate_zero, List.push_toArray, List.append_toArray, List.nil_append, List.cons_append]
  gi_wp2
  go_ret
  exact ⟨rfl, rfl⟩
theorem pf4_up {rs : List Rw} {i k m : Nat} {p : List Int × List Int} {c : Nat} (h : pf4 rs i k m c = some p) : ∀ {c'}, c ≤ c' → pf4 rs i k m c' = some p := fun {c'} hc => by
  induction c' with
  | zero => rw [show c = 0 by omega] at h; exact h
  | succ c' ih =>
    by_cases e : c = c' + 1
    · rw [← e]; exact h
    · rw [pf4, ih (by omega)]; rfl
theorem pf3_up {rs : List Rw} {i k : Nat} {p : List Int × List Int} {c : Nat} (h : pf3 rs i k c = some p) : ∀ {c'}, c ≤ c' → pf3 rs i k c' = some p := fun {c'} hc => by
  induction c' with
  | zero => rw [show c = 0 by omega] at h; exact h
  | succ c' ih =>
    by_cases e : c = c' + 1
    · rw [← e]; exact h
    · rw [pf3, ih (by omega)]; rfl
theorem pf2_up {rs : List Rw} {i : Nat} {p : List Int × List Int} {c : Nat} (h : pf2 rs i c = some p) : ∀ {c'}, c ≤ c' → pf2 rs i c' = some p := fun {c'} hc => by
  induction c' with
  | zero => rw [show c = 0 by omega] at h; exact h
  | succ c' ih =>
    by_cases e : c = c' + 1
    · rw [← e]; exact h
    · rw [pf2, ih (by omega)]; rfl
theorem pf1_up {rs : List Rw} {p : List Int × List Int} {c : Nat} (h : pf1 rs c = some p) : ∀ {c'}, c ≤ c' → pf1 rs c' = some p := fun {c'} hc => by
  induction c' with
  | zero => rw [show c = 0 by omega] at h; exact h
  | succ c' ih =>
    by_cases e : c = c' + 1
    · rw [← e]; exact h
    · rw [pf1, ih (by omega)]; rfl
theorem pf_found {rs : List Rw} {i k m x c d e : Nat} {p : List Int × List Int} (hk : k = i + 1 + c) (hm : m = k + 1 + d) (hx : x = m + 1 + e) (hl : x < rs.length) (h1 : pf1 rs i = none) (h2 : pf2 rs i c = none) (h3 : pf3 rs i k d = none) (h4 : pf4 rs i k m e = none) (hf : four rs i k m x = some p) : pf1 rs rs.length = some p := by
  have a4 : pf4 rs i k m (e + 1) = some p := by rw [pf4, h4, ← hx, hf]; rfl
  have a3 : pf3 rs i k (d + 1) = some p := by rw [pf3, h3, ← hm, pf4_up a4 (by omega)]; rfl
  have a2 : pf2 rs i (c + 1) = some p := by rw [pf2, h2, ← hk, pf3_up a3 (by omega)]; rfl
  have a1 : pf1 rs (i + 1) = some p := by rw [pf1, h1, pf2_up a2 (by omega)]; rfl
  exact pf1_up a1 (by omega)
abbrev pfItem (ks fs : List Int) : AV := .agg [.own 20 3 1 (ks.map iRow), .own 21 3 1 (fs.map iRow)]
theorem search_ok (rs : List Rw) (hr : rs.length ≤ 20) (hall : rs.all rowB = true) {I : Nat → Nat → Prop} {W : World} {bl ol l : Nat} (hI : ∀ b o, I b o → (W.cell? ⟨b, o, none⟩).isSome = true) (hd : dcells I W bl ol [slRw rs]) (Rr : World → Prop)
    (hnone : pf1 rs rs.length = none → ∀ W', BelowM W.heap.size (fun _ => False) W W' → Rr W') (hmono : ∀ A C, Rr A → BelowM A.heap.size (fun _ => False) A C → Rr C)
    (hsome : ∀ ks fs, pf1 rs rs.length = some (ks, fs) → ∀ v W1, callP I W (fun r' => r' = pfItem ks fs) (.returned v) W1 → YieldAt Fence.wide 3 Tryz.prog l #[v] W1 fun e W' => e = .returned (.bool false) ∧ Rr W') :
    CallsIn Fence.wide 4 Tryz.prog 57 #[.func (.yield l) #[] #[], .pointer (some ⟨bl, ol, none⟩)] W fun e W' => (∃ v, e = .returned v) ∧ Rr W' := by
  refine callsIn_of_WK (args := [.v (.func (.yield l) #[] #[]), .eptr [slRw rs]]) Tryz.func57 Tryz.ntmps57 Tryz.results57 rfl rfl rfl hI ?_ fun fn hrs => ?_
  · simp only [reps, rep]
    exact ⟨_, _, rfl, rfl, _, _, rfl, ⟨_, _, rfl, hd⟩, rfl⟩
  obtain ⟨yf, hyf⟩ : ∃ yf : AV, yf = .v (.func (.yield l) #[] #[]) := ⟨_, rfl⟩
  have h1 := rowsOk_ok rs (by omega)
  rw [hall] at h1
  have g0 : abin .gtr .i64 (rs.length : Int) 20 = some (.bool false) := by simp only [abin]; rw [decide_eq_false (by omega)]
  refine WK_scope (WK_seqN ?_)
  (repeat (first | refine WL_nil ?_ | (apply wl0 (hd := rfl); (first | exact qv9); (exact gy0)) | (apply wlb (hd := rfl); exact qbx; (exact gy0); rfl) | refine wln ⟨_, rfl, rfl⟩ rfl ?_ | refine wlnu ⟨_, rfl, rfl⟩ rfl ?_ | refine wst rfl rfl rfl List.not_mem_nil rfl rfl rfl rfl rfl rfl ?_ | refine W_condT rfl ?_ | refine W_condF rfl ?_ | refine W_region ?_ | refine wN rfl ?_))
  refine ⟨rfl, WK_seqN ?_⟩
  (repeat (first | refine WL_nil ?_ | (apply wl0 (hd := rfl); (first | exact QV_bin rfl rfl g0 | exact qv9 | exact q_callA (h1)); (exact gy0)) | (apply wlb (hd := rfl); exact qbx; (exact gy0); rfl) | refine wln ⟨_, rfl, rfl⟩ rfl ?_ | refine wlnu ⟨_, rfl, rfl⟩ rfl ?_ | refine wst rfl rfl rfl List.not_mem_nil rfl rfl rfl rfl rfl rfl ?_ | refine W_condT rfl ?_ | refine W_condF rfl ?_ | refine W_region ?_ | refine wN rfl ?_))
  refine ⟨rfl, WK_seqN (W_label ⟨rfl, WK_seqN ?_⟩)⟩
  (repeat (first | refine WL_nil ?_ | (apply wl0 (hd := rfl); (first | exact qv9); (exact gy0)) | (apply wlb (hd := rfl); exact qbx; (exact gy0); rfl) | refine wln ⟨_, rfl, rfl⟩ rfl ?_ | refine wlnu ⟨_, rfl, rfl⟩ rfl ?_ | refine wst rfl rfl rfl List.not_mem_nil rfl rfl rfl rfl rfl rfl ?_ | refine W_condT rfl ?_ | refine W_condF rfl ?_ | refine W_region ?_ | refine wN rfl ?_))
  refine ⟨rfl, WK_block (WK_loopO (fun i => i ≤ rs.length ∧ pf1 rs i = none) (fun i => rs.length - i) (fun i => ⟨[(0, .v (.func (.yield l) #[] #[])), (1, .eptr [slRw rs]), (3, vi rs.length), (19, vi rs.length), (20, vi i)], [], []⟩) (fun _ => []) 0 (Rt.start W I) ⟨Nat.zero_le _, rfl⟩ wkA ?_)⟩
  rintro i ⟨hi, hp1⟩ w1 M1 I1 hR
  by_cases hlt : i < rs.length
  · have g1 : abin .lss .i64 (i : Int) (rs.length : Int) = some (.bool true) := by simp only [abin]; rw [decide_eq_true (by omega)]
    refine WK_seqN ?_
    (repeat (first | refine WL_nil ?_ | (apply wl0 (hd := rfl); (first | exact QV_bin rfl rfl g1 | exact qv9); (exact gy0)) | (apply wlb (hd := rfl); exact qbx; (exact gy0); rfl) | refine wln ⟨_, rfl, rfl⟩ rfl ?_ | refine wlnu ⟨_, rfl, rfl⟩ rfl ?_ | refine wst rfl rfl rfl List.not_mem_nil rfl rfl rfl rfl rfl rfl ?_ | refine W_condT rfl ?_ | refine W_condF rfl ?_ | refine W_region ?_ | refine wN rfl ?_))
    refine ⟨rfl, WK_seqN ?_⟩
    (repeat (first | refine WL_nil ?_ | (apply wl0 (hd := rfl); (first | exact qv9); (exact gy0)) | (apply wlb (hd := rfl); exact qbx; (exact gy0); rfl) | refine wln ⟨_, rfl, rfl⟩ rfl ?_ | refine wlnu ⟨_, rfl, rfl⟩ rfl ?_ | refine wst rfl rfl rfl List.not_mem_nil rfl rfl rfl rfl rfl rfl ?_ | refine W_condT rfl ?_ | refine W_condF rfl ?_ | refine W_region ?_ | refine wN rfl ?_))
    refine ⟨rfl, WK_seqL (WK_block (WK_seqN ?_))⟩
    (repeat (first | refine WL_nil ?_ | (apply wl0 (hd := rfl); (first | exact qv9); (exact gy0)) | (apply wlb (hd := rfl); exact qbx; (exact gy0); rfl) | refine wln ⟨_, rfl, rfl⟩ rfl ?_ | refine wlnu ⟨_, rfl, rfl⟩ rfl ?_ | refine wst rfl rfl rfl List.not_mem_nil rfl rfl rfl rfl rfl rfl ?_ | refine W_condT rfl ?_ | refine W_condF rfl ?_ | refine W_region ?_ | refine wN rfl ?_))
    refine ⟨rfl, WK_seqN ?_⟩
    (repeat (first | refine WL_nil ?_ | (apply wl0 (hd := rfl); (first | exact qv9); (exact gy0)) | (apply wlb (hd := rfl); exact qbx; (exact gy0); rfl) | refine wln ⟨_, rfl, rfl⟩ rfl ?_ | refine wlnu ⟨_, rfl, rfl⟩ rfl ?_ | refine wst rfl rfl rfl List.not_mem_nil rfl rfl rfl rfl rfl rfl ?_ | refine W_condT rfl ?_ | refine W_condF rfl ?_ | refine W_region ?_ | refine wN rfl ?_))
    refine ⟨rfl, WK_block (WK_loopO (fun c => c ≤ rs.length - (i + 1) ∧ pf2 rs i c = none) (fun c => rs.length - (i + 1) - c) (fun c => ⟨[(0, .v (.func (.yield l) #[] #[])), (1, .eptr [slRw rs]), (3, vi rs.length), (19, vi rs.length), (20, vi i), (4, vi i), (5, vi (i + 1 + c : Nat))], [], []⟩) (fun _ => []) 0 hR ⟨Nat.zero_le _, rfl⟩ wkA ?_)⟩
    clear hR
    rintro c ⟨hc, hp2⟩ w1 M1 I1 hR
    obtain ⟨k, ek⟩ : ∃ k, k = i + 1 + c := ⟨_, rfl⟩
    simp only [← ek]
    by_cases hlt2 : k < rs.length
    · have g2 : abin .lss .i64 (k : Int) (rs.length : Int) = some (.bool true) := by simp only [abin]; rw [decide_eq_true (by omega)]
      refine WK_seqN ?_
      (repeat (first | refine WL_nil ?_ | (apply wl0 (hd := rfl); (first | exact QV_bin rfl rfl g2 | exact qv9); (exact gy0)) | (apply wlb (hd := rfl); exact qbx; (exact gy0); rfl) | refine wln ⟨_, rfl, rfl⟩ rfl ?_ | refine wlnu ⟨_, rfl, rfl⟩ rfl ?_ | refine wst rfl rfl rfl List.not_mem_nil rfl rfl rfl rfl rfl rfl ?_ | refine W_condT rfl ?_ | refine W_condF rfl ?_ | refine W_region ?_ | refine wN rfl ?_))
      refine ⟨rfl, WK_seqL (WK_block (WK_seqN ?_))⟩
      (repeat (first | refine WL_nil ?_ | (apply wl0 (hd := rfl); (first | exact qv9); (exact gy0)) | (apply wlb (hd := rfl); exact qbx; (exact gy0); rfl) | refine wln ⟨_, rfl, rfl⟩ rfl ?_ | refine wlnu ⟨_, rfl, rfl⟩ rfl ?_ | refine wst rfl rfl rfl List.not_mem_nil rfl rfl rfl rfl rfl rfl ?_ | refine W_condT rfl ?_ | refine W_condF rfl ?_ | refine W_region ?_ | refine wN rfl ?_))
      refine ⟨rfl, WK_block (WK_loopO (fun d => d ≤ rs.length - (k + 1) ∧ pf3 rs i k d = none) (fun d => rs.length - (k + 1) - d) (fun d => ⟨[(0, .v (.func (.yield l) #[] #[])), (1, .eptr [slRw rs]), (3, vi rs.length), (19, vi rs.length), (20, vi i), (4, vi i), (5, vi k), (6, vi (k + 1 + d : Nat))], [], []⟩) (fun _ => []) 0 hR ⟨Nat.zero_le _, rfl⟩ wkA ?_)⟩
      clear hR
      rintro d ⟨hd', hp3⟩ w1 M1 I1 hR
      obtain ⟨m, em⟩ : ∃ m, m = k + 1 + d := ⟨_, rfl⟩
      simp only [← em]
      by_cases hlt3 : m < rs.length
      · have g3 : abin .lss .i64 (m : Int) (rs.length : Int) = some (.bool true) := by simp only [abin]; rw [decide_eq_true (by omega)]
        refine WK_seqN ?_
        (repeat (first | refine WL_nil ?_ | (apply wl0 (hd := rfl); (first | exact QV_bin rfl rfl g3 | exact qv9); (exact gy0)) | (apply wlb (hd := rfl); exact qbx; (exact gy0); rfl) | refine wln ⟨_, rfl, rfl⟩ rfl ?_ | refine wlnu ⟨_, rfl, rfl⟩ rfl ?_ | refine wst rfl rfl rfl List.not_mem_nil rfl rfl rfl rfl rfl rfl ?_ | refine W_condT rfl ?_ | refine W_condF rfl ?_ | refine W_region ?_ | refine wN rfl ?_))
        refine ⟨rfl, WK_seqL (WK_block (WK_seqN ?_))⟩
        (repeat (first | refine WL_nil ?_ | (apply wl0 (hd := rfl); (first | exact qv9); (exact gy0)) | (apply wlb (hd := rfl); exact qbx; (exact gy0); rfl) | refine wln ⟨_, rfl, rfl⟩ rfl ?_ | refine wlnu ⟨_, rfl, rfl⟩ rfl ?_ | refine wst rfl rfl rfl List.not_mem_nil rfl rfl rfl rfl rfl rfl ?_ | refine W_condT rfl ?_ | refine W_condF rfl ?_ | refine W_region ?_ | refine wN rfl ?_))
        refine ⟨rfl, WK_block (WK_loopO (fun e => e ≤ rs.length - (m + 1) ∧ pf4 rs i k m e = none) (fun e => rs.length - (m + 1) - e) (fun e => ⟨[(0, .v (.func (.yield l) #[] #[])), (1, .eptr [slRw rs]), (3, vi rs.length), (19, vi rs.length), (20, vi i), (4, vi i), (5, vi k), (6, vi m), (7, vi (m + 1 + e : Nat))], [], []⟩) (fun _ => []) 0 hR ⟨Nat.zero_le _, rfl⟩ wkA ?_)⟩
        clear hR
        rintro e ⟨he, hp4⟩ w1 M1 I1 hR
        obtain ⟨x, ex⟩ : ∃ x, x = m + 1 + e := ⟨_, rfl⟩
        simp only [← ex]
        by_cases hlt4 : x < rs.length
        · have g4 : abin .lss .i64 (x : Int) (rs.length : Int) = some (.bool true) := by simp only [abin]; rw [decide_eq_true (by omega)]
          have hq := implProofOfFour_ok rs i k m x (by omega) (by omega) (by omega) (by omega) hlt4
          refine WK_seqN ?_
          (repeat (first | refine WL_nil ?_ | (apply wl0 (hd := rfl); (first | exact QV_bin rfl rfl g4 | exact qv9); (exact gy0)) | (apply wlb (hd := rfl); exact qbx; (exact gy0); rfl) | refine wln ⟨_, rfl, rfl⟩ rfl ?_ | refine wlnu ⟨_, rfl, rfl⟩ rfl ?_ | refine wst rfl rfl rfl List.not_mem_nil rfl rfl rfl rfl rfl rfl ?_ | refine W_condT rfl ?_ | refine W_condF rfl ?_ | refine W_region ?_ | refine wN rfl ?_))
          cases hf : four rs i k m x with
          | none =>
            rw [hf] at hq
            refine ⟨rfl, WK_of ?_⟩
            (repeat (first | refine WL_nil ?_ | (apply wl0 (hd := rfl); (first | exact qv9 | exact q_callA (hq)); (exact gy0)) | (apply wlb (hd := rfl); exact qbx; (exact gy0); rfl) | refine wln ⟨_, rfl, rfl⟩ rfl ?_ | refine wlnu ⟨_, rfl, rfl⟩ rfl ?_ | (apply wln1 (hd := rfl); exact q_buildSlice 50 rfl rfl rfl rfl; (exact gy0); rfl) | refine wst rfl rfl rfl List.not_mem_nil rfl rfl rfl rfl rfl rfl ?_ | refine W_condT rfl ?_ | refine W_condF rfl ?_ | refine W_region ?_ | refine wN rfl ?_))
            exact kQ_next (e + 1) ⟨by omega, by rw [pf4, hp4, ← ex, hf]; rfl⟩ (by omega) hR rfl (by rw [show m + 1 + (e + 1) = x + 1 by omega]; exact wkA)
          | some p =>
            obtain ⟨ks, fs⟩ := p
            rw [hf] at hq
            have hfound := pf_found ek em ex hlt4 hp1 hp2 hp3 hp4 hf
            refine ⟨rfl, WK_seqL (WK_block (WK_seqN ?_))⟩
            (repeat (first | refine WL_nil ?_ | (apply wl0 (hd := rfl); (first | exact qv9); (exact gy0)) | (apply wlb (hd := rfl); exact qbx; (exact gy0); rfl) | refine wln ⟨_, rfl, rfl⟩ rfl ?_ | refine wlnu ⟨_, rfl, rfl⟩ rfl ?_ | (apply wln1 (hd := rfl); exact q_buildSlice 50 rfl rfl rfl rfl; (exact gy0); rfl) | refine wst rfl rfl rfl List.not_mem_nil rfl rfl rfl rfl rfl rfl ?_ | refine wln2 (q_call2 0 20 21 hq rfl (by repeat' (first | exact LeDs.nil | refine LeDs.cons (by first | exact LeD.v | exact LeD.sl | exact LeD.own) ?_)) rfl rfl) rfl rfl ?_ | refine W_condT rfl ?_ | refine W_condF rfl ?_ | refine W_region ?_ | refine wN rfl ?_))
            refine ⟨rfl, WK_seqL (WK_region (WLK_cut 4 ?_))⟩
            (repeat (first | refine WL_nil ?_ | (apply wl0 (hd := rfl); (first | exact qv9); (exact gy0)) | (apply wlb (hd := rfl); exact qbx; (exact gy0); rfl) | refine wln ⟨_, rfl, rfl⟩ rfl ?_ | refine wlnu ⟨_, rfl, rfl⟩ rfl ?_ | refine wst rfl rfl rfl List.not_mem_nil rfl rfl rfl rfl rfl rfl ?_ | refine W_condT rfl ?_ | refine W_condF rfl ?_ | refine W_region ?_ | refine wN rfl ?_))
            refine ⟨rfl, WLK_yield hR rfl rfl rfl rfl rfl rfl [(55, .bool true)] (by intro p hp; simp only [List.mem_singleton] at hp; subst hp; rfl) (hsome ks fs hfound) fun W' hP => WLK_of ?_⟩
            (repeat (first | refine WL_nil ?_ | (apply wl0 (hd := rfl); (first | exact qv9); (exact gy0)) | (apply wlb (hd := rfl); exact qbx; (exact gy0); rfl) | refine wln ⟨_, rfl, rfl⟩ rfl ?_ | refine wlnu ⟨_, rfl, rfl⟩ rfl ?_ | refine wst rfl rfl rfl List.not_mem_nil rfl rfl rfl rfl rfl rfl ?_ | refine W_condT rfl ?_ | refine W_condF rfl ?_ | refine W_region ?_ | refine wN rfl ?_))
            refine kQ_then (WK_of ?_)
            (repeat (first | refine WL_nil ?_ | (apply wl0 (hd := rfl); (first | exact qv9); (exact gy0)) | (apply wlb (hd := rfl); exact qbx; (exact gy0); rfl) | refine wln ⟨_, rfl, rfl⟩ rfl ?_ | refine wlnu ⟨_, rfl, rfl⟩ rfl ?_ | refine wst rfl rfl rfl List.not_mem_nil rfl rfl rfl rfl rfl rfl ?_ | refine W_condT rfl ?_ | refine W_condF rfl ?_ | refine W_region ?_ | refine wN rfl ?_))
            refine kQ_pass rfl (kQ_thenE (kQ_nextE (kQ_pass rfl (kQ_pass rfl (kQ_thenE (kQ_nextE (kQ_pass rfl (kQ_pass rfl (kQ_thenE (kQ_nextE (kQ_pass rfl (kQ_pass rfl (kQ_thenE (kQ_nextE (kQ_exit ?_)))))))))))))))
            exact fun g a w hi => leaves_none hrs hi.de ⟨⟨_, rfl⟩, hmono _ _ hP hi.mem.below⟩
        · have g4 : abin .lss .i64 (x : Int) (rs.length : Int) = some (.bool false) := by simp only [abin]; rw [decide_eq_false (by omega)]
          refine WK_of ?_
          (repeat (first | refine WL_nil ?_ | (apply wl0 (hd := rfl); (first | exact QV_bin rfl rfl g4 | exact qv9); (exact gy0)) | (apply wlb (hd := rfl); exact qbx; (exact gy0); rfl) | refine wln ⟨_, rfl, rfl⟩ rfl ?_ | refine wlnu ⟨_, rfl, rfl⟩ rfl ?_ | refine wst rfl rfl rfl List.not_mem_nil rfl rfl rfl rfl rfl rfl ?_ | refine W_condT rfl ?_ | refine W_condF rfl ?_ | refine W_region ?_ | refine wN rfl ?_))
          refine kQ_nextE (kQ_exit (kQ_blk (kQ_then (WK_of ?_))))
          (repeat (first | refine WL_nil ?_ | (apply wl0 (hd := rfl); (first | exact qv9); (exact gy0)) | (apply wlb (hd := rfl); exact qbx; (exact gy0); rfl) | refine wln ⟨_, rfl, rfl⟩ rfl ?_ | refine wlnu ⟨_, rfl, rfl⟩ rfl ?_ | refine wst rfl rfl rfl List.not_mem_nil rfl rfl rfl rfl rfl rfl ?_ | refine W_condT rfl ?_ | refine W_condF rfl ?_ | refine W_region ?_ | refine wN rfl ?_))
          have hp4' : pf4 rs i k m (rs.length - (m + 1)) = none := by rw [← hp4]; congr 1; omega
          exact kQ_next (d + 1) ⟨by omega, by rw [pf3, hp3, ← em, hp4']; rfl⟩ (by omega) hR rfl (by rw [show k + 1 + (d + 1) = m + 1 by omega]; exact wkA)
      · have g3 : abin .lss .i64 (m : Int) (rs.length : Int) = some (.bool false) := by simp only [abin]; rw [decide_eq_false (by omega)]
        refine WK_of ?_
        (repeat (first | refine WL_nil ?_ | (apply wl0 (hd := rfl); (first | exact QV_bin rfl rfl g3 | exact qv9); (exact gy0)) | (apply wlb (hd := rfl); exact qbx; (exact gy0); rfl) | refine wln ⟨_, rfl, rfl⟩ rfl ?_ | refine wlnu ⟨_, rfl, rfl⟩ rfl ?_ | refine wst rfl rfl rfl List.not_mem_nil rfl rfl rfl rfl rfl rfl ?_ | refine W_condT rfl ?_ | refine W_condF rfl ?_ | refine W_region ?_ | refine wN rfl ?_))
        refine kQ_nextE (kQ_exit (kQ_blk (kQ_then (WK_of ?_))))
        (repeat (first | refine WL_nil ?_ | (apply wl0 (hd := rfl); (first | exact qv9); (exact gy0)) | (apply wlb (hd := rfl); exact qbx; (exact gy0); rfl) | refine wln ⟨_, rfl, rfl⟩ rfl ?_ | refine wlnu ⟨_, rfl, rfl⟩ rfl ?_ | refine wst rfl rfl rfl List.not_mem_nil rfl rfl rfl rfl rfl rfl ?_ | refine W_condT rfl ?_ | refine W_condF rfl ?_ | refine W_region ?_ | refine wN rfl ?_))
        have hp3' : pf3 rs i k (rs.length - (k + 1)) = none := by rw [← hp3]; congr 1; omega
        exact kQ_next (c + 1) ⟨by omega, by rw [pf2, hp2, ← ek, hp3']; rfl⟩ (by omega) hR rfl (by rw [show i + 1 + (c + 1) = k + 1 by omega]; exact wkA)
    · have g2 : abin .lss .i64 (k : Int) (rs.length : Int) = some (.bool false) := by simp only [abin]; rw [decide_eq_false (by omega)]
      refine WK_of ?_
      (repeat (first | refine WL_nil ?_ | (apply wl0 (hd := rfl); (first | exact QV_bin rfl rfl g2 | exact qv9); (exact gy0)) | (apply wlb (hd := rfl); exact qbx; (exact gy0); rfl) | refine wln ⟨_, rfl, rfl⟩ rfl ?_ | refine wlnu ⟨_, rfl, rfl⟩ rfl ?_ | refine wst rfl rfl rfl List.not_mem_nil rfl rfl rfl rfl rfl rfl ?_ | refine W_condT rfl ?_ | refine W_condF rfl ?_ | refine W_region ?_ | refine wN rfl ?_))
      refine kQ_nextE (kQ_exit (kQ_blk (kQ_then (WK_of ?_))))
      (repeat (first | refine WL_nil ?_ | (apply wl0 (hd := rfl); (first | exact qv9); (exact gy0)) | (apply wlb (hd := rfl); exact qbx; (exact gy0); rfl) | refine wln ⟨_, rfl, rfl⟩ rfl ?_ | refine wlnu ⟨_, rfl, rfl⟩ rfl ?_ | refine wst rfl rfl rfl List.not_mem_nil rfl rfl rfl rfl rfl rfl ?_ | refine W_condT rfl ?_ | refine W_condF rfl ?_ | refine W_region ?_ | refine wN rfl ?_))
      have hp2' : pf2 rs i (rs.length - (i + 1)) = none := by rw [← hp2]; congr 1; omega
      exact kQ_next (i + 1) ⟨by omega, by rw [pf1, hp1, hp2']; rfl⟩ (by omega) hR rfl wkA
  · have g1 : abin .lss .i64 (i : Int) (rs.length : Int) = some (.bool false) := by simp only [abin]; rw [decide_eq_false (by omega)]
    have hp1' : pf1 rs rs.length = none := by rw [← hp1]; congr 1; omega
    refine WK_of ?_
    (repeat (first | refine WL_nil ?_ | (apply wl0 (hd := rfl); (first | exact QV_bin rfl rfl g1 | exact qv9); (exact gy0)) | (apply wlb (hd := rfl); exact qbx; (exact gy0); rfl) | refine wln ⟨_, rfl, rfl⟩ rfl ?_ | refine wlnu ⟨_, rfl, rfl⟩ rfl ?_ | refine wst rfl rfl rfl List.not_mem_nil rfl rfl rfl rfl rfl rfl ?_ | refine W_condT rfl ?_ | refine W_condF rfl ?_ | refine W_region ?_ | refine wN rfl ?_))
    refine kQ_nextE (kQ_exit ?_)
    exact fun g a w hi => leaves_none hrs hi.de ⟨⟨_, rfl⟩, hnone hp1' _ (hR.inv hi).mem.below⟩
theorem implFindProof_ok (rs : List Rw) (hr : rs.length ≤ 20) (hall : rs.all rowB = true) : CallOk Tryz.prog 20 [slRw rs] (fun r => r = fourO (pfind rs)) := by
  have hpf : pfind rs = pf1 rs rs.length := by simp [pfind, hr]
  rw [hpf]
  refine callOk_of_WK Tryz.func20 Tryz.ntmps20 Tryz.results20 rfl rfl rfl fun w0 I0 fn hrs => ?_
  refine WK_seq ?_
  (repeat (first | refine WL_nil ?_ | (apply wl0 (hd := rfl); (first | exact qv9); (exact gy0)) | (apply wlb (hd := rfl); exact qbx; (exact gy0); rfl) | refine wln ⟨_, rfl, rfl⟩ rfl ?_ | refine wlnu ⟨_, rfl, rfl⟩ rfl ?_ | refine wst rfl rfl rfl List.not_mem_nil rfl rfl rfl rfl rfl rfl ?_ | refine W_condT rfl ?_ | refine W_condF rfl ?_ | refine W_region ?_ | refine wN rfl ?_))
  refine WK_seqL (WK_seq ?_)
  (repeat (first | refine WL_nil ?_ | (apply wl0 (hd := rfl); (first | exact qv9 | exact q_seqOf proofsC rfl); (exact gy0)) | (apply wlb (hd := rfl); exact qbx; (exact gy0); rfl) | refine wln ⟨_, rfl, rfl⟩ rfl ?_ | refine wlnu ⟨_, rfl, rfl⟩ rfl ?_ | refine wst rfl rfl rfl List.not_mem_nil rfl rfl rfl rfl rfl rfl ?_ | refine W_condT rfl ?_ | refine W_condF rfl ?_ | refine W_region ?_ | refine wN rfl ?_))
  refine WK_block (WK_weak (s' := ⟨[(6, .fn (.func 57) [] [.eptr [slRw rs]]), (2, .ptr 2 0), (3, .ptr 3 0)], [(3, [vb false]), (2, [.v (.slice none 0 0), .v (.slice none 0 0)])], []⟩) wkA ?_)
  intro g a w hi
  obtain ⟨b, o, hf, hd⟩ := fn_of hi (t := 6) rfl
  have hsz := hi.sz
  cases e : pf1 rs rs.length with
  | some p =>
    obtain ⟨ks, fs⟩ := p
    refine range_first hi rfl hf (r := pfItem ks fs) (r1 := pfItem ks fs) 0 [20, 21] (os1 := [20, 21]) rfl rfl rfl (by decide) (fun l W1 Post hI hkeep hmono hY => ?_) [2, 3] [(2, .ptr 2 0), (3, .ptr 3 0)] ⟨pin_of hi (t := 2) rfl (by decide), pin_of hi (t := 3) rfl (by decide), trivial⟩
      [(3, [vb true]), (2, [.own 20 3 1 (ks.map iRow), .own 21 3 1 (fs.map iRow)])] [20, 21] (fun B w1 w2 M I1 q l => ?_) (fun _ _ h => h) hrs ⟨_, resA_cell rfl rfl rfl (resA_cell rfl rfl rfl rfl), rfl, rfl⟩
    · refine search_ok rs hr hall (I := g.I) hI (dcells_mono (fun _ _ h => h) hkeep hd) Post (fun h => by rw [e] at h; cases h) hmono fun ks' fs' h v W2 hc => ?_
      rw [e] at h
      cases h
      exact hY v W2 hc
    · (repeat (first | refine WL_nil ?_ | (apply wl0 (hd := rfl); (first | exact qv9); (exact gy0)) | (apply wlb (hd := rfl); exact qbx; (exact gy0); rfl) | refine wln ⟨_, rfl, rfl⟩ rfl ?_ | refine wlnu ⟨_, rfl, rfl⟩ rfl ?_ | refine wst rfl rfl rfl List.not_mem_nil rfl rfl rfl rfl rfl rfl ?_ | refine W_condT rfl ?_ | refine W_condF rfl ?_ | refine W_region ?_ | refine wN rfl ?_))
      refine ⟨rfl, ?_⟩
      (repeat (first | refine WL_nil ?_ | (apply wl0 (hd := rfl); (first | exact qv9); (exact gy0)) | (apply wlb (hd := rfl); exact qbx; (exact gy0); rfl) | refine wln ⟨_, rfl, rfl⟩ rfl ?_ | refine wlnu ⟨_, rfl, rfl⟩ rfl ?_ | refine wst rfl rfl rfl List.not_mem_nil rfl rfl rfl rfl rfl rfl ?_ | refine W_condT rfl ?_ | refine W_condF rfl ?_ | refine W_region ?_ | refine wN rfl ?_))
      exact ⟨rfl, [], (weak_mk (by repeat' (first | exact trivial | refine And.intro ?_ ?_ | exact Le.refl | exact Le.nilOwn rfl | exact Le.nilSl | exact Le.ownSl | exact Le.top)) (by repeat' (first | exact trivial | refine And.intro ?_ ?_ | exact ⟨_, rfl, Les.refl _⟩ | exact ⟨_, rfl, by repeat' (first | exact Les.nil | exact Les.cons Le.refl (Les.refl _) | refine Les.cons (by first | exact Le.top | exact Le.refl | exact Le.ownSl | exact Le.nilOwn rfl | exact Le.nilSl) ?_)⟩)) rfl (by repeat' (first | exact trivial | refine And.intro ?_ ?_ | exact rfl | exact refs_fill (fun _ => rfl) rfl | exact refs_map (fun _ => rfl))) (fun _ _ _ h => by first | (have h := h.1; simp at h ⊢; omega) | exact h.elim | (obtain ⟨rfl, rfl, rfl⟩ := h; simp)))⟩
  | none =>
    refine range_wp (α := Empty) (encs := fun x => x.elim) (S := fun xs => xs = []) (Sp := fun _ => False) (N := 0) hi rfl hf ?_ (fun x => x.elim) [2, 3] [(2, .ptr 2 0), (3, .ptr 3 0)] ⟨pin_of hi (t := 2) rfl (by decide), pin_of hi (t := 3) rfl (by decide), trivial⟩
      (fun _ => [(3, [vb false]), (2, [.v (.slice none 0 0), .v (.slice none 0 0)])]) (fun _ => []) (fun B w1 => (weak_mk (by repeat' (first | exact trivial | refine And.intro ?_ ?_ | exact Le.refl | exact Le.nilOwn rfl | exact Le.nilSl | exact Le.ownSl | exact Le.top)) (by repeat' (first | exact trivial | refine And.intro ?_ ?_ | exact ⟨_, rfl, Les.refl _⟩ | exact ⟨_, rfl, by repeat' (first | exact Les.nil | exact Les.cons Le.refl (Les.refl _) | refine Les.cons (by first | exact Le.top | exact Le.refl | exact Le.ownSl | exact Le.nilOwn rfl | exact Le.nilSl) ?_)⟩)) rfl (by repeat' (first | exact trivial | refine And.intro ?_ ?_ | exact rfl | exact refs_fill (fun _ => rfl) rfl | exact refs_map (fun _ => rfl))) (fun _ _ _ h => by first | (have h := h.1; simp at h ⊢; omega) | exact h.elim | (obtain ⟨rfl, rfl, rfl⟩ := h; simp)))) (fun x => x.elim) (fun x => x.elim) (fun _ x => x.elim) (fun xs g' W D hS hm ht hsz' hD hB hO => ?_)
    · intro l J Jx W hW hA _ _ h0
      have up : ∀ b o, g.I b o → W.cell? ⟨b, o, none⟩ = w.cell? ⟨b, o, none⟩ := fun b o h => hW.cell (p := ⟨b, o, none⟩) (cell_lt (hi.mem.cell b o h))
      have hgr : ∀ A C, BelowM A.heap.size (fun _ => False) A C → A.grownBy C none := fun A C h => ⟨h.os, h.tape, h.output, h.size, fun k hk _ => h.block k hk (fun h => h)⟩
      refine (callsIn_wide.2 (callsIn_wide.1 (search_ok rs hr hall (I := g.I) (fun b o h => by rw [up b o h]; exact hi.mem.cell b o h) (dcells_mono (fun _ _ h => h) up hd) (J []) (fun _ W' hb => hA _ _ _ none h0 (hgr _ _ hb) (fun r e => by cases e)) (fun A C h hb => hA _ _ _ none h (hgr _ _ hb) (fun r e => by cases e)) (fun ks fs h => by rw [e] at h; cases h)))).mono ?_
      rintro e' W' ⟨h1, h2⟩
      exact ⟨h1, .inl ⟨[], rfl, h2⟩⟩
    · refine rest_wp hrs hm ht hsz' hD hB hO fun B w1 M I1 df => ?_
      (repeat (first | refine WL_nil ?_ | (apply wl0 (hd := rfl); (first | exact qv9); (exact gy0)) | (apply wlb (hd := rfl); exact qbx; (exact gy0); rfl) | refine wln ⟨_, rfl, rfl⟩ rfl ?_ | refine wlnu ⟨_, rfl, rfl⟩ rfl ?_ | refine wst rfl rfl rfl List.not_mem_nil rfl rfl rfl rfl rfl rfl ?_ | refine W_condT rfl ?_ | refine W_condF rfl ?_ | refine W_region ?_ | refine wN rfl ?_))
      refine Exists.intro _ ⟨Weak.refl _, Exists.intro _ ⟨resA_cell rfl rfl rfl (resA_cell rfl rfl rfl rfl), ?_, rfl⟩⟩
      rfl
end Go.Proofs.YtkaffcdjhbaifaaGreat
