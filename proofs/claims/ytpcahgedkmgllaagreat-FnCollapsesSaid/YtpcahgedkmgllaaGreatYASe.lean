/- The walk through proofsOf's closure: every proof is handed to the loop that runs over it. -/
import Derived.Test.YtpcahgedkmgllaaGreatYG6
import Derived.Test.YtpcahgedkmgllaaGreatZ13
set_option maxHeartbeats 4000000
namespace Go.Proofs.YtpcahgedkmgllaaGreat
open Go.Eng
set_option maxRecDepth 100000
attribute [local irreducible] QV TV WL HW W CallOk CallOkA Weak

set_option maxHeartbeats 4000000 in
theorem searchE_ok (rs : List Rw) (hr : rs.length ≤ 20) (hall : rs.all rowB = true) (GG : List Pf → Prop) (SS : List Pf → Pf → Prop) {nt pt D l : Nat} {fn : FuncId} {tmps : Array Value} {assign body : Code} {tmO : List (Nat × AV)} {p : Nat → Nat → Nat → Prop} {x0 x1 : CW} {I0 I1 : Nat → Nat → Prop} {M0 M1 : Nat → Prop}
    (hT : Tok [3] p x0 I0 M0 tmps tmO) (hnt : tmps.size = nt) (hR0 : Rt x0 I0 M0 x1 M1 I1 [(l, loopR fn tmps #[pt] assign body D .ready none), (D, .deferred (some []))]) (hG0 : GG []) (hpt : Nat.blt pt nt = true) (hfa : flatC assign = true) (hfb : flatC body = true)
    (hround : ∀ xs ks fs, GG xs → ispB rs ks fs = true → ∀ p' x2 M2 I2, W (Ek Tryz.prog nt [] [8, 3] p' x2 M2 I2) assign (fun e s1 => e = .normal ∧ ∀ x3 M3 I3, W (Ek Tryz.prog nt [] [8, 3] p' x3 M3 I3) body (rndQ (Ek Tryz.prog nt [] [8, 3] p' x3 M3 I3) (fun bl => GG (xs ++ [(ks, fs)]) ∧ bl = [(8, [slI ks, slI fs]), (3, [vi (lst (xs ++ [(ks, fs)]))])]) (fun bl => SS xs (ks, fs) ∧ bl = [(8, [slI ks, slI fs]), (3, [vi (lst (xs ++ [(ks, fs)]))])])) s1) ⟨(pt, .agg [slI ks, slI fs]) :: tmO, [(8, [slI ks, slI fs]), (3, [vi (lst xs)])], []⟩) :
    ∃ cg, Tryz.prog.funcs[(41 : Nat)]?.bind (·.body) = some cg ∧ WK (Ek Tryz.prog 62 [] [3] p x1 M1 I1) cg (iterK Tryz.prog 62 [3] p x0 I0 M0 l D fn tmps #[pt] assign body (fun bl => GG (ps1 rs rs.length) ∧ bl = [(3, [vi (lst (ps1 rs rs.length))])]) (fun bl => ∃ xs ks fs, xs ++ [(ks, fs)] <+: ps1 rs rs.length ∧ SS xs (ks, fs) ∧ bl = [(3, [vi (lst (xs ++ [(ks, fs)]))])])) ⟨[(0, .v (.func (.yield l) #[] #[])), (1, .eptr [slRw rs])], [(3, [vi (lst ([] : List Pf))])], []⟩ := by
  refine ⟨_, by rw [Tryz.func41]; rfl, ?_⟩
  have hal := hR0.al
  have h1 := rowsOk_ok rs (by omega)
  rw [hall] at h1
  have g0 : abin .gtr .i64 (rs.length : Int) 20 = some (.bool false) := by simp only [abin]; rw [decide_eq_false (by omega)]
  refine WK_scope (WK_seqN ?_)
  (repeat (first | refine WL_nil ?_ | refine zq0 qv9 ?_ | refine zq1 ?_ | refine zq2 ?_ | refine zq3 ?_ | refine zq4 ?_ | refine zq5 ?_ | refine zq6 ?_ | refine wN rfl ?_))
  refine ⟨rfl, WK_seqN ?_⟩
  (repeat (first | refine WL_nil ?_ | refine zq0 (by first | exact QV_bin rfl rfl g0 | exact qv9 | exact q_callA (h1)) ?_ | refine zq1 ?_ | refine zq2 ?_ | refine zq3 ?_ | refine zq4 ?_ | refine zq5 ?_ | refine zq6 ?_ | refine wN rfl ?_))
  refine ⟨rfl, WK_seqN (W_label ⟨rfl, WK_seqN ?_⟩)⟩
  (repeat (first | refine WL_nil ?_ | refine zq0 qv9 ?_ | refine zq1 ?_ | refine zq2 ?_ | refine zq3 ?_ | refine zq4 ?_ | refine zq5 ?_ | refine zq6 ?_ | refine wN rfl ?_))
  refine ⟨rfl, WK_block (WK_loopO (fun i => i ≤ rs.length ∧ GG (ps1 rs i)) (fun i => rs.length - i) (fun i => ⟨[(0, .v (.func (.yield l) #[] #[])), (1, .eptr [slRw rs]), (3, vi rs.length), (19, vi rs.length), (20, vi i)], [(3, [vi (lst (ps1 rs i))])], []⟩) (fun _ => [(l, loopR fn tmps #[pt] assign body D .ready none), (D, .deferred (some []))]) 0 hR0 ⟨Nat.zero_le _, hG0⟩ wkC ?_)⟩
  clear hR0 hal
  rintro i ⟨hi, hp1⟩ x1 M1 I1 hR
  have hal := hR.al
  by_cases hlt : i < rs.length
  · have g1 : abin .lss .i64 (i : Int) (rs.length : Int) = some (.bool true) := by simp only [abin]; rw [decide_eq_true (by omega)]
    refine WK_seqN ?_
    (repeat (first | refine WL_nil ?_ | refine zq0 (by first | exact QV_bin rfl rfl g1 | exact qv9) ?_ | refine zq1 ?_ | refine zq2 ?_ | refine zq3 ?_ | refine zq4 ?_ | refine zq5 ?_ | refine zq6 ?_ | refine wN rfl ?_))
    refine ⟨rfl, WK_seqN ?_⟩
    (repeat (first | refine WL_nil ?_ | refine zq0 qv9 ?_ | refine zq1 ?_ | refine zq2 ?_ | refine zq3 ?_ | refine zq4 ?_ | refine zq5 ?_ | refine zq6 ?_ | refine wN rfl ?_))
    refine ⟨rfl, WK_seqL (WK_block (WK_seqN ?_))⟩
    (repeat (first | refine WL_nil ?_ | refine zq0 qv9 ?_ | refine zq1 ?_ | refine zq2 ?_ | refine zq3 ?_ | refine zq4 ?_ | refine zq5 ?_ | refine zq6 ?_ | refine wN rfl ?_))
    refine ⟨rfl, WK_seqN ?_⟩
    (repeat (first | refine WL_nil ?_ | refine zq0 qv9 ?_ | refine zq1 ?_ | refine zq2 ?_ | refine zq3 ?_ | refine zq4 ?_ | refine zq5 ?_ | refine zq6 ?_ | refine wN rfl ?_))
    refine ⟨rfl, WK_block (WK_loopO (fun c => c ≤ rs.length - (i + 1) ∧ GG (ps1 rs i ++ ps2 rs i c)) (fun c => rs.length - (i + 1) - c) (fun c => ⟨[(0, .v (.func (.yield l) #[] #[])), (1, .eptr [slRw rs]), (3, vi rs.length), (19, vi rs.length), (20, vi i), (4, vi i), (5, vi (i + 1 + c : Nat))], [(3, [vi (lst (ps1 rs i ++ ps2 rs i c))])], []⟩) (fun _ => [(l, loopR fn tmps #[pt] assign body D .ready none), (D, .deferred (some []))]) 0 hR ⟨Nat.zero_le _, by rw [ps2, List.append_nil]; exact hp1⟩ (by rw [ps2, List.append_nil]; exact wkC) ?_)⟩
    clear hR hal
    rintro c ⟨hc, hp2⟩ x1 M1 I1 hR
    have hal := hR.al
    obtain ⟨k, ek⟩ : ∃ k, k = i + 1 + c := ⟨_, rfl⟩
    simp only [← ek]
    by_cases hlt2 : k < rs.length
    · have g2 : abin .lss .i64 (k : Int) (rs.length : Int) = some (.bool true) := by simp only [abin]; rw [decide_eq_true (by omega)]
      refine WK_seqN ?_
      (repeat (first | refine WL_nil ?_ | refine zq0 (by first | exact QV_bin rfl rfl g2 | exact qv9) ?_ | refine zq1 ?_ | refine zq2 ?_ | refine zq3 ?_ | refine zq4 ?_ | refine zq5 ?_ | refine zq6 ?_ | refine wN rfl ?_))
      refine ⟨rfl, WK_seqL (WK_block (WK_seqN ?_))⟩
      (repeat (first | refine WL_nil ?_ | refine zq0 qv9 ?_ | refine zq1 ?_ | refine zq2 ?_ | refine zq3 ?_ | refine zq4 ?_ | refine zq5 ?_ | refine zq6 ?_ | refine wN rfl ?_))
      refine ⟨rfl, WK_block (WK_loopO (fun d => d ≤ rs.length - (k + 1) ∧ GG (ps1 rs i ++ (ps2 rs i c ++ ps3 rs i k d))) (fun d => rs.length - (k + 1) - d) (fun d => ⟨[(0, .v (.func (.yield l) #[] #[])), (1, .eptr [slRw rs]), (3, vi rs.length), (19, vi rs.length), (20, vi i), (4, vi i), (5, vi k), (6, vi (k + 1 + d : Nat))], [(3, [vi (lst (ps1 rs i ++ (ps2 rs i c ++ ps3 rs i k d)))])], []⟩) (fun _ => [(l, loopR fn tmps #[pt] assign body D .ready none), (D, .deferred (some []))]) 0 hR ⟨Nat.zero_le _, by rw [ps3, List.append_nil]; exact hp2⟩ (by rw [ps3, List.append_nil]; exact wkC) ?_)⟩
      clear hR hal
      rintro d ⟨hd', hp3⟩ x1 M1 I1 hR
      have hal := hR.al
      obtain ⟨m, em⟩ : ∃ m, m = k + 1 + d := ⟨_, rfl⟩
      simp only [← em]
      by_cases hlt3 : m < rs.length
      · have g3 : abin .lss .i64 (m : Int) (rs.length : Int) = some (.bool true) := by simp only [abin]; rw [decide_eq_true (by omega)]
        refine WK_seqN ?_
        (repeat (first | refine WL_nil ?_ | refine zq0 (by first | exact QV_bin rfl rfl g3 | exact qv9) ?_ | refine zq1 ?_ | refine zq2 ?_ | refine zq3 ?_ | refine zq4 ?_ | refine zq5 ?_ | refine zq6 ?_ | refine wN rfl ?_))
        refine ⟨rfl, WK_seqL (WK_block (WK_seqN ?_))⟩
        (repeat (first | refine WL_nil ?_ | refine zq0 qv9 ?_ | refine zq1 ?_ | refine zq2 ?_ | refine zq3 ?_ | refine zq4 ?_ | refine zq5 ?_ | refine zq6 ?_ | refine wN rfl ?_))
        refine ⟨rfl, WK_block (WK_loopO (fun e => e ≤ rs.length - (m + 1) ∧ GG (psN rs i c d e k m)) (fun e => rs.length - (m + 1) - e) (fun e => ⟨[(0, .v (.func (.yield l) #[] #[])), (1, .eptr [slRw rs]), (3, vi rs.length), (19, vi rs.length), (20, vi i), (4, vi i), (5, vi k), (6, vi m), (7, vi (m + 1 + e : Nat))], [(3, [vi (lst (psN rs i c d e k m))])], []⟩) (fun _ => [(l, loopR fn tmps #[pt] assign body D .ready none), (D, .deferred (some []))]) 0 hR ⟨Nat.zero_le _, by rw [psN, ps4, List.append_nil]; exact hp3⟩ (by rw [psN, ps4, List.append_nil]; exact wkC) ?_)⟩
        clear hR hal
        rintro e ⟨he, hp4⟩ x1 M1 I1 hR
        have hal := hR.al
        obtain ⟨x, ex⟩ : ∃ x, x = m + 1 + e := ⟨_, rfl⟩
        simp only [← ex]
        by_cases hlt4 : x < rs.length
        · have g4 : abin .lss .i64 (x : Int) (rs.length : Int) = some (.bool true) := by simp only [abin]; rw [decide_eq_true (by omega)]
          have hq := implProofOfFour_ok rs i k m x (by omega) (by omega) (by omega) (by omega) hlt4
          refine WK_seqN ?_
          (repeat (first | refine WL_nil ?_ | refine zq0 (by first | exact QV_bin rfl rfl g4 | exact qv9) ?_ | refine zq1 ?_ | refine zq2 ?_ | refine zq3 ?_ | refine zq4 ?_ | refine zq5 ?_ | refine zq6 ?_ | refine wN rfl ?_))
          cases hf : four rs i k m x with
          | none =>
            rw [hf] at hq
            refine ⟨rfl, WK_of ?_⟩
            (repeat (first | refine WL_nil ?_ | refine zq0 (by first | exact qv9 | exact q_callAX hal (hq)) ?_ | refine zq1 ?_ | refine zq2 ?_ | refine zq3 ?_ | (apply wln1 (hd := rfl); exact q_buildSlice 50 rfl rfl rfl rfl; (exact gy0); rfl) | refine zq4 ?_ | refine zq5 ?_ | refine zq6 ?_ | refine wN rfl ?_))
            have e4 : psN rs i c d (e + 1) k m = psN rs i c d e k m := by rw [ex] at hf; simp only [psN, ps4, hf, Option.toList_none, List.append_nil]
            exact kQ_next (e + 1) ⟨by omega, by rw [e4]; exact hp4⟩ (by omega) hR rfl (by rw [e4, show m + 1 + (e + 1) = x + 1 by omega]; exact wkC)
          | some pf =>
            obtain ⟨ks, fs⟩ := pf
            rw [hf] at hq
            have e4 : psN rs i c d (e + 1) k m = psN rs i c d e k m ++ [(ks, fs)] := psN_next (by rw [← ex]; exact hf)
            have hpre : psN rs i c d e k m ++ [(ks, fs)] <+: ps1 rs rs.length := by rw [← e4]; exact psN_le ek em (by omega)
            have hisp := four_isp hf
            refine ⟨rfl, WK_seqL (WK_block (WK_seqN ?_))⟩
            (repeat (first | refine WL_nil ?_ | refine zq0 (by first | exact qv9 | exact q_callAX hal (hq)) ?_ | refine zq1 ?_ | refine zq2 ?_ | refine zq3 ?_ | (apply wln1 (hd := rfl); exact q_buildSlice 50 rfl rfl rfl rfl; (exact gy0); rfl) | refine zq4 ?_ | refine zq5 ?_ | refine zq6 ?_ | refine wN rfl ?_))
            refine ⟨rfl, WK_seqL (WK_weak (s' := ⟨[(0, .v (.func (.yield l) #[] #[])), (1, .eptr [slRw rs]), (3, vi rs.length), (19, vi rs.length), (20, vi i), (4, vi i), (5, vi k), (6, vi m), (7, vi x), (8, .ptr 8 0), (9, vb true)], [(8, [slI ks, slI fs]), (3, [vi (lst (psN rs i c d e k m))])], []⟩) wkC (WK_region (WLK_cut 4 ?_)))⟩
            (repeat (first | refine WL_nil ?_ | refine zq0 qv9 ?_ | refine zq1 ?_ | refine zq2 ?_ | refine zq3 ?_ | refine zq4 ?_ | refine zq5 ?_ | refine zq6 ?_ | refine wN rfl ?_))
            refine ⟨rfl, WLK_yield [8, 3] (fun bl => GG (psN rs i c d e k m ++ [(ks, fs)]) ∧ bl = [(8, [slI ks, slI fs]), (3, [vi (lst (psN rs i c d e k m ++ [(ks, fs)]))])]) (fun bl => SS (psN rs i c d e k m) (ks, fs) ∧ bl = [(8, [slI ks, slI fs]), (3, [vi (lst (psN rs i c d e k m ++ [(ks, fs)]))])]) hR hT hnt rfl rfl ⟨_, rfl, rfl⟩ rfl rfl rfl rfl hpt hfa hfb (hround _ ks fs hp4 hisp) (fun bl' ⟨hG, hb⟩ x2 M2 I2 hR => ?_) (fun bl' ⟨hS, hb⟩ x2 M2 I2 hR => ?_)⟩
            · subst hb
              refine WLK_of ?_
              (repeat (first | refine WL_nil ?_ | refine zq0 qv9 ?_ | refine zq1 ?_ | refine zq2 ?_ | refine zq3 ?_ | refine zq4 ?_ | refine zq5 ?_ | refine zq6 ?_ | refine wN rfl ?_))
              refine kQ_then (WK_of ?_)
              (repeat (first | refine WL_nil ?_ | refine zq0 qv9 ?_ | refine zq1 ?_ | refine zq2 ?_ | refine zq3 ?_ | refine zq4 ?_ | refine zq5 ?_ | refine zq6 ?_ | refine wN rfl ?_))
              refine kQ_blk (kQ_then (WK_of ?_))
              (repeat (first | refine WL_nil ?_ | refine zq0 qv9 ?_ | refine zq1 ?_ | refine zq2 ?_ | refine zq3 ?_ | refine zq4 ?_ | refine zq5 ?_ | refine zq6 ?_ | refine wN rfl ?_))
              exact kQ_next (e + 1) ⟨by omega, by rw [e4]; exact hG⟩ (by omega) hR rfl (by rw [e4, show m + 1 + (e + 1) = x + 1 by omega]; exact wkC)
            · subst hb
              refine WLK_of ?_
              (repeat (first | refine WL_nil ?_ | refine zq0 qv9 ?_ | refine zq1 ?_ | refine zq2 ?_ | refine zq3 ?_ | refine zq4 ?_ | refine zq5 ?_ | refine zq6 ?_ | refine wN rfl ?_))
              refine kQ_then (WK_of ?_)
              (repeat (first | refine WL_nil ?_ | refine zq0 qv9 ?_ | refine zq1 ?_ | refine zq2 ?_ | refine zq3 ?_ | refine zq4 ?_ | refine zq5 ?_ | refine zq6 ?_ | refine wN rfl ?_))
              refine kQ_pass rfl (kQ_thenE (kQ_nextE (kQ_pass rfl (kQ_pass rfl (kQ_thenE (kQ_nextE (kQ_pass rfl (kQ_pass rfl (kQ_thenE (kQ_nextE (kQ_pass rfl (kQ_pass rfl (kQ_thenE (kQ_nextE (kQ_exit ?_)))))))))))))))
              refine kQ_weak (s' := ⟨[], [(3, [vi (lst (psN rs i c d e k m ++ [(ks, fs)]))])], []⟩) wkC fun L g a w hi => ?_
              exact ⟨.inl rfl, _, _, _, _, _, _, _, g, hR, hi, .inr ⟨rfl, rfl, _, ks, fs, hpre, hS, rfl⟩⟩
        · have g4 : abin .lss .i64 (x : Int) (rs.length : Int) = some (.bool false) := by simp only [abin]; rw [decide_eq_false (by omega)]
          refine WK_of ?_
          (repeat (first | refine WL_nil ?_ | refine zq0 (by first | exact QV_bin rfl rfl g4 | exact qv9) ?_ | refine zq1 ?_ | refine zq2 ?_ | refine zq3 ?_ | refine zq4 ?_ | refine zq5 ?_ | refine zq6 ?_ | refine wN rfl ?_))
          refine kQ_nextE (kQ_exit (kQ_blk (kQ_then (WK_of ?_))))
          (repeat (first | refine WL_nil ?_ | refine zq0 qv9 ?_ | refine zq1 ?_ | refine zq2 ?_ | refine zq3 ?_ | refine zq4 ?_ | refine zq5 ?_ | refine zq6 ?_ | refine wN rfl ?_))
          have e4 : ps1 rs i ++ (ps2 rs i c ++ ps3 rs i k (d + 1)) = psN rs i c d e k m := by rw [psN, ps3, ← em, show rs.length - (m + 1) = e by omega]
          exact kQ_next (d + 1) ⟨by omega, by rw [e4]; exact hp4⟩ (by omega) hR rfl (by rw [e4, show k + 1 + (d + 1) = m + 1 by omega]; exact wkC)
      · have g3 : abin .lss .i64 (m : Int) (rs.length : Int) = some (.bool false) := by simp only [abin]; rw [decide_eq_false (by omega)]
        refine WK_of ?_
        (repeat (first | refine WL_nil ?_ | refine zq0 (by first | exact QV_bin rfl rfl g3 | exact qv9) ?_ | refine zq1 ?_ | refine zq2 ?_ | refine zq3 ?_ | refine zq4 ?_ | refine zq5 ?_ | refine zq6 ?_ | refine wN rfl ?_))
        refine kQ_nextE (kQ_exit (kQ_blk (kQ_then (WK_of ?_))))
        (repeat (first | refine WL_nil ?_ | refine zq0 qv9 ?_ | refine zq1 ?_ | refine zq2 ?_ | refine zq3 ?_ | refine zq4 ?_ | refine zq5 ?_ | refine zq6 ?_ | refine wN rfl ?_))
        have e4 : ps1 rs i ++ ps2 rs i (c + 1) = ps1 rs i ++ (ps2 rs i c ++ ps3 rs i k d) := by rw [ps2, ← ek, show rs.length - (k + 1) = d by omega]
        exact kQ_next (c + 1) ⟨by omega, by rw [e4]; exact hp3⟩ (by omega) hR rfl (by rw [e4, show i + 1 + (c + 1) = k + 1 by omega]; exact wkC)
    · have g2 : abin .lss .i64 (k : Int) (rs.length : Int) = some (.bool false) := by simp only [abin]; rw [decide_eq_false (by omega)]
      refine WK_of ?_
      (repeat (first | refine WL_nil ?_ | refine zq0 (by first | exact QV_bin rfl rfl g2 | exact qv9) ?_ | refine zq1 ?_ | refine zq2 ?_ | refine zq3 ?_ | refine zq4 ?_ | refine zq5 ?_ | refine zq6 ?_ | refine wN rfl ?_))
      refine kQ_nextE (kQ_exit (kQ_blk (kQ_then (WK_of ?_))))
      (repeat (first | refine WL_nil ?_ | refine zq0 qv9 ?_ | refine zq1 ?_ | refine zq2 ?_ | refine zq3 ?_ | refine zq4 ?_ | refine zq5 ?_ | refine zq6 ?_ | refine wN rfl ?_))
      have e4 : ps1 rs (i + 1) = ps1 rs i ++ ps2 rs i c := by rw [ps1, show rs.length - (i + 1) = c by omega]
      exact kQ_next (i + 1) ⟨by omega, by rw [e4]; exact hp2⟩ (by omega) hR rfl (by rw [e4]; exact wkC)
  · have g1 : abin .lss .i64 (i : Int) (rs.length : Int) = some (.bool false) := by simp only [abin]; rw [decide_eq_false (by omega)]
    obtain rfl : i = rs.length := by omega
    refine WK_of ?_
    (repeat (first | refine WL_nil ?_ | refine zq0 (by first | exact QV_bin rfl rfl g1 | exact qv9) ?_ | refine zq1 ?_ | refine zq2 ?_ | refine zq3 ?_ | refine zq4 ?_ | refine zq5 ?_ | refine zq6 ?_ | refine wN rfl ?_))
    refine kQ_nextE (kQ_exit ?_)
    refine kQ_weak (s' := ⟨[], [(3, [vi (lst (ps1 rs rs.length))])], []⟩) wkC fun L g a w hi => ?_
    exact ⟨.inl rfl, _, _, _, _, _, _, _, g, hR, hi, .inl ⟨rfl, rfl, hp1, rfl⟩⟩
end Go.Proofs.YtpcahgedkmgllaaGreat
