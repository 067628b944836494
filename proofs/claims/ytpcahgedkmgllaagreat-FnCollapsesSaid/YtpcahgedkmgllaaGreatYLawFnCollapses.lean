/- A law on collapses: the walk. -/
import Derived.Test.YtpcahgedkmgllaaGreatYAFf
import Derived.Test.YtpcahgedkmgllaaGreatYAFg
import Derived.Test.YtpcahgedkmgllaaGreatYG6
import Derived.Test.YtpcahgedkmgllaaGreatYADk
import Derived.Test.YtpcahgedkmgllaaGreatYG9
import Derived.Test.YtpcahgedkmgllaaGreatYG8
set_option maxHeartbeats 4000000
namespace Go.Proofs.YtpcahgedkmgllaaGreat
open Go.Eng
set_option maxRecDepth 100000
attribute [local irreducible] QV TV WL HW W CallOk CallOkA Weak

theorem implCollapseOf_ok (js : List Jt) (ls : List Ld) (hj : js.length ≤ 1048576) (hn : ls.length ≤ 1048576) (h20 : (rowsA js ls).length ≤ 20) (hall : (rowsA js ls).all rowB = true) : CallOkA Tryz.prog 8 [.agg [slJt js], slLd ls] (fun r => r = fourD (pfind (rowsA js ls))) := by
  have h1 := implRowsOf_ok js ls hj hn
  have h2 := implFindProof_ok (rowsA js ls) h20 hall
  obtain ⟨rs, ers⟩ : ∃ rs, rs = rowsA js ls := ⟨_, rfl⟩
  rw [← ers] at h1 h2 ⊢
  cases e : pfind rs with
  | none =>
    rw [e] at h2
    refine callOkX Tryz.func8 Tryz.ntmps8 Tryz.results8 rfl rfl rfl fun B w0 M I0 V0 hal => ?_
    (repeat (first | refine WL_nil ?_ | refine zq0 (by first | exact qv9 | exact q_callA (h1) | exact q_callAX hal (h2)) ?_ | refine zq1 ?_ | refine zq2 ?_ | refine zq3 ?_ | refine zq4 ?_ | refine zq5 ?_ | refine zq6 ?_ | refine wN rfl ?_))
    refine Exists.intro _ ⟨Weak.refl _, Exists.intro _ ⟨resA_cell rfl rfl rfl (resA_tmp rfl rfl), ?_, rfl⟩⟩
    rfl
  | some p =>
    obtain ⟨ks, fs⟩ := p
    rw [e] at h2
    refine callOkX Tryz.func8 Tryz.ntmps8 Tryz.results8 rfl rfl rfl fun B w0 M I0 V0 hal => ?_
    (repeat (first | refine WL_nil ?_ | refine zq0 (by first | exact qv9 | exact q_callA (h1) | exact q_callAX hal (h2)) ?_ | refine zq1 ?_ | refine zq2 ?_ | refine zq3 ?_ | refine zq4 ?_ | refine zq5 ?_ | refine zq6 ?_ | refine wN rfl ?_))
    refine Exists.intro _ ⟨Weak.refl _, Exists.intro _ ⟨resA_cell rfl rfl rfl (resA_tmp rfl rfl), ?_, rfl⟩⟩
    rfl
theorem isp_two {js : List Jt} {ls : List Ld} {ks fs : List Int} (hl : loadsB js ls = true) (h : ispB (rowsA js ls) ks fs = true) : 2 ≤ ks.length ∧ ks.length ≤ 4 := by
  obtain ⟨hp, h1, h2, h3, _⟩ := isp_sums h
  have hn := pf_len hp
  refine ⟨?_, hn.2.1⟩
  by_cases e : ks.length = 1
  · exfalso
    rw [rowsA_go hl] at *
    obtain ⟨⟨k0, k1⟩, ⟨f0, _⟩, _⟩ := pf_at hp (k := 0) (by omega)
    rw [e] at h1 h2 h3
    simp only [sumR, Int.zero_add] at h1 h2 h3
    have hr := rowsAll_dir (rows_at (rs := rowsAll js ls) (i := (iat ks 0).toNat) (by omega))
    have hf : iat fs 0 ≠ 0 := by omega
    rcases Int.mul_eq_zero.1 h1 with h | h
    · exact hf h
    rcases Int.mul_eq_zero.1 h2 with h' | h'
    · exact hf h'
    rcases Int.mul_eq_zero.1 h3 with h'' | h''
    · exact hf h''
    rcases hr with hr | hr | hr
    · exact hr h
    · exact hr h'
    · exact hr h''
  · omega
theorem lst_fold : ∀ (l : List Pf) (s : Int), (∀ p ∈ l, 2 ≤ p.1.length ∧ p.1.length ≤ 4) → (s = 0 ∨ (2 ≤ s ∧ s ≤ 4)) →
    (l = [] ∧ l.foldl (fun s (p : Pf) => if s = 0 ∨ (p.1.length : Int) < s then (p.1.length : Int) else s) s = s) ∨
    (2 ≤ l.foldl (fun s (p : Pf) => if s = 0 ∨ (p.1.length : Int) < s then (p.1.length : Int) else s) s ∧ l.foldl (fun s (p : Pf) => if s = 0 ∨ (p.1.length : Int) < s then (p.1.length : Int) else s) s ≤ 4 ∧
      (∀ p ∈ l, l.foldl (fun s (p : Pf) => if s = 0 ∨ (p.1.length : Int) < s then (p.1.length : Int) else s) s ≤ p.1.length) ∧ (s = 0 ∨ l.foldl (fun s (p : Pf) => if s = 0 ∨ (p.1.length : Int) < s then (p.1.length : Int) else s) s ≤ s))
  | [], s, _, _ => .inl ⟨rfl, rfl⟩
  | q :: l, s, h, hs => by
    right
    have hq := h q (List.mem_cons_self ..)
    obtain ⟨s1, e1⟩ : ∃ s1, s1 = if s = 0 ∨ (q.1.length : Int) < s then (q.1.length : Int) else s := ⟨_, rfl⟩
    have b1 : (2 ≤ s1 ∧ s1 ≤ 4) ∧ s1 ≤ q.1.length ∧ (s = 0 ∨ s1 ≤ s) := by
      rw [e1]
      split <;> omega
    simp only [List.foldl_cons, ← e1]
    rcases lst_fold l s1 (fun p hp => h p (List.mem_cons_of_mem _ hp)) (.inr b1.1) with ⟨rfl, e⟩ | ⟨k1, k2, k3, k4⟩
    · rw [e]
      refine ⟨b1.1.1, b1.1.2, fun p hp => ?_, b1.2.2⟩
      simp only [List.mem_singleton] at hp
      subst hp
      exact b1.2.1
    · refine ⟨k1, k2, fun p hp => ?_, by omega⟩
      rcases List.mem_cons.1 hp with rfl | hp
      · omega
      · exact k3 p hp
set_option maxHeartbeats 4000000 in
theorem law_FnCollapses (c : List Int) (bc : ∀ x ∈ c, isU8 x) (_lc : c.length ≤ 9223372036854775807) : CallOkA Tryz.prog 3 [slU c] (fun r => r = vb true) := by
  have hbig := lbig_ok c
  refine callOkX Tryz.func3 Tryz.ntmps3 Tryz.results3 rfl rfl rfl fun B w0 M I0 V0 hal => ?_
  by_cases hb : (1048576 : Int) < c.length
  · rw [decide_eq_true hb] at hbig
    (repeat (first | refine WL_nil ?_ | refine zq0 (by first | exact qv9 | exact q_callA (hbig)) ?_ | refine zq1 ?_ | refine zq2 ?_ | refine zq3 ?_ | refine zq4 ?_ | refine zq5 ?_ | refine zq6 ?_ | refine wN rfl ?_))
    refine Exists.intro _ ⟨Weak.refl _, Exists.intro _ ⟨resA_tmp rfl rfl, ?_, rfl⟩⟩
    rfl
  · rw [decide_eq_false hb] at hbig
    have hl : Bts c := ⟨bc, by omega⟩
    (repeat (first | refine WL_nil ?_ | refine zq0 (by first | exact qv9 | exact q_callA (hbig)) ?_ | refine zq1 ?_ | refine zq2 ?_ | refine zq3 ?_ | refine zq4 ?_ | refine zq5 ?_ | refine zq6 ?_ | refine wN rfl ?_))
    refine wlc (drawCollapseOf_ok c hl) rfl (by (repeat' (first | exact LeDs.nil | refine LeDs.cons (by first | exact LeD.v | exact LeD.sl | exact LeD.own | exact LeD.nil | exact LeD.top) ?_ | refine LeDs.agg ?_ ?_)); first | done | fail "open") (fun r ⟨_, _, _, _, hr⟩ => by subst hr; rfl) rfl (fun r hR => ?_)
    obtain ⟨js, ls, h9, h7, rfl⟩ := hR
    have cL := loadsOk_ok js ls (by omega) (by omega)
    have cS := implStands_ok js ls (by omega) (by omega)
    cases hlo : loadsB js ls with
    | false =>
      rw [hlo] at cL
      have hst : stnB js ls = false := by
        unfold stnB thrL
        rw [rowsA_no hlo]
        rfl
      rw [hst] at cS
      (repeat (first | refine WL_nil ?_ | refine zq0 (by first | exact qv9 | exact q_callA (cL) | exact q_callAX hal (cS)) ?_ | refine zq1 ?_ | refine zq2 ?_ | refine zq3 ?_ | refine zq4 ?_ | refine zq5 ?_ | refine zq6 ?_ | refine wN rfl ?_))
      refine Exists.intro _ ⟨Weak.refl _, Exists.intro _ ⟨resA_tmp rfl rfl, ?_, rfl⟩⟩
      rfl
    | true =>
      rw [hlo] at cL
      have h10 : js.length ≤ 8 := (arch_len (loads_arch hlo)).2
      have h20 : (rowsA js ls).length ≤ 20 := by rw [rowsA_go hlo, rowsAll_len]; omega
      have hall : (rowsA js ls).all rowB = true := by
        unfold rowsA
        split
        · rename_i h
          simp only [Bool.and_eq_true] at h
          exact h.2
        · rfl
      have cC := implCollapseOf_ok js ls (by omega) (by omega) h20 hall
      have cR := implRowsOf_ok js ls (by omega) (by omega)
      have cN := implFewestRows_ok (rowsA js ls) h20 hall
      have cF := implFindProof_ok (rowsA js ls) h20 hall
      have hpf : pfind (rowsA js ls) = (ps1 (rowsA js ls) (rowsA js ls).length).head? := by simp [pfind, h20, pf1_head]
      have hmem : ∀ p ∈ ps1 (rowsA js ls) (rowsA js ls).length, 2 ≤ p.1.length ∧ p.1.length ≤ 4 := fun p hp => isp_two hlo (ps1_isp hp)
      rcases stands_or hlo with ⟨h1, h2⟩ | ⟨h1, h2⟩
      · have hst : stnB js ls = true := by
          unfold stnB thrL
          cases e : corL (rowsA js ls) with
          | nil => exact absurd e h1
          | cons a b => rfl
        rw [hst] at cS
        rw [h2] at cC cF hpf
        have hps : ps1 (rowsA js ls) (rowsA js ls).length = [] := by
          cases e : ps1 (rowsA js ls) (rowsA js ls).length with
          | nil => rfl
          | cons a b => rw [e] at hpf; cases hpf
        rw [hps, show lst [] = 0 from rfl] at cN
        obtain ⟨rs, ers⟩ : ∃ rs, rs = rowsA js ls := ⟨_, rfl⟩
        rw [← ers] at cR cN cF
        (repeat (first | refine WL_nil ?_ | refine zq0 (by first | exact qv9 | exact q_callA (cL) | exact q_callAX hal (cC) | exact q_callA (cR) | exact q_callAX hal (cS) | exact q_callAX hal (cN) | exact q_callAX hal (cF)) ?_ | refine zq1 ?_ | refine zq2 ?_ | refine zq3 ?_ | refine zq4 ?_ | refine zq5 ?_ | refine zq6 ?_ | refine wN rfl ?_))
        refine Exists.intro _ ⟨Weak.refl _, Exists.intro _ ⟨resA_tmp rfl rfl, ?_, rfl⟩⟩
        rfl
      · have hst : stnB js ls = false := by
          unfold stnB thrL
          rw [h1]; rfl
        rw [hst] at cS
        cases hp : pfind (rowsA js ls) with
        | none => exact absurd hp h2
        | some p =>
          obtain ⟨ks, fs⟩ := p
          rw [hp] at cC cF hpf
          have hisp := pfind_isp hp
          have h4 := pfind_len hp
          have cP := implIsProof_ok (rowsA js ls) ks fs (rowsA_len js ls) (by omega) (by omega)
          rw [hisp] at cP
          obtain ⟨zs, hz⟩ : ∃ zs, ps1 (rowsA js ls) (rowsA js ls).length = (ks, fs) :: zs := by
            cases e : ps1 (rowsA js ls) (rowsA js ls).length with
            | nil => rw [e] at hpf; cases hpf
            | cons a b => rw [e] at hpf; cases hpf; exact ⟨b, rfl⟩
          obtain ⟨n, en⟩ : ∃ n, n = lst (ps1 (rowsA js ls) (rowsA js ls).length) := ⟨_, rfl⟩
          have hn : 2 ≤ n ∧ n ≤ 4 ∧ n ≤ ks.length := by
            rcases lst_fold _ 0 hmem (.inl rfl) with ⟨e, _⟩ | ⟨k1, k2, k3, _⟩
            · rw [hz] at e; cases e
            · have k3 := k3 (ks, fs) (by rw [hz]; exact List.mem_cons_self ..)
              rw [en]
              exact ⟨k1, k2, k3⟩
          rw [← en] at cN
          obtain ⟨rs, ers⟩ : ∃ rs, rs = rowsA js ls := ⟨_, rfl⟩
          rw [← ers] at cR cN cF cP
          have c0 : abin .gtr .i64 n 0 = some (.bool true) := by simp only [abin]; rw [decide_eq_true (by omega)]
          have c1 : abin .gtr .i64 n 4 = some (.bool false) := by simp only [abin]; rw [decide_eq_false (by omega)]
          have c2 : abin .gtr .i64 (ks.length : Int) 4 = some (.bool false) := by simp only [abin]; rw [decide_eq_false (by omega)]
          have c3 : abin .geq .i64 (ks.length : Int) n = some (.bool true) := by simp only [abin]; rw [decide_eq_true (by omega)]
          have c4 : abin .eql .i64 (ks.length : Int) (ks.length : Int) = some (.bool true) := by simp [abin]
          have c5 : abin .geq .i64 n 2 = some (.bool true) := by simp only [abin]; rw [decide_eq_true (by omega)]
          (repeat (first | refine WL_nil ?_ | refine zq0 (by first | exact QV_bin rfl rfl c0 | exact QV_bin rfl rfl c1 | exact QV_bin rfl rfl c2 | exact QV_bin rfl rfl c3 | exact QV_bin rfl rfl c4 | exact QV_bin rfl rfl c5 | exact qv9 | exact q_callA (cL) | exact q_callAX hal (cC) | exact q_callA (cR) | exact q_callAX hal (cS) | exact q_callAX hal (cN) | exact q_callAX hal (cF) | exact q_callAX hal (cP)) ?_ | refine zq1 ?_ | refine zq2 ?_ | refine zq3 ?_ | refine zq4 ?_ | refine zq5 ?_ | refine zq6 ?_ | refine wN rfl ?_))
          refine Exists.intro _ ⟨Weak.refl _, Exists.intro _ ⟨resA_tmp rfl rfl, ?_, rfl⟩⟩
          rfl
end Go.Proofs.YtpcahgedkmgllaaGreat
