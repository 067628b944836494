/- The program's SumOfRows: the rows' factors in a map, added up in whatever order. -/
import Derived.Test.YtpcahgedkmgllaaGreatYG5
import Derived.Test.YtpcahgedkmgllaaGreatZ11
set_option maxHeartbeats 4000000
namespace Go.Proofs.YtpcahgedkmgllaaGreat
open Go.Eng Go.RowKit
set_option maxRecDepth 100000
attribute [local irreducible] QV TV WL HW W CallOk Weak

theorem implSumOfRows_no (rs : List Rw) (ks fs : List Int) (hr : rs.length ≤ 1048576) (hn : ks.length ≤ 1048576) (hf : fs.length ≤ 1048576) (e : pfB rs ks fs = false) : CallOk Tryz.prog 24 [slRw rs, .agg [slI ks, slI fs]] (fun r => r = sumAv rs ks fs) := by
  have hpf := implProofOk_ok rs ks fs hr hn hf
  rw [e] at hpf
  simp only [sumAv, sumP, e, cond_false]
  refine callOk Tryz.func24 Tryz.ntmps24 Tryz.results24 rfl rfl rfl fun B w0 M I0 V0 => ?_
  (repeat (first | refine WL_nil ?_ | refine zq0 (by first | exact qv9 | exact q_callA (hpf)) ?_ | refine zq1 ?_ | refine zq2 ?_ | refine zq3 ?_ | refine zq4 ?_ | refine zq5 ?_ | refine zq6 ?_ | refine wN rfl ?_))
  refine Exists.intro _ ⟨Weak.refl _, Exists.intro _ ⟨resA_tmp rfl (resA_tmp rfl (resA_tmp rfl (resA_tmp rfl rfl))), ?_, rfl⟩⟩
  rfl
def mEnt (ks fs : List Int) (k : Nat) : Array MapEntry := ((List.range k).map fun i => ({ key := .int .i64 (iat ks i), val := .int .i64 (iat fs i), born := i } : MapEntry)).toArray
theorem mEnt_succ (ks fs : List Int) (k : Nat) : (mEnt ks fs k).push { key := .int .i64 (iat ks k), val := .int .i64 (iat fs k), born := k } = mEnt ks fs (k + 1) := by
  simp [mEnt, List.range_succ]
theorem mEnt_mem {ks fs : List Int} {k : Nat} {x : MapEntry} (h : x ∈ (mEnt ks fs k).toList) : ∃ i, i < k ∧ x.key = .int .i64 (iat ks i) ∧ x.val = .int .i64 (iat fs i) ∧ x.born = i := by
  simp only [mEnt, List.mem_map, List.mem_range] at h
  obtain ⟨i, h1, rfl⟩ := h
  exact ⟨i, h1, rfl, rfl, rfl⟩
theorem mEnt_born (ks fs : List Int) (k : Nat) : ((mEnt ks fs k).toList.map (·.born)) = List.range k := by
  simp [mEnt, Function.comp_def]
theorem pf_asc {rs : List Rw} {ks fs : List Int} (h : pfB rs ks fs = true) : ∀ {i k : Nat}, i < k → k < ks.length → iat ks i < iat ks k := by
  intro i k hik
  induction k with
  | zero => omega
  | succ k ih =>
    intro hk
    have h1 : iat ks k < iat ks (k + 1) := by
      simp only [pfB, pfHd, Bool.and_eq_true, decide_eq_true_eq] at h
      have h1 := List.all_eq_true.1 h.2.2 (k + 1) (List.mem_range.2 hk)
      simp only [pfAt, ascAt, Bool.and_eq_true, Bool.not_eq_true', Bool.and_eq_false_iff, decide_eq_false_iff_not] at h1
      have h2 := h1.1.2
      simp only [Nat.add_sub_cancel] at h2
      omega
    rcases Nat.lt_or_ge i k with h2 | h2
    · have := ih h2 (by omega); omega
    · have : i = k := by omega
      subst this; exact h1
def sumQ (rs : List Rw) (ks fs : List Int) (g : Rw → Int) (seen : Array Nat) : Nat → Int
  | 0 => 0
  | k + 1 => sumQ rs ks fs g seen k + (bif seen.contains k then iat fs k * g (wat rs (iat ks k).toNat) else 0)
theorem sumQ_none (rs : List Rw) (ks fs : List Int) (g : Rw → Int) : ∀ k, sumQ rs ks fs g #[] k = 0
  | 0 => rfl
  | k + 1 => by simp [sumQ, sumQ_none rs ks fs g k]
theorem sumQ_all (rs : List Rw) (ks fs : List Int) (g : Rw → Int) (seen : Array Nat) : ∀ k, (∀ i, i < k → seen.contains i = true) → sumQ rs ks fs g seen k = sumR rs ks fs g k
  | 0, _ => rfl
  | k + 1, h => by rw [sumQ, sumR, sumQ_all rs ks fs g seen k (fun i hi => h i (by omega)), h k (by omega)]; rfl
theorem sumQ_old (rs : List Rw) (ks fs : List Int) (g : Rw → Int) (seen : Array Nat) (b : Nat) : ∀ k, k ≤ b → sumQ rs ks fs g (seen.push b) k = sumQ rs ks fs g seen k
  | 0, _ => rfl
  | k + 1, h => by
    have : (k == b) = false := by simp; omega
    rw [sumQ, sumQ, sumQ_old rs ks fs g seen b k (by omega), contains_push, this, Bool.or_false]
theorem sumQ_push (rs : List Rw) (ks fs : List Int) (g : Rw → Int) (seen : Array Nat) (b : Nat) (hs : seen.contains b = false) : ∀ k, b < k → sumQ rs ks fs g (seen.push b) k = sumQ rs ks fs g seen k + iat fs b * g (wat rs (iat ks b).toNat)
  | 0, h => by omega
  | k + 1, h => by
    by_cases e : k = b
    · subst e
      rw [sumQ, sumQ, sumQ_old rs ks fs g seen k k (Nat.le_refl _), contains_push, hs]
      simp
    · have : (k == b) = false := by simpa using e
      rw [sumQ, sumQ, sumQ_push rs ks fs g seen b hs k (by omega), contains_push, this, Bool.or_false]
      omega
theorem sumQ_bd {rs : List Rw} {ks fs : List Int} (h : pfB rs ks fs = true) {g : Rw → Int} (hg : ∀ r, rowB r = true → -1000000000 ≤ g r ∧ g r ≤ 1000000000) (seen : Array Nat) : ∀ k, k ≤ ks.length → -(k * 1000000000000000) ≤ sumQ rs ks fs g seen k ∧ sumQ rs ks fs g seen k ≤ k * 1000000000000000
  | 0, _ => by simp [sumQ]
  | k + 1, hk => by
    have h1 := sumQ_bd h hg seen k (by omega)
    have h2 := term_bd h (show k < ks.length by omega) hg
    simp only [sumQ]
    cases seen.contains k <;> simp only [cond_true, cond_false] <;> omega
theorem sumQ_small {rs : List Rw} {ks fs : List Int} (h : pfB rs ks fs = true) {g : Rw → Int} (hg : ∀ r, rowB r = true → -1000000000 ≤ g r ∧ g r ≤ 1000000000) (seen : Array Nat) : -4000000000000000 ≤ sumQ rs ks fs g seen ks.length ∧ sumQ rs ks fs g seen ks.length ≤ 4000000000000000 := by
  have h1 := sumQ_bd h hg seen ks.length (Nat.le_refl _)
  have h2 := (pf_len h).2.1
  omega
abbrev st2 (rs : List Rw) (ks fs : List Int) (bi : Nat) (seen : Array Nat) : St := ⟨[(0, slRw rs), (8, .ptr 8 0), (36, .v (.pointer (some ⟨bi, 0, none⟩)))], [(8, [vi (sumQ rs ks fs Rw.a seen ks.length), vi (sumQ rs ks fs Rw.b seen ks.length), vi (sumQ rs ks fs Rw.c seen ks.length), vi (sumQ rs ks fs Rw.d seen ks.length)])], []⟩
abbrev st1 (rs : List Rw) (ks fs : List Int) (bm k : Nat) : St := ⟨[(0, slRw rs), (3, .ptr 3 0), (8, .ptr 8 0), (9, .v (.map (some bm))), (20, slI ks), (21, vi ks.length), (22, vi k)], [(8, [vi 0, vi 0, vi 0, vi 0]), (3, [slI ks, slI fs])], []⟩
theorem implSumOfRows_yes (rs : List Rw) (ks fs : List Int) (hr : rs.length ≤ 1048576) (hn : ks.length ≤ 1048576) (hf : fs.length ≤ 1048576) (e : pfB rs ks fs = true) : CallOkA Tryz.prog 24 [slRw rs, .agg [slI ks, slI fs]] (fun r => r = sumAv rs ks fs) := by
  have hpf := implProofOk_ok rs ks fs hr hn hf
  rw [e] at hpf
  have hl := pf_len e
  simp only [sumAv, sumP, e, cond_true]
  refine callOkA_of_WK Tryz.func24 Tryz.ntmps24 Tryz.results24 rfl rfl rfl fun x0 I0 fn hrs hR0 => ?_
  refine WK_seq ?_
  (repeat (first | refine WL_nil ?_ | refine zq0 qv9 ?_ | refine zq1 ?_ | refine zq2 ?_ | refine zq3 ?_ | refine zq4 ?_ | refine zq5 ?_ | refine zq6 ?_ | refine wN rfl ?_))
  refine WK_seq ?_
  (repeat (first | refine WL_nil ?_ | refine zq0 qv9 ?_ | refine zq1 ?_ | refine zq2 ?_ | refine zq3 ?_ | refine zq4 ?_ | refine zq5 ?_ | refine zq6 ?_ | refine wN rfl ?_))
  refine WK_seq ?_
  (repeat (first | refine WL_nil ?_ | refine zq0 (by first | exact qv9 | exact q_callA (hpf)) ?_ | refine zq1 ?_ | refine zq2 ?_ | refine zq3 ?_ | refine zq4 ?_ | refine zq5 ?_ | refine zq6 ?_ | refine wN rfl ?_))
  refine WK_seqL (WK_region (WLK_obj hR0 rfl rfl fun ρ w hρ _ => ⟨.map (some w.heap.size), w.alloc (.map #[] 0), none, [(w.heap.size, .map #[] 0)], .inl ?_, ?_, ?_, ?_, ?_, fun V1 M1 I1 hR => ?_⟩))
  · simp [execOp, Instr.makeMap, newObj, Sem.run]
  · intro e he
    simp [execOp, Instr.makeMap] at he
  · exact ⟨rfl, rfl, rfl, by simp, fun k hk _ => alloc_heap w _ k hk⟩
  · intro r h; cases h
  · intro p hp
    simp only [List.mem_singleton] at hp
    subst hp
    exact ⟨alloc_new w _, .inr (Nat.le_refl _)⟩
  obtain ⟨bm, hbm⟩ : ∃ bm, bm = w.heap.size := ⟨_, rfl⟩
  rw [← hbm] at hR ⊢
  generalize w.alloc (.map #[] 0) = w1 at hR ⊢
  refine WLK_of ?_
  (repeat (first | refine WL_nil ?_ | refine zq0 qv9 ?_ | refine zq1 ?_ | refine zq2 ?_ | refine zq3 ?_ | refine zq4 ?_ | refine zq5 ?_ | refine zq6 ?_ | refine wN rfl ?_))
  refine kQ_then (WK_seqL (WK_seqN ?_))
  (repeat (first | refine WL_nil ?_ | refine zq0 qv9 ?_ | refine zq1 ?_ | refine zq2 ?_ | refine zq3 ?_ | refine zq4 ?_ | refine zq5 ?_ | refine zq6 ?_ | refine wN rfl ?_))
  refine ⟨rfl, WK_block (WK_loopO (fun k => k ≤ ks.length) (fun k => ks.length - k) (st1 rs ks fs bm) (fun k => [(bm, .map (mEnt ks fs k) k)]) 0 hR (Nat.zero_le _) wkC ?_)⟩
  clear hR
  rintro k hk x1 M1 I1 hR
  by_cases hlt : k < ks.length
  · have g1 : abin .lss .i64 (k : Int) (ks.length : Int) = some (.bool true) := by simp [abin]; omega
    obtain ⟨_, _, p3⟩ := pf_at e hlt
    have hp := iat_lt hlt
    have hq := iat_lt (show k < fs.length by omega)
    refine WK_seqN ?_
    (repeat (first | refine WL_nil ?_ | refine zq0 (by first | exact QV_bin rfl rfl g1 | exact qv9) ?_ | refine zq1 ?_ | refine zq2 ?_ | refine zq3 ?_ | refine zq4 ?_ | refine zq5 ?_ | refine zq6 ?_ | refine wN rfl ?_))
    refine ⟨rfl, WK_seqN ?_⟩
    (repeat (first | refine WL_nil ?_ | refine zq0 qv9 ?_ | refine zq1 ?_ | refine zq2 ?_ | refine zq3 ?_ | refine zq4 ?_ | refine zq5 ?_ | refine zq6 ?_ | refine wN rfl ?_))
    refine ⟨rfl, WK_seqL (WK_block (WK_seqN ?_))⟩
    (repeat (first | refine WL_nil ?_ | refine zq0 (by first | exact qv9 | exact QV_indexAddr rfl rfl rfl rfl (row_at hp)) ?_ | refine zq1 ?_ | refine zq2 ?_ | refine zq3 ?_ | refine zq4 ?_ | refine zq5 ?_ | refine zq6 ?_ | refine wN rfl ?_))
    refine ⟨rfl, WK_region (WLK_cut 7 ?_)⟩
    (repeat (first | refine WL_nil ?_ | refine zq0 (by first | exact qv9 | exact QV_indexAddr rfl rfl rfl rfl (row_at hq)) ?_ | refine zq1 ?_ | refine zq2 ?_ | refine zq3 ?_ | refine zq4 ?_ | refine zq5 ?_ | refine zq6 ?_ | refine wN rfl ?_))
    refine ⟨rfl, WLK_obj hR rfl rfl fun ρ w hρ ho => ⟨undef, w.putObj bm (.map (mEnt ks fs (k + 1)) (k + 1)), some bm, [(bm, .map (mEnt ks fs (k + 1)) (k + 1))], .inr ⟨?_, rfl⟩, ?_, grownBy_putObj' _ _ _, ?_, ?_, fun V1 M1 I1 hR => ?_⟩⟩
    · have hb := ho _ (List.mem_singleton.2 rfl)
      have h1 := run_mapUpdate_new (P := Tryz.prog) (v := .int .i64 (iat fs k)) (a := iat ks k) Tryz.underlying85 Tryz.underlying3 hb (fun x hx => by
        obtain ⟨i, h1, h2, _⟩ := mEnt_mem hx
        exact ⟨_, h2, by have := pf_asc e h1 hlt; omega⟩)
      rw [mEnt_succ] at h1
      have e1 := hρ (.tmp 27) _ rfl
      have e2 := hρ (.tmp 28) _ rfl
      have e3 := hρ (.tmp 33) _ rfl
      simp only [execOp, e1, e2, e3, Sem.run_bind, h1]
      rfl
    · have hb := ho _ (List.mem_singleton.2 rfl)
      have h1 := run_mapUpdate_new (P := Tryz.prog) (v := .int .i64 (iat fs k)) (a := iat ks k) Tryz.underlying85 Tryz.underlying3 hb (fun x hx => by
        obtain ⟨i, h1, h2, _⟩ := mEnt_mem hx
        exact ⟨_, h2, by have := pf_asc e h1 hlt; omega⟩)
      have h2 := ev_mapUpdate_new (P := Tryz.prog) (v := .int .i64 (iat fs k)) (a := iat ks k) Tryz.underlying85 Tryz.underlying3 hb (fun x hx => by
        obtain ⟨i, h1, h2, _⟩ := mEnt_mem hx
        exact ⟨_, h2, by have := pf_asc e h1 hlt; omega⟩)
      rw [mEnt_succ] at h1
      have e1 := hρ (.tmp 27) _ rfl
      have e2 := hρ (.tmp 28) _ rfl
      have e3 := hρ (.tmp 33) _ rfl
      simp only [execOp, e1, e2, e3, Sem.events_bind, h1, h2, Result.evThen_ok, Sem.events_pure]
      exact evO_two (List.mem_singleton.2 rfl)
    · intro r h; cases h; exact ⟨_, List.mem_singleton.2 rfl⟩
    · intro p hp
      simp only [List.mem_singleton] at hp
      subst hp
      have hb := ho _ (List.mem_singleton.2 rfl)
      exact ⟨World.putObj_heap_same (Array.getElem?_eq_some_iff.1 hb).1, .inl ⟨_, List.mem_singleton.2 rfl⟩⟩
    generalize w.putObj bm (.map (mEnt ks fs (k + 1)) (k + 1)) = w2 at hR ⊢
    refine WLK_nil (kQ_blk (kQ_then (WK_of ?_)))
    (repeat (first | refine WL_nil ?_ | refine zq0 qv9 ?_ | refine zq1 ?_ | refine zq2 ?_ | refine zq3 ?_ | refine zq4 ?_ | refine zq5 ?_ | refine zq6 ?_ | refine wN rfl ?_))
    exact kQ_next (k + 1) hlt (by omega) hR rfl wkC
  · have hk' : k = ks.length := by omega
    subst hk'
    have g1 : abin .lss .i64 (ks.length : Int) (ks.length : Int) = some (.bool false) := by simp [abin]
    refine WK_of ?_
    (repeat (first | refine WL_nil ?_ | refine zq0 (by first | exact QV_bin rfl rfl g1 | exact qv9) ?_ | refine zq1 ?_ | refine zq2 ?_ | refine zq3 ?_ | refine zq4 ?_ | refine zq5 ?_ | refine zq6 ?_ | refine wN rfl ?_))
    refine kQ_nextE (kQ_exit (kQ_then (WK_seqL (WK_seqL (WK_region (WLK_cut 1 ?_))))))
    (repeat (first | refine WL_nil ?_ | refine zq0 qv9 ?_ | refine zq1 ?_ | refine zq2 ?_ | refine zq3 ?_ | refine zq4 ?_ | refine zq5 ?_ | refine zq6 ?_ | refine wN rfl ?_))
    refine ⟨rfl, WLK_obj hR rfl rfl fun ρ w hρ ho => ⟨.pointer (some ⟨w.heap.size, 0, none⟩), w.alloc (.mapIter (some bm) ks.length #[] ks.length), none, [(bm, .map (mEnt ks fs ks.length) ks.length), (w.heap.size, .mapIter (some bm) ks.length #[] ks.length)], .inl ?_, ?_, ⟨rfl, rfl, rfl, by simp, fun k hk _ => alloc_heap w _ k hk⟩, ?_, ?_, fun V1 M1 I1 hR => ?_⟩⟩
    · have hb := ho _ (List.mem_singleton.2 rfl)
      have e1 := hρ (.tmp 35) _ rfl
      simp only [execOp, e1, Sem.run_bind, run_rangeG Tryz.underlying85 hb]
      rfl
    · have hb := ho _ (List.mem_singleton.2 rfl)
      have e1 := hρ (.tmp 35) _ rfl
      simp only [execOp, e1, Sem.events_bind, run_rangeG Tryz.underlying85 hb, ev_rangeG Tryz.underlying85 hb, Result.evThen_ok, Sem.events_pure]
      exact evO_of fun e he => ⟨bm, false, _, by simpa using he, List.mem_singleton.2 rfl⟩
    · intro r h; cases h
    · intro p hp
      have hb := ho _ (List.mem_singleton.2 rfl)
      simp only [List.mem_cons, List.not_mem_nil, or_false] at hp
      rcases hp with rfl | rfl
      · exact ⟨(alloc_heap w _ _ (Array.getElem?_eq_some_iff.1 hb).1).trans hb, .inl ⟨_, List.mem_singleton.2 rfl⟩⟩
      · exact ⟨alloc_new w _, .inr (Nat.le_refl _)⟩
    obtain ⟨bi, hbi⟩ : ∃ bi, bi = w.heap.size := ⟨_, rfl⟩
    rw [← hbi] at hR ⊢
    generalize w.alloc (.mapIter (some bm) ks.length #[] ks.length) = w2 at hR ⊢
    refine WLK_nil (kQ_then (WK_block (WK_loopO (fun _ => True) (fun seen => (leftOf (mEnt ks fs ks.length) seen).size) (st2 rs ks fs bi) (fun seen => [(bm, .map (mEnt ks fs ks.length) ks.length), (bi, .mapIter (some bm) ks.length seen ks.length)]) #[] hR trivial ?_ ?_)))
    · simp only [st2, sumQ_none]
      exact wkC
    clear hR
    rintro seen - x1 M1 I1 hR
    have hold : ∀ x ∈ (mEnt ks fs ks.length).toList, x.born < ks.length := fun x hx => by obtain ⟨i, h1, _, _, h4⟩ := mEnt_mem hx; omega
    refine WK_seqL (WK_region (WLK_obj hR rfl rfl fun ρ w hρ ho => ?_))
    have hb := ho (bm, _) (List.mem_cons_self ..)
    have hit := ho (bi, _) (List.mem_cons_of_mem _ (List.mem_singleton.2 rfl))
    have e1 := hρ (.tmp 36) _ rfl
    have hev := ev_nextG (P := Tryz.prog) (w := w) 0 bi bm ks.length ks.length seen (mEnt ks fs ks.length) ks.length hit hb hold (Nat.le_refl _)
    rcases run_nextG (P := Tryz.prog) w 0 bi bm ks.length ks.length seen (mEnt ks fs ks.length) ks.length hit hb hold (Nat.le_refl _) with ⟨h0, hrun⟩ | ⟨x, hx, w1', hw1, hrun⟩
    · refine ⟨.tuple #[.bool false], w, none, [(bm, .map (mEnt ks fs ks.length) ks.length), (bi, .mapIter (some bm) ks.length seen ks.length)], .inl ?_, ?_, grownBy_refl w, ?_, ?_, fun V1 M1 I1 hR => ?_⟩
      · simp only [execOp, e1, Sem.run_bind, hrun]
        rfl
      · simp only [execOp, e1, Sem.events_bind, hrun, Result.evThen_ok, Sem.events_pure]
        exact evO_of fun e he => by
          rcases hev e he with h | h | h
          · exact ⟨bi, false, _, h, List.mem_cons_of_mem _ (List.mem_singleton.2 rfl)⟩
          · exact ⟨bm, false, _, h, List.mem_cons_self ..⟩
          · exact ⟨bi, true, _, h, List.mem_cons_of_mem _ (List.mem_singleton.2 rfl)⟩
      · intro r h; cases h
      · intro p hp
        exact ⟨ho p hp, .inl ⟨_, hp⟩⟩
      refine WLK_of ?_
      (repeat (first | refine WL_nil ?_ | refine zq0 (by first | exact qv9 | exact QV_extractV rfl rfl) ?_ | refine zq1 ?_ | refine zq2 ?_ | refine zq3 ?_ | refine zq4 ?_ | refine zq5 ?_ | refine zq6 ?_ | refine wN rfl ?_))
      refine kQ_then (WK_of ?_)
      (repeat (first | refine WL_nil ?_ | refine zq0 qv9 ?_ | refine zq1 ?_ | refine zq2 ?_ | refine zq3 ?_ | refine zq4 ?_ | refine zq5 ?_ | refine zq6 ?_ | refine wN rfl ?_))
      refine kQ_nextE (kQ_exit (kQ_then (WK_unk hR (WK_of ?_))))
      have hall : ∀ i, i < ks.length → seen.contains i = true := fun i hi => by
        have hm : ({ key := .int .i64 (iat ks i), val := .int .i64 (iat fs i), born := i } : MapEntry) ∈ (mEnt ks fs ks.length).toList := by
          simp only [mEnt, List.mem_map, List.mem_range]
          exact ⟨i, hi, rfl⟩
        exact all_seen _ seen h0 _ hm
      simp only [sumQ_all _ _ _ _ seen ks.length hall]
      (repeat (first | refine WL_nil ?_ | refine zq0 qv9 ?_ | refine zq1 ?_ | refine zq2 ?_ | refine zq3 ?_ | refine zq4 ?_ | refine zq5 ?_ | refine zq6 ?_ | refine wN rfl ?_))
      refine wdraw 12 (by kernel_rfl) (by kernel_rfl) (by kernel_rfl) rfl ?_
      (repeat (first | refine HW_nil ?_ | (apply hw0 (hd := rfl); (first | exact qv9); (exact gy0)) | (apply hwb (hd := rfl); exact qbx; (exact gy0); rfl) | refine zq7 ?_ | refine zq8 ?_))
      (repeat (first | refine WL_nil ?_ | refine zq0 qv9 ?_ | refine zq1 ?_ | refine zq2 ?_ | refine zq3 ?_ | refine zq4 ?_ | refine zq5 ?_ | refine zq6 ?_ | refine wN rfl ?_))
      refine kQ_mark hR0 hrs (.inr rfl) ?_
      refine Exists.intro _ ⟨Weak.refl _, Exists.intro _ ⟨resA_tmp rfl (resA_tmp rfl (resA_tmp rfl (resA_tmp rfl rfl))), ?_, rfl⟩⟩
      rfl
    · obtain ⟨hmem, hnot⟩ := mem_left hx
      obtain ⟨i, hi, x1, x2, x3⟩ := mEnt_mem hmem
      rw [x3] at hnot
      have hnd : ((mEnt ks fs ks.length).toList.map (·.born)).Nodup := by rw [mEnt_born]; exact List.nodup_range
      have hsh := left_shrinks (mEnt ks fs ks.length) seen x hx
      rw [x1, x2, x3] at hrun
      rw [x3] at hsh
      refine ⟨.tuple #[.bool true, .int .i64 (iat ks i), .int .i64 (iat fs i)], _, some bi, [(bm, .map (mEnt ks fs ks.length) ks.length), (bi, .mapIter (some bm) ks.length (seen.push i) ks.length)], .inl ?_, ?_, grownBy_put_drew hw1 bi (.mapIter (some bm) ks.length (seen.push i) ks.length), ?_, ?_, fun V1 M1 I1 hR => ?_⟩
      · simp only [execOp, e1, Sem.run_bind, hrun]
        rfl
      · simp only [execOp, e1, Sem.events_bind, hrun, Result.evThen_ok, Sem.events_pure]
        exact evO_of fun e he => by
          rcases hev e he with h | h | h
          · exact ⟨bi, false, _, h, List.mem_cons_of_mem _ (List.mem_singleton.2 rfl)⟩
          · exact ⟨bm, false, _, h, List.mem_cons_self ..⟩
          · exact ⟨bi, true, _, h, List.mem_cons_of_mem _ (List.mem_singleton.2 rfl)⟩
      · intro r h; cases h; exact ⟨_, List.mem_cons_of_mem _ (List.mem_singleton.2 rfl)⟩
      · intro p hp
        have hlt : bi < w1'.heap.size := by rw [heap_dr hw1]; exact (Array.getElem?_eq_some_iff.1 hit).1
        have hne : bm ≠ bi := fun e => by rw [e, hit] at hb; cases hb
        simp only [List.mem_cons, List.not_mem_nil, or_false] at hp
        rcases hp with rfl | rfl
        · exact ⟨(World.putObj_heap_other hne).trans (by rw [heap_dr hw1]; exact hb), .inl ⟨_, List.mem_cons_self ..⟩⟩
        · exact ⟨World.putObj_heap_same hlt, .inl ⟨_, List.mem_cons_of_mem _ (List.mem_singleton.2 rfl)⟩⟩
      clear ho hb hit e1 hrun hρ hev
      generalize w1'.putObj bi (.mapIter (some bm) ks.length (seen.push i) ks.length) = w3 at hR ⊢
      refine WLK_of ?_
      (repeat (first | refine WL_nil ?_ | refine zq0 (by first | exact qv9 | exact QV_extractV rfl rfl) ?_ | refine zq1 ?_ | refine zq2 ?_ | refine zq3 ?_ | refine zq4 ?_ | refine zq5 ?_ | refine zq6 ?_ | refine wN rfl ?_))
      refine kQ_then (WK_seqN ?_)
      (repeat (first | refine WL_nil ?_ | refine zq0 qv9 ?_ | refine zq1 ?_ | refine zq2 ?_ | refine zq3 ?_ | refine zq4 ?_ | refine zq5 ?_ | refine zq6 ?_ | refine wN rfl ?_))
      refine ⟨rfl, WK_block (WK_seqL (WK_region (WLK_obj hR rfl rfl fun ρ w hρ ho => ⟨.tuple #[.int .i64 (iat ks i), .int .i64 (iat fs i)], w, none, [(bm, .map (mEnt ks fs ks.length) ks.length), (bi, .mapIter (some bm) ks.length (seen.push i) ks.length)], .inl ?_, ?_, grownBy_refl w, ?_, ?_, fun V1 M1 I1 hR => ?_⟩)))⟩
      · have hb := ho (bm, _) (List.mem_cons_self ..)
        have hit := ho (bi, _) (List.mem_cons_of_mem _ (List.mem_singleton.2 rfl))
        have e1 := hρ (.tmp 36) _ rfl
        rw [← x3] at hit
        have hrun := run_entryG (P := Tryz.prog) (e := x) hit hb hmem hnd
        rw [x1, x2] at hrun
        simp only [execOp, e1, Sem.run_bind, hrun]
        rfl
      · have hb := ho (bm, _) (List.mem_cons_self ..)
        have hit := ho (bi, _) (List.mem_cons_of_mem _ (List.mem_singleton.2 rfl))
        have e1 := hρ (.tmp 36) _ rfl
        rw [← x3] at hit
        have hrun := run_entryG (P := Tryz.prog) (e := x) hit hb hmem hnd
        rw [x1, x2] at hrun
        have hevs := ev_entryG (P := Tryz.prog) (e := x) hit hb hmem hnd
        simp only [execOp, e1, Sem.events_bind, hrun, hevs, Result.evThen_ok, Sem.events_pure]
        exact evO_of fun e he => by
          simp only [List.mem_toArray, List.mem_cons, List.not_mem_nil, or_false] at he
          rcases he with rfl | rfl
          · exact ⟨bi, false, _, rfl, List.mem_cons_of_mem _ (List.mem_singleton.2 rfl)⟩
          · exact ⟨bm, false, _, rfl, List.mem_cons_self ..⟩
      · intro r h; cases h
      · intro p hp
        exact ⟨ho p hp, .inl ⟨_, hp⟩⟩
      refine WLK_of ?_
      (repeat (first | refine WL_nil ?_ | refine zq0 (by first | exact qv9 | exact QV_extractV rfl rfl) ?_ | refine zq1 ?_ | refine zq2 ?_ | refine zq3 ?_ | refine zq4 ?_ | refine zq5 ?_ | refine zq6 ?_ | refine wN rfl ?_))
      refine kQ_then (WK_of ?_)
      obtain ⟨p1, p2, p3⟩ := pf_at e hi
      obtain ⟨j, hj⟩ : ∃ j : Nat, j = (iat ks i).toNat := ⟨_, rfl⟩
      have hj' : iat ks i = (j : Int) := by omega
      have hw := wat_lt (show j < rs.length by omega)
      have sa := sumQ_small e row_a seen
      have sb := sumQ_small e row_b seen
      have sc := sumQ_small e row_c seen
      have sd := sumQ_small e row_d seen
      have ta := term_bd e hi row_a
      have tb := term_bd e hi row_b
      have tc := term_bd e hi row_c
      have td := term_bd e hi row_d
      have pa := sumQ_push rs ks fs Rw.a seen i hnot ks.length hi
      have pb := sumQ_push rs ks fs Rw.b seen i hnot ks.length hi
      have pc := sumQ_push rs ks fs Rw.c seen i hnot ks.length hi
      have pd := sumQ_push rs ks fs Rw.d seen i hnot ks.length hi
      rw [← hj] at ta tb tc td pa pb pc pd
      simp only
      obtain ⟨a, ea⟩ : ∃ a, a = sumQ rs ks fs Rw.a seen ks.length := ⟨_, rfl⟩
      obtain ⟨b, eb⟩ : ∃ a, a = sumQ rs ks fs Rw.b seen ks.length := ⟨_, rfl⟩
      obtain ⟨c, ec⟩ : ∃ a, a = sumQ rs ks fs Rw.c seen ks.length := ⟨_, rfl⟩
      obtain ⟨d, ed⟩ : ∃ a, a = sumQ rs ks fs Rw.d seen ks.length := ⟨_, rfl⟩
      rw [← ea] at sa pa ⊢
      rw [← eb] at sb pb ⊢
      rw [← ec] at sc pc ⊢
      rw [← ed] at sd pd ⊢
      have ma : aar .mul (iat fs i) (wat rs j).a = some (iat fs i * (wat rs j).a) := rfl
      have mb : aar .mul (iat fs i) (wat rs j).b = some (iat fs i * (wat rs j).b) := rfl
      have mc : aar .mul (iat fs i) (wat rs j).c = some (iat fs i * (wat rs j).c) := rfl
      have md : aar .mul (iat fs i) (wat rs j).d = some (iat fs i * (wat rs j).d) := rfl
      have ra : aar .add a (iat fs i * (wat rs j).a) = some (a + iat fs i * (wat rs j).a) := rfl
      have rb : aar .add b (iat fs i * (wat rs j).b) = some (b + iat fs i * (wat rs j).b) := rfl
      have rc : aar .add c (iat fs i * (wat rs j).c) = some (c + iat fs i * (wat rs j).c) := rfl
      have rd : aar .add d (iat fs i * (wat rs j).d) = some (d + iat fs i * (wat rs j).d) := rfl
      refine wdraw 41 (by kernel_rfl) (by kernel_rfl) (by kernel_rfl) rfl ?_
      (repeat (first | refine HW_nil ?_ | (apply hw0 (hd := rfl); (first | exact QV_ar rfl rfl ma (by omega) | exact QV_ar rfl rfl mb (by omega) | exact QV_ar rfl rfl mc (by omega) | exact QV_ar rfl rfl md (by omega) | exact QV_ar rfl rfl ra (by omega) | exact QV_ar rfl rfl rb (by omega) | exact QV_ar rfl rfl rc (by omega) | exact QV_ar rfl rfl rd (by omega) | exact qv9 | exact QV_indexAddr rfl rfl rfl hj' (row_at hw)); (exact gy0)) | (apply hwb (hd := rfl); exact qbx; (exact gy0); rfl) | refine zq7 ?_ | refine zq8 ?_))
      (repeat (first | refine WL_nil ?_ | refine zq0 qv9 ?_ | refine zq1 ?_ | refine zq2 ?_ | refine zq3 ?_ | refine zq4 ?_ | refine zq5 ?_ | refine zq6 ?_ | refine wN rfl ?_))
      refine kQ_blk (kQ_next (seen.push i) trivial hsh hR rfl ?_)
      simp only [st2, pa, pb, pc, pd]
      exact wkC
theorem implSumOfRows_ok (rs : List Rw) (ks fs : List Int) (hr : rs.length ≤ 1048576) (hn : ks.length ≤ 1048576) (hf : fs.length ≤ 1048576) : CallOkA Tryz.prog 24 [slRw rs, .agg [slI ks, slI fs]] (fun r => r = sumAv rs ks fs) := by
  cases e : pfB rs ks fs
  · exact callOkA_of (implSumOfRows_no rs ks fs hr hn hf e)
  · exact implSumOfRows_yes rs ks fs hr hn hf e
end Go.Proofs.YtpcahgedkmgllaaGreat
