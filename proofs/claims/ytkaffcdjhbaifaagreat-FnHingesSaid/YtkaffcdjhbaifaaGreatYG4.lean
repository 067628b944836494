/- The program's SumOfRows: the rows' factors in a map, added up in whatever order. -/
import Derived.Test.YtkaffcdjhbaifaaGreatYG3
import Derived.Test.YtkaffcdjhbaifaaGreatZ12
import Derived.Test.YtkaffcdjhbaifaaGreatZ9
namespace Go.Proofs.YtkaffcdjhbaifaaGreat
open Go.Eng Go.RowKit
set_option maxRecDepth 100000
attribute [local irreducible] QV TV WL HW W CallOk Weak

theorem implSumOfRows_no (rs : List Rw) (ks fs : List Int) (hr : rs.length ≤ 1048576) (hn : ks.length ≤ 1048576) (hf : fs.length ≤ 1048576) (e : pfB rs ks fs = false) : CallOk Tryz.prog 28 [slRw rs, .agg [slI ks, slI fs]] (fun r => r = sumAv rs ks fs) := by
  have hpf := implProofOk_ok rs ks fs hr hn hf
  rw [e] at hpf
  simp only [sumAv, sumP, e, cond_false]
  refine callOk Tryz.func28 Tryz.ntmps28 Tryz.results28 rfl rfl rfl fun B w0 I0 => ?_
  (repeat (first | refine WL_nil ?_ | (apply wl0 (hd := rfl); (first | exact qv9 | exact q_callA (hpf)); (exact gy0)) | (apply wlb (hd := rfl); exact qbx; (exact gy0); rfl) | refine wln ⟨_, rfl, rfl⟩ rfl ?_ | refine wlnu ⟨_, rfl, rfl⟩ rfl ?_ | refine wst rfl rfl rfl List.not_mem_nil rfl rfl rfl rfl rfl rfl ?_ | refine W_condT rfl ?_ | refine W_condF rfl ?_ | refine W_region ?_ | refine wN rfl ?_))
  refine Exists.intro _ ⟨Weak.refl _, Exists.intro _ ⟨resA_tmp rfl (resA_tmp rfl (resA_tmp rfl (resA_tmp rfl rfl))), ?_, rfl⟩⟩
  rfl
def mEnt (ks fs : List Int) (k : Nat) : Array MapEntry := ((List.range k).map fun i => ({ key := .int .i64 (iat ks i), val := .int .i64 (iat fs i), born := i } : MapEntry)).toArray
theorem mEnt_succ (ks fs : List Int) (k : Nat) : (mEnt ks fs k).push { key := .int .i64 (iat ks k), val := .int .i64 (iat fs k), born := k } = mEnt ks fs (k + 1) := by
  simp [mEnt, List.range_succ]
theorem mEnt_mem {ks fs : List Int} {k : Nat} {x : MapEntry} (h : x ∈ (mEnt ks fs k).toList) : ∃ i, i < k ∧ x.key = .int .i64 (iat ks i) ∧ x.val = .int .i64 (iat fs i) ∧ x.born = i := by
  simp only [mEnt, List.mem_map, List.mem_range] at h
  obtain ⟨i, h1, rfl⟩ := h
  exact ⟨i, h1, rfl, rfl, rfl⟩
theorem mEnt_born (ks fs : List Int) (k : Nat) : ((mEnt ks fs k).toList.map (·.born)) = List.range k := by
  simp [mEnt, Function.comp_def]
theorem pf_asc {rs : List Rw} {ks fs : List Int} (h : pfB rs ks fs = true) : ∀ {i k : Nat}, i < k → k < ks.length → iat ks i < iat ks k := by
  intro i k hik
  induction k with
  | zero => omega
  | succ k ih =>
    intro hk
    have h1 : iat ks k < iat ks (k + 1) := by
      simp only [pfB, pfHd, Bool.and_eq_true, decide_eq_true_eq] at h
      have h1 := List.all_eq_true.1 h.2.2 (k + 1) (List.mem_range.2 hk)
      simp only [pfAt, ascAt, Bool.and_eq_true, Bool.not_eq_true', Bool.and_eq_false_iff, decide_eq_false_iff_not] at h1
      have h2 := h1.1.2
      simp only [Nat.add_sub_cancel] at h2
      omega
    rcases Nat.lt_or_ge i k with h2 | h2
    · have := ih h2 (by omega); omega
    · have : i = k := by omega
      subst this; exact h1
def sumQ (rs : List Rw) (ks fs : List Int) (g : Rw → Int) (seen : Array Nat) : Nat → Int
  | 0 => 0
  | k + 1 => sumQ rs ks fs g seen k + (bif seen.contains k then iat fs k * g (wat rs (iat ks k).toNat) else 0)
theorem sumQ_none (rs : List Rw) (ks fs : List Int) (g : Rw → Int) : ∀ k, sumQ rs ks fs g #[] k = 0
  | 0 => rfl
  | k + 1 => by simp [sumQ, sumQ_none rs ks fs g k]
theorem sumQ_all (rs : List Rw) (ks fs : List Int) (g : Rw → Int) (seen : Array Nat) : ∀ k, (∀ i, i < k → seen.contains i = true) → sumQ rs ks fs g seen k = sumR rs ks fs g k
  | 0, _ => rfl
  | k + 1, h => by rw [sumQ, sumR, sumQ_all rs ks fs g seen k (fun i hi => h i (by omega)), h k (by omega)]; rfl
theorem sumQ_old (rs : List Rw) (ks fs : List Int) (g : Rw → Int) (seen : Array Nat) (b : Nat) : ∀ k, k ≤ b → sumQ rs ks fs g (seen.push b) k = sumQ rs ks fs g seen k
  | 0, _ => rfl
  | k + 1, h => by
    have : (k == b) = false := by simp; omega
    rw [sumQ, sumQ, sumQ_old rs ks fs g seen b k (by omega), contains_push, this, Bool.or_false]
theorem sumQ_push (rs : List Rw) (ks fs : List Int) (g : Rw → Int) (seen : Array Nat) (b : Nat) (hs : seen.contains b = false) : ∀ k, b < k → sumQ rs ks fs g (seen.push b) k = sumQ rs ks fs g seen k + iat fs b * g (wat rs (iat ks b).toNat)
  | 0, h => by omega
  | k + 1, h => by
    by_cases e : k = b
    · subst e
      rw [sumQ, sumQ, sumQ_old rs ks fs g seen k k (Nat.le_refl _), contains_push, hs]
      simp
    · have : (k == b) = false := by simpa using e
      rw [sumQ, sumQ, sumQ_push rs ks fs g seen b hs k (by omega), contains_push, this, Bool.or_false]
      omega
theorem sumQ_bd {rs : List Rw} {ks fs : List Int} (h : pfB rs ks fs = true) {g : Rw → Int} (hg : ∀ r, rowB r = true → -1000000000 ≤ g r ∧ g r ≤ 1000000000) (seen : Array Nat) : ∀ k, k ≤ ks.length → -(k * 1000000000000000) ≤ sumQ rs ks fs g seen k ∧ sumQ rs ks fs g seen k ≤ k * 1000000000000000
  | 0, _ => by simp [sumQ]
  | k + 1, hk => by
    have h1 := sumQ_bd h hg seen k (by omega)
    have h2 := term_bd h (show k < ks.length by omega) hg
    simp only [sumQ]
    cases seen.contains k <;> simp only [cond_true, cond_false] <;> omega
theorem sumQ_small {rs : List Rw} {ks fs : List Int} (h : pfB rs ks fs = true) {g : Rw → Int} (hg : ∀ r, rowB r = true → -1000000000 ≤ g r ∧ g r ≤ 1000000000) (seen : Array Nat) : -4000000000000000 ≤ sumQ rs ks fs g seen ks.length ∧ sumQ rs ks fs g seen ks.length ≤ 4000000000000000 := by
  have h1 := sumQ_bd h hg seen ks.length (Nat.le_refl _)
  have h2 := (pf_len h).2.1
  omega
abbrev st2 (rs : List Rw) (ks fs : List Int) (bi : Nat) (seen : Array Nat) : St := ⟨[(0, slRw rs), (8, .ptr 8 0), (36, .v (.pointer (some ⟨bi, 0, none⟩)))], [(8, [vi (sumQ rs ks fs Rw.a seen ks.length), vi (sumQ rs ks fs Rw.b seen ks.length), vi (sumQ rs ks fs Rw.c seen ks.length), vi (sumQ rs ks fs Rw.d seen ks.length)])], []⟩
abbrev st1 (rs : List Rw) (ks fs : List Int) (bm k : Nat) : St := ⟨[(0, slRw rs), (3, .ptr 3 0), (8, .ptr 8 0), (9, .v (.map (some bm))), (20, slI ks), (21, vi ks.length), (22, vi k)], [(8, [vi 0, vi 0, vi 0, vi 0]), (3, [slI ks, slI fs])], []⟩
theorem implSumOfRows_yes (rs : List Rw) (ks fs : List Int) (hr : rs.length ≤ 1048576) (hn : ks.length ≤ 1048576) (hf : fs.length ≤ 1048576) (e : pfB rs ks fs = true) : CallOk Tryz.prog 28 [slRw rs, .agg [slI ks, slI fs]] (fun r => r = sumAv rs ks fs) := by
  have hpf := implProofOk_ok rs ks fs hr hn hf
  rw [e] at hpf
  have hl := pf_len e
  simp only [sumAv, sumP, e, cond_true]
  refine callOk_of_WK Tryz.func28 Tryz.ntmps28 Tryz.results28 rfl rfl rfl fun w0 I0 fn hrs => ?_
  refine WK_seq ?_
  (repeat (first | refine WL_nil ?_ | (apply wl0 (hd := rfl); (first | exact qv9); (exact gy0)) | (apply wlb (hd := rfl); exact qbx; (exact gy0); rfl) | refine wln ⟨_, rfl, rfl⟩ rfl ?_ | refine wlnu ⟨_, rfl, rfl⟩ rfl ?_ | refine wst rfl rfl rfl List.not_mem_nil rfl rfl rfl rfl rfl rfl ?_ | refine W_condT rfl ?_ | refine W_condF rfl ?_ | refine W_region ?_ | refine wN rfl ?_))
  refine WK_seq ?_
  (repeat (first | refine WL_nil ?_ | (apply wl0 (hd := rfl); (first | exact qv9); (exact gy0)) | (apply wlb (hd := rfl); exact qbx; (exact gy0); rfl) | refine wln ⟨_, rfl, rfl⟩ rfl ?_ | refine wlnu ⟨_, rfl, rfl⟩ rfl ?_ | refine wst rfl rfl rfl List.not_mem_nil rfl rfl rfl rfl rfl rfl ?_ | refine W_condT rfl ?_ | refine W_condF rfl ?_ | refine W_region ?_ | refine wN rfl ?_))
  refine WK_seq ?_
  (repeat (first | refine WL_nil ?_ | (apply wl0 (hd := rfl); (first | exact qv9 | exact q_callA (hpf)); (exact gy0)) | (apply wlb (hd := rfl); exact qbx; (exact gy0); rfl) | refine wln ⟨_, rfl, rfl⟩ rfl ?_ | refine wlnu ⟨_, rfl, rfl⟩ rfl ?_ | refine wst rfl rfl rfl List.not_mem_nil rfl rfl rfl rfl rfl rfl ?_ | refine W_condT rfl ?_ | refine W_condF rfl ?_ | refine W_region ?_ | refine wN rfl ?_))
  refine WK_seqL (WK_region (WLK_obj (Rt.start w0 I0) rfl rfl fun ρ w hρ _ => ⟨.map (some w.heap.size), w.alloc (.map #[] 0), none, [(w.heap.size, .map #[] 0)], .inl ?_, ?_, ?_, ?_, fun M1 I1 hR => ?_⟩))
  · simp [execOp, Instr.makeMap, newObj, Sem.run]
  · exact ⟨rfl, rfl, rfl, by simp, fun k hk _ => alloc_heap w _ k hk⟩
  · intro r h; cases h
  · intro p hp
    simp only [List.mem_singleton] at hp
    subst hp
    exact ⟨alloc_new w _, .inr (Nat.le_refl _)⟩
  obtain ⟨bm, hbm⟩ : ∃ bm, bm = w.heap.size := ⟨_, rfl⟩
  rw [← hbm] at hR ⊢
  generalize w.alloc (.map #[] 0) = w1 at hR ⊢
  refine WLK_of ?_
  (repeat (first | refine WL_nil ?_ | (apply wl0 (hd := rfl); (first | exact qv9); (exact gy0)) | (apply wlb (hd := rfl); exact qbx; (exact gy0); rfl) | refine wln ⟨_, rfl, rfl⟩ rfl ?_ | refine wlnu ⟨_, rfl, rfl⟩ rfl ?_ | refine wst rfl rfl rfl List.not_mem_nil rfl rfl rfl rfl rfl rfl ?_ | refine W_condT rfl ?_ | refine W_condF rfl ?_ | refine W_region ?_ | refine wN rfl ?_))
  refine kQ_then (WK_seqL (WK_seqN ?_))
  (repeat (first | refine WL_nil ?_ | (apply wl0 (hd := rfl); (first | exact qv9); (exact gy0)) | (apply wlb (hd := rfl); exact qbx; (exact gy0); rfl) | refine wln ⟨_, rfl, rfl⟩ rfl ?_ | refine wlnu ⟨_, rfl, rfl⟩ rfl ?_ | refine wst rfl rfl rfl List.not_mem_nil rfl rfl rfl rfl rfl rfl ?_ | refine W_condT rfl ?_ | refine W_condF rfl ?_ | refine W_region ?_ | refine wN rfl ?_))
  refine ⟨rfl, WK_block (WK_loopO (fun k => k ≤ ks.length) (fun k => ks.length - k) (st1 rs ks fs bm) (fun k => [(bm, .map (mEnt ks fs k) k)]) 0 hR (Nat.zero_le _) wkA ?_)⟩
  clear hR
  rintro k hk w1 M1 I1 hR
  by_cases hlt : k < ks.length
  · have g1 : abin .lss .i64 (k : Int) (ks.length : Int) = some (.bool true) := by simp [abin]; omega
    obtain ⟨_, _, p3⟩ := pf_at e hlt
    have hp := iat_lt hlt
    have hq := iat_lt (show k < fs.length by omega)
    refine WK_seqN ?_
    (repeat (first | refine WL_nil ?_ | (apply wl0 (hd := rfl); (first | exact QV_bin rfl rfl g1 | exact qv9); (exact gy0)) | (apply wlb (hd := rfl); exact qbx; (exact gy0); rfl) | refine wln ⟨_, rfl, rfl⟩ rfl ?_ | refine wlnu ⟨_, rfl, rfl⟩ rfl ?_ | refine wst rfl rfl rfl List.not_mem_nil rfl rfl rfl rfl rfl rfl ?_ | refine W_condT rfl ?_ | refine W_condF rfl ?_ | refine W_region ?_ | refine wN rfl ?_))
    refine ⟨rfl, WK_seqN ?_⟩
    (repeat (first | refine WL_nil ?_ | (apply wl0 (hd := rfl); (first | exact qv9); (exact gy0)) | (apply wlb (hd := rfl); exact qbx; (exact gy0); rfl) | refine wln ⟨_, rfl, rfl⟩ rfl ?_ | refine wlnu ⟨_, rfl, rfl⟩ rfl ?_ | refine wst rfl rfl rfl List.not_mem_nil rfl rfl rfl rfl rfl rfl ?_ | refine W_condT rfl ?_ | refine W_condF rfl ?_ | refine W_region ?_ | refine wN rfl ?_))
    refine ⟨rfl, WK_seqL (WK_block (WK_seqN ?_))⟩
    (repeat (first | refine WL_nil ?_ | (apply wl0 (hd := rfl); (first | exact qv9 | exact QV_indexAddr rfl rfl rfl rfl (row_at hp)); (exact gy0)) | (apply wlb (hd := rfl); exact qbx; (exact gy0); rfl) | refine wln ⟨_, rfl, rfl⟩ rfl ?_ | refine wlnu ⟨_, rfl, rfl⟩ rfl ?_ | refine wst rfl rfl rfl List.not_mem_nil rfl rfl rfl rfl rfl rfl ?_ | refine W_condT rfl ?_ | refine W_condF rfl ?_ | refine W_region ?_ | refine wN rfl ?_))
    refine ⟨rfl, WK_region (WLK_cut 7 ?_)⟩
    (repeat (first | refine WL_nil ?_ | (apply wl0 (hd := rfl); (first | exact qv9 | exact QV_indexAddr rfl rfl rfl rfl (row_at hq)); (exact gy0)) | (apply wlb (hd := rfl); exact qbx; (exact gy0); rfl) | refine wln ⟨_, rfl, rfl⟩ rfl ?_ | refine wlnu ⟨_, rfl, rfl⟩ rfl ?_ | refine wst rfl rfl rfl List.not_mem_nil rfl rfl rfl rfl rfl rfl ?_ | refine W_condT rfl ?_ | refine W_condF rfl ?_ | refine W_region ?_ | refine wN rfl ?_))
    refine ⟨rfl, WLK_obj hR rfl rfl fun ρ w hρ ho => ⟨undef, w.putObj bm (.map (mEnt ks fs (k + 1)) (k + 1)), some bm, [(bm, .map (mEnt ks fs (k + 1)) (k + 1))], .inr ⟨?_, rfl⟩, grownBy_putObj' _ _ _, ?_, ?_, fun M1 I1 hR => ?_⟩⟩
    · have hb := ho _ (List.mem_singleton.2 rfl)
      have h1 := run_mapUpdate_new (P := Tryz.prog) (v := .int .i64 (iat fs k)) (a := iat ks k) Tryz.underlying98 Tryz.underlying3 hb (fun x hx => by
        obtain ⟨i, h1, h2, _⟩ := mEnt_mem hx
        exact ⟨_, h2, by have := pf_asc e h1 hlt; omega⟩)
      rw [mEnt_succ] at h1
      have e1 := hρ (.tmp 27) _ rfl
      have e2 := hρ (.tmp 28) _ rfl
      have e3 := hρ (.tmp 33) _ rfl
      simp only [execOp, e1, e2, e3, Sem.run_bind, h1]
      rfl
    · intro r h; cases h; exact ⟨_, List.mem_singleton.2 rfl⟩
    · intro p hp
      simp only [List.mem_singleton] at hp
      subst hp
      have hb := ho _ (List.mem_singleton.2 rfl)
      exact ⟨World.putObj_heap_same (Array.getElem?_eq_some_iff.1 hb).1, .inl ⟨_, List.mem_singleton.2 rfl⟩⟩
    generalize w.putObj bm (.map (mEnt ks fs (k + 1)) (k + 1)) = w2 at hR ⊢
    refine WLK_nil (kQ_blk (kQ_then (WK_of ?_)))
    (repeat (first | refine WL_nil ?_ | (apply wl0 (hd := rfl); (first | exact qv9); (exact gy0)) | (apply wlb (hd := rfl); exact qbx; (exact gy0); rfl) | refine wln ⟨_, rfl, rfl⟩ rfl ?_ | refine wlnu ⟨_, rfl, rfl⟩ rfl ?_ | refine wst rfl rfl rfl List.not_mem_nil rfl rfl rfl rfl rfl rfl ?_ | refine W_condT rfl ?_ | refine W_condF rfl ?_ | refine W_region ?_ | refine wN rfl ?_))
    exact kQ_next (k + 1) hlt (by omega) hR rfl wkA
  · have hk' : k = ks.length := by omega
    subst hk'
    have g1 : abin .lss .i64 (ks.length : Int) (ks.length : Int) = some (.bool false) := by simp [abin]
    refine WK_of ?_
    (repeat (first | refine WL_nil ?_ | (apply wl0 (hd := rfl); (first | exact QV_bin rfl rfl g1 | exact qv9); (exact gy0)) | (apply wlb (hd := rfl); exact qbx; (exact gy0); rfl) | refine wln ⟨_, rfl, rfl⟩ rfl ?_ | refine wlnu ⟨_, rfl, rfl⟩ rfl ?_ | refine wst rfl rfl rfl List.not_mem_nil rfl rfl rfl rfl rfl rfl ?_ | refine W_condT rfl ?_ | refine W_condF rfl ?_ | refine W_region ?_ | refine wN rfl ?_))
    refine kQ_nextE (kQ_exit (kQ_then (WK_seqL (WK_seqL (WK_region (WLK_cut 1 ?_))))))
    (repeat (first | refine WL_nil ?_ | (apply wl0 (hd := rfl); (first | exact qv9); (exact gy0)) | (apply wlb (hd := rfl); exact qbx; (exact gy0); rfl) | refine wln ⟨_, rfl, rfl⟩ rfl ?_ | refine wlnu ⟨_, rfl, rfl⟩ rfl ?_ | refine wst rfl rfl rfl List.not_mem_nil rfl rfl rfl rfl rfl rfl ?_ | refine W_condT rfl ?_ | refine W_condF rfl ?_ | refine W_region ?_ | refine wN rfl ?_))
    refine ⟨rfl, WLK_obj hR rfl rfl fun ρ w hρ ho => ⟨.pointer (some ⟨w.heap.size, 0, none⟩), w.alloc (.mapIter (some bm) ks.length #[] ks.length), none, [(bm, .map (mEnt ks fs ks.length) ks.length), (w.heap.size, .mapIter (some bm) ks.length #[] ks.length)], .inl ?_, ⟨rfl, rfl, rfl, by simp, fun k hk _ => alloc_heap w _ k hk⟩, ?_, ?_, fun M1 I1 hR => ?_⟩⟩
    · have hb := ho _ (List.mem_singleton.2 rfl)
      have e1 := hρ (.tmp 35) _ rfl
      simp only [execOp, e1, Sem.run_bind, run_rangeG Tryz.underlying98 hb]
      rfl
    · intro r h; cases h
    · intro p hp
      have hb := ho _ (List.mem_singleton.2 rfl)
      simp only [List.mem_cons, List.not_mem_nil, or_false] at hp
      rcases hp with rfl | rfl
      · exact ⟨(alloc_heap w _ _ (Array.getElem?_eq_some_iff.1 hb).1).trans hb, .inl ⟨_, List.mem_singleton.2 rfl⟩⟩
      · exact ⟨alloc_new w _, .inr (Nat.le_refl _)⟩
    obtain ⟨bi, hbi⟩ : ∃ bi, bi = w.heap.size := ⟨_, rfl⟩
    rw [← hbi] at hR ⊢
    generalize w.alloc (.mapIter (some bm) ks.length #[] ks.length) = w2 at hR ⊢
    refine WLK_nil (kQ_then (WK_block (WK_loopO (fun _ => True) (fun seen => (leftOf (mEnt ks fs ks.length) seen).size) (st2 rs ks fs bi) (fun seen => [(bm, .map (mEnt ks fs ks.length) ks.length), (bi, .mapIter (some bm) ks.length seen ks.length)]) #[] hR trivial ?_ ?_)))
    · simp only [st2, sumQ_none]
      exact wkA
    clear hR
    rintro seen - w1 M1 I1 hR
    have hold : ∀ x ∈ (mEnt ks fs ks.length).toList, x.born < ks.length := fun x hx => by obtain ⟨i, h1, _, _, h4⟩ := mEnt_mem hx; omega
    refine WK_seqL (WK_region (WLK_obj hR rfl rfl fun ρ w hρ ho => ?_))
    have hb := ho (bm, _) (List.mem_cons_self ..)
    have hit := ho (bi, _) (List.mem_cons_of_mem _ (List.mem_singleton.2 rfl))
    have e1 := hρ (.tmp 36) _ rfl
    rcases run_nextG (P := Tryz.prog) w 0 bi bm ks.length ks.length seen (mEnt ks fs ks.length) ks.length hit hb hold (Nat.le_refl _) with ⟨h0, hrun⟩ | ⟨x, hx, w1', hw1, hrun⟩
    · refine ⟨.tuple #[.bool false], w, none, [(bm, .map (mEnt ks fs ks.length) ks.length), (bi, .mapIter (some bm) ks.length seen ks.length)], .inl ?_, grownBy_refl w, ?_, ?_, fun M1 I1 hR => ?_⟩
      · simp only [execOp, e1, Sem.run_bind, hrun]
        rfl
      · intro r h; cases h
      · intro p hp
        exact ⟨ho p hp, .inl ⟨_, hp⟩⟩
      refine WLK_of ?_
      (repeat (first | refine WL_nil ?_ | (apply wl0 (hd := rfl); (first | exact qv9 | exact QV_extractV rfl rfl); (exact gy0)) | (apply wlb (hd := rfl); exact qbx; (exact gy0); rfl) | refine wln ⟨_, rfl, rfl⟩ rfl ?_ | refine wlnu ⟨_, rfl, rfl⟩ rfl ?_ | refine wst rfl rfl rfl List.not_mem_nil rfl rfl rfl rfl rfl rfl ?_ | refine W_condT rfl ?_ | refine W_condF rfl ?_ | refine W_region ?_ | refine wN rfl ?_))
      refine kQ_then (WK_of ?_)
      (repeat (first | refine WL_nil ?_ | (apply wl0 (hd := rfl); (first | exact qv9); (exact gy0)) | (apply wlb (hd := rfl); exact qbx; (exact gy0); rfl) | refine wln ⟨_, rfl, rfl⟩ rfl ?_ | refine wlnu ⟨_, rfl, rfl⟩ rfl ?_ | refine wst rfl rfl rfl List.not_mem_nil rfl rfl rfl rfl rfl rfl ?_ | refine W_condT rfl ?_ | refine W_condF rfl ?_ | refine W_region ?_ | refine wN rfl ?_))
      refine kQ_nextE (kQ_exit (kQ_then (WK_unk hR (WK_of ?_))))
      have hall : ∀ i, i < ks.length → seen.contains i = true := fun i hi => by
        have hm : ({ key := .int .i64 (iat ks i), val := .int .i64 (iat fs i), born := i } : MapEntry) ∈ (mEnt ks fs ks.length).toList := by
          simp only [mEnt, List.mem_map, List.mem_range]
          exact ⟨i, hi, rfl⟩
        exact all_seen _ seen h0 _ hm
      simp only [sumQ_all _ _ _ _ seen ks.length hall]
      (repeat (first | refine WL_nil ?_ | (apply wl0 (hd := rfl); (first | exact qv9); (exact gy0)) | (apply wlb (hd := rfl); exact qbx; (exact gy0); rfl) | refine wln ⟨_, rfl, rfl⟩ rfl ?_ | refine wlnu ⟨_, rfl, rfl⟩ rfl ?_ | refine wst rfl rfl rfl List.not_mem_nil rfl rfl rfl rfl rfl rfl ?_ | refine W_condT rfl ?_ | refine W_condF rfl ?_ | refine W_region ?_ | refine wN rfl ?_))
      refine wdraw 12 (by kernel_rfl) (by kernel_rfl) (by kernel_rfl) rfl ?_
      (repeat (first | refine HW_nil ?_ | (apply hw0 (hd := rfl); (first | exact qv9); (exact gy0)) | (apply hwb (hd := rfl); exact qbx; (exact gy0); rfl) | refine hwn ⟨_, rfl, rfl⟩ rfl ?_ | refine hwnu ⟨_, rfl, rfl⟩ rfl ?_))
      (repeat (first | refine WL_nil ?_ | (apply wl0 (hd := rfl); (first | exact qv9); (exact gy0)) | (apply wlb (hd := rfl); exact qbx; (exact gy0); rfl) | refine wln ⟨_, rfl, rfl⟩ rfl ?_ | refine wlnu ⟨_, rfl, rfl⟩ rfl ?_ | refine wst rfl rfl rfl List.not_mem_nil rfl rfl rfl rfl rfl rfl ?_ | refine W_condT rfl ?_ | refine W_condF rfl ?_ | refine W_region ?_ | refine wN rfl ?_))
      refine mark_ret hrs ?_
      refine Exists.intro _ ⟨Weak.refl _, Exists.intro _ ⟨resA_tmp rfl (resA_tmp rfl (resA_tmp rfl (resA_tmp rfl rfl))), ?_, rfl⟩⟩
      rfl
    · obtain ⟨hmem, hnot⟩ := mem_left hx
      obtain ⟨i, hi, x1, x2, x3⟩ := mEnt_mem hmem
      rw [x3] at hnot
      have hnd : ((mEnt ks fs ks.length).toList.map (·.born)).Nodup := by rw [mEnt_born]; exact List.nodup_range
      have hsh := left_shrinks (mEnt ks fs ks.length) seen x hx
      rw [x1, x2, x3] at hrun
      rw [x3] at hsh
      refine ⟨.tuple #[.bool true, .int .i64 (iat ks i), .int .i64 (iat fs i)], _, some bi, [(bm, .map (mEnt ks fs ks.length) ks.length), (bi, .mapIter (some bm) ks.length (seen.push i) ks.length)], .inl ?_, grownBy_put_drew hw1 bi (.mapIter (some bm) ks.length (seen.push i) ks.length), ?_, ?_, fun M1 I1 hR => ?_⟩
      · simp only [execOp, e1, Sem.run_bind, hrun]
        rfl
      · intro r h; cases h; exact ⟨_, List.mem_cons_of_mem _ (List.mem_singleton.2 rfl)⟩
      · intro p hp
        have hlt : bi < w1'.heap.size := by rw [heap_dr hw1]; exact (Array.getElem?_eq_some_iff.1 hit).1
        have hne : bm ≠ bi := fun e => by rw [e, hit] at hb; cases hb
        simp only [List.mem_cons, List.not_mem_nil, or_false] at hp
        rcases hp with rfl | rfl
        · exact ⟨(World.putObj_heap_other hne).trans (by rw [heap_dr hw1]; exact hb), .inl ⟨_, List.mem_cons_self ..⟩⟩
        · exact ⟨World.putObj_heap_same hlt, .inl ⟨_, List.mem_cons_of_mem _ (List.mem_singleton.2 rfl)⟩⟩
      clear ho hb hit e1 hrun hρ
      generalize w1'.putObj bi (.mapIter (some bm) ks.length (seen.push i) ks.length) = w3 at hR ⊢
      refine WLK_of ?_
      (repeat (first | refine WL_nil ?_ | (apply wl0 (hd := rfl); (first | exact qv9 | exact QV_extractV rfl rfl); (exact gy0)) | (apply wlb (hd := rfl); exact qbx; (exact gy0); rfl) | refine wln ⟨_, rfl, rfl⟩ rfl ?_ | refine wlnu ⟨_, rfl, rfl⟩ rfl ?_ | refine wst rfl rfl rfl List.not_mem_nil rfl rfl rfl rfl rfl rfl ?_ | refine W_condT rfl ?_ | refine W_condF rfl ?_ | refine W_region ?_ | refine wN rfl ?_))
      refine kQ_then (WK_seqN ?_)
      (repeat (first | refine WL_nil ?_ | (apply wl0 (hd := rfl); (first | exact qv9); (exact gy0)) | (apply wlb (hd := rfl); exact qbx; (exact gy0); rfl) | refine wln ⟨_, rfl, rfl⟩ rfl ?_ | refine wlnu ⟨_, rfl, rfl⟩ rfl ?_ | refine wst rfl rfl rfl List.not_mem_nil rfl rfl rfl rfl rfl rfl ?_ | refine W_condT rfl ?_ | refine W_condF rfl ?_ | refine W_region ?_ | refine wN rfl ?_))
      refine ⟨rfl, WK_block (WK_seqL (WK_region (WLK_obj hR rfl rfl fun ρ w hρ ho => ⟨.tuple #[.int .i64 (iat ks i), .int .i64 (iat fs i)], w, none, [(bm, .map (mEnt ks fs ks.length) ks.length), (bi, .mapIter (some bm) ks.length (seen.push i) ks.length)], .inl ?_, grownBy_refl w, ?_, ?_, fun M1 I1 hR => ?_⟩)))⟩
      · have hb := ho (bm, _) (List.mem_cons_self ..)
        have hit := ho (bi, _) (List.mem_cons_of_mem _ (List.mem_singleton.2 rfl))
        have e1 := hρ (.tmp 36) _ rfl
        rw [← x3] at hit
        have hrun := run_entryG (P := Tryz.prog) (e := x) hit hb hmem hnd
        rw [x1, x2] at hrun
        simp only [execOp, e1, Sem.run_bind, hrun]
        rfl
      · intro r h; cases h
      · intro p hp
        exact ⟨ho p hp, .inl ⟨_, hp⟩⟩
      refine WLK_of ?_
      (repeat (first | refine WL_nil ?_ | (apply wl0 (hd := rfl); (first | exact qv9 | exact QV_extractV rfl rfl); (exact gy0)) | (apply wlb (hd := rfl); exact qbx; (exact gy0); rfl) | refine wln ⟨_, rfl, rfl⟩ rfl ?_ | refine wlnu ⟨_, rfl, rfl⟩ rfl ?_ | refine wst rfl rfl rfl List.not_mem_nil rfl rfl rfl rfl rfl rfl ?_ | refine W_condT rfl ?_ | refine W_condF rfl ?_ | refine W_region ?_ | refine wN rfl ?_))
      refine kQ_then (WK_of ?_)
      obtain ⟨p1, p2, p3⟩ := pf_at e hi
      obtain ⟨j, hj⟩ : ∃ j : Nat, j = (iat ks i).toNat := ⟨_, rfl⟩
      have hj' : iat ks i = (j : Int) := by omega
      have hw := wat_lt (show j < rs.length by omega)
      have sa := sumQ_small e row_a seen
      have sb := sumQ_small e row_b seen
      have sc := sumQ_small e row_c seen
      have sd := sumQ_small e row_d seen
      have ta := term_bd e hi row_a
      have tb := term_bd e hi row_b
      have tc := term_bd e hi row_c
      have td := term_bd e hi row_d
      have pa := sumQ_push rs ks fs Rw.a seen i hnot ks.length hi
      have pb := sumQ_push rs ks fs Rw.b seen i hnot ks.length hi
      have pc := sumQ_push rs ks fs Rw.c seen i hnot ks.length hi
      have pd := sumQ_push rs ks fs Rw.d seen i hnot ks.length hi
      rw [← hj] at ta tb tc td pa pb pc pd
      simp only
      obtain ⟨a, ea⟩ : ∃ a, a = sumQ rs ks fs Rw.a seen ks.length := ⟨_, rfl⟩
      obtain ⟨b, eb⟩ : ∃ a, a = sumQ rs ks fs Rw.b seen ks.length := ⟨_, rfl⟩
      obtain ⟨c, ec⟩ : ∃ a, a = sumQ rs ks fs Rw.c seen ks.length := ⟨_, rfl⟩
      obtain ⟨d, ed⟩ : ∃ a, a = sumQ rs ks fs Rw.d seen ks.length := ⟨_, rfl⟩
      rw [← ea] at sa pa ⊢
      rw [← eb] at sb pb ⊢
      rw [← ec] at sc pc ⊢
      rw [← ed] at sd pd ⊢
      have ma : aar .mul (iat fs i) (wat rs j).a = some (iat fs i * (wat rs j).a) := rfl
      have mb : aar .mul (iat fs i) (wat rs j).b = some (iat fs i * (wat rs j).b) := rfl
      have mc : aar .mul (iat fs i) (wat rs j).c = some (iat fs i * (wat rs j).c) := rfl
      have md : aar .mul (iat fs i) (wat rs j).d = some (iat fs i * (wat rs j).d) := rfl
      have ra : aar .add a (iat fs i * (wat rs j).a) = some (a + iat fs i * (wat rs j).a) := rfl
      have rb : aar .add b (iat fs i * (wat rs j).b) = some (b + iat fs i * (wat rs j).b) := rfl
      have rc : aar .add c (iat fs i * (wat rs j).c) = some (c + iat fs i * (wat rs j).c) := rfl
      have rd : aar .add d (iat fs i * (wat rs j).d) = some (d + iat fs i * (wat rs j).d) := rfl
      refine wdraw 41 (by kernel_rfl) (by kernel_rfl) (by kernel_rfl) rfl ?_
      (repeat (first | refine HW_nil ?_ | (apply hw0 (hd := rfl); (first | exact QV_ar rfl rfl ma (by omega) | exact QV_ar rfl rfl mb (by omega) | exact QV_ar rfl rfl mc (by omega) | exact QV_ar rfl rfl md (by omega) | exact QV_ar rfl rfl ra (by omega) | exact QV_ar rfl rfl rb (by omega) | exact QV_ar rfl rfl rc (by omega) | exact QV_ar rfl rfl rd (by omega) | exact qv9 | exact QV_indexAddr rfl rfl rfl hj' (row_at hw)); (exact gy0)) | (apply hwb (hd := rfl); exact qbx; (exact gy0); rfl) | refine hwn ⟨_, rfl, rfl⟩ rfl ?_ | refine hwnu ⟨_, rfl, rfl⟩ rfl ?_))
      (repeat (first | refine WL_nil ?_ | (apply wl0 (hd := rfl); (first | exact qv9); (exact gy0)) | (apply wlb (hd := rfl); exact qbx; (exact gy0); rfl) | refine wln ⟨_, rfl, rfl⟩ rfl ?_ | refine wlnu ⟨_, rfl, rfl⟩ rfl ?_ | refine wst rfl rfl rfl List.not_mem_nil rfl rfl rfl rfl rfl rfl ?_ | refine W_condT rfl ?_ | refine W_condF rfl ?_ | refine W_region ?_ | refine wN rfl ?_))
      refine kQ_blk (kQ_next (seen.push i) trivial hsh hR rfl ?_)
      simp only [st2, pa, pb, pc, pd]
      exact wkA
theorem implSumOfRows_ok (rs : List Rw) (ks fs : List Int) (hr : rs.length ≤ 1048576) (hn : ks.length ≤ 1048576) (hf : fs.length ≤ 1048576) : CallOk Tryz.prog 28 [slRw rs, .agg [slI ks, slI fs]] (fun r => r = sumAv rs ks fs) := by
  cases e : pfB rs ks fs
  · exact implSumOfRows_no rs ks fs hr hn hf e
  · exact implSumOfRows_yes rs ks fs hr hn hf e
end Go.Proofs.YtkaffcdjhbaifaaGreat

namespace Go.Proofs.YtkaffcdjhbaifaaGreat
open Go.Eng
set_option maxRecDepth 100000
attribute [local irreducible] QV TV WL HW W CallOk Weak

section
variable {E : En} {bl : List (Nat × List AV)} {tm : List (Nat × AV)} {d : Option Tmp} {ty : TypeId} {pos : String} {af : Array Edge} {gd : Option (Nat × Bool)}
theorem q_lenT {t : Nat} {x : Operand} {l : List Int} {n : Int} (ht : E.P.underlying t = some .string) (hx : ev tm x = vs l) (hl : (l.length : Int) = n) :
    QV E bl tm ⟨d, .call ⟨.builtin .len, #[x], #[t]⟩, ty, pos, af, gd⟩ (vi n) [] [] := by
  subst hl
  have := QV_lenS (bl := bl) (d := d) (ty := ty) (pos := pos) (af := af) (gd := gd) ht hx
  rwa [strOfNums_size] at this
end
def hgW (h : Hg) : List Int := (bif h.o then [111] else [105]) ++ fmtL h.j
theorem hgW_len (h : Hg) : (hgW h).length ≤ 4 := by
  have := fmtL_len h.j
  unfold hgW
  cases h.o <;> simp <;> omega
theorem implHingeText_ok (l : List Hg) (hl : ∀ h ∈ l, -99 ≤ h.j ∧ h.j ≤ 99) (hn : l.length ≤ 100) : CallOk Tryz.prog 15 [slHg l] (fun r => r = vs (joinL ((List.range l.length).map fun k => hgW (gat l k)))) := by
  refine callOk Tryz.func15 Tryz.ntmps15 Tryz.results15 rfl rfl rfl fun B w0 I0 => ?_
  (repeat (first | refine WL_nil ?_ | (apply wl0 (hd := rfl); (first | exact qv9); (exact gy0)) | (apply wlb (hd := rfl); exact qbx; (exact gy0); rfl) | refine wln ⟨_, rfl, rfl⟩ rfl ?_ | refine wlnu ⟨_, rfl, rfl⟩ rfl ?_ | refine wst rfl rfl rfl List.not_mem_nil rfl rfl rfl rfl rfl rfl ?_ | refine W_condT rfl ?_ | refine W_condF rfl ?_ | refine W_region ?_ | refine wN rfl ?_))
  refine W_loop (fun m s => ∃ k : Nat, k ≤ l.length ∧ m = l.length - k ∧ s = ⟨[(3, .own 3 9 1 (words (fun k => hgW (gat l k)) k)), (7, slHg l), (8, vi l.length), (9, vi k)], [], [3]⟩) ⟨_, _, ⟨0, by omega, rfl, rfl⟩, wkA⟩ ?_
  rintro m s ⟨k, hk, rfl, rfl⟩
  by_cases hlt : k < l.length
  · have hp := gat_lt hlt
    have c1 : abin .lss .i64 k l.length = some (.bool true) := by simp [abin]; omega
    have happ : (words (fun k => hgW (gat l k)) k).length + [[vs (hgW (gat l k))]].length ≤ 1048576 := by rw [words_len]; simp; omega
    have happ2 := words_app (fun k => hgW (gat l k)) k
    have hb := hl _ (List.mem_of_getElem? hp)
    obtain ⟨j, o, ejo⟩ : ∃ j o, gat l k = ⟨j, o⟩ := ⟨_, _, rfl⟩
    rw [ejo] at hp hb happ happ2
    have f1 := implFormatInt_ok j hb
    have l1 := fmtL_len j
    cases o
    · (repeat (first | refine WL_nil ?_ | (apply wl0 (hd := rfl); (first | exact QV_bin rfl rfl c1 | exact q_cat (a := [105]) (b := fmtL j) rfl rfl rfl (by simp; omega) | exact qv9 | exact q_callA (f1) | exact QV_indexAddr rfl rfl rfl rfl (row_at hp)); (exact gy0)) | (apply wlb (hd := rfl); exact qbx; (exact gy0); rfl) | refine wln ⟨_, rfl, rfl⟩ rfl ?_ | refine wlnu ⟨_, rfl, rfl⟩ rfl ?_ | (apply wln1 (hd := rfl); exact q_buildSlice 21 rfl rfl rfl rfl; (exact gy0); rfl) | refine wst rfl rfl rfl List.not_mem_nil rfl rfl rfl rfl rfl rfl ?_ | refine wappE rfl rfl rfl (word_cells (hgW ⟨j, false⟩)) (word_lens (hgW ⟨j, false⟩)) happ rfl rfl happ2 rfl rfl ?_ | refine W_condT rfl ?_ | refine W_condF rfl ?_ | refine W_region ?_ | refine wN rfl ?_))
      refine Exists.intro _ (Exists.intro _ ⟨?_, ⟨k + 1, by omega, rfl, rfl⟩, wkA⟩)
      omega
    · (repeat (first | refine WL_nil ?_ | (apply wl0 (hd := rfl); (first | exact QV_bin rfl rfl c1 | exact q_cat (a := [111]) (b := fmtL j) rfl rfl rfl (by simp; omega) | exact qv9 | exact q_callA (f1) | exact QV_indexAddr rfl rfl rfl rfl (row_at hp)); (exact gy0)) | (apply wlb (hd := rfl); exact qbx; (exact gy0); rfl) | refine wln ⟨_, rfl, rfl⟩ rfl ?_ | refine wlnu ⟨_, rfl, rfl⟩ rfl ?_ | (apply wln1 (hd := rfl); exact q_buildSlice 21 rfl rfl rfl rfl; (exact gy0); rfl) | refine wst rfl rfl rfl List.not_mem_nil rfl rfl rfl rfl rfl rfl ?_ | refine wappE rfl rfl rfl (word_cells (hgW ⟨j, true⟩)) (word_lens (hgW ⟨j, true⟩)) happ rfl rfl happ2 rfl rfl ?_ | refine W_condT rfl ?_ | refine W_condF rfl ?_ | refine W_region ?_ | refine wN rfl ?_))
      refine Exists.intro _ (Exists.intro _ ⟨?_, ⟨k + 1, by omega, rfl, rfl⟩, wkA⟩)
      omega
  · have hk' : k = l.length := by omega
    subst hk'
    have c1 : abin .lss .i64 l.length l.length = some (.bool false) := by simp [abin]
    have hj := join_ok ((List.range l.length).map fun k => hgW (gat l k)) (by simp; omega) (fun x hx => by
      obtain ⟨k, _, rfl⟩ := List.mem_map.1 hx
      have := hgW_len (gat l k)
      omega)
    (repeat (first | refine WL_nil ?_ | (apply wl0 (hd := rfl); (first | exact QV_bin rfl rfl c1 | exact qv9 | exact q_callA (hj)); (exact gy0)) | (apply wlb (hd := rfl); exact qbx; (exact gy0); rfl) | refine wln ⟨_, rfl, rfl⟩ rfl ?_ | refine wlnu ⟨_, rfl, rfl⟩ rfl ?_ | refine wst rfl rfl rfl List.not_mem_nil rfl rfl rfl rfl rfl rfl ?_ | refine W_condT rfl ?_ | refine W_condF rfl ?_ | refine W_region ?_ | refine wN rfl ?_))
    refine Exists.intro _ ⟨Weak.refl _, Exists.intro _ ⟨resA_tmp rfl rfl, ?_, rfl⟩⟩
    rfl
theorem joinL_two : ∀ xs : List (List Int), (∀ x ∈ xs, x.length = 2) → 0 < xs.length → ((joinL xs).length : Int) = 3 * xs.length - 1
  | [], _, h => by simp at h
  | [x], h, _ => by
    have := h x (by simp)
    simp [joinL, this]
  | x :: y :: r, h, _ => by
    have h1 := h x (by simp)
    have h2 := joinL_two (y :: r) (fun z hz => h z (by simp [hz])) (by simp)
    simp only [joinL, List.length_append, List.length_cons, List.flatten_cons, List.map_cons] at h2 ⊢
    omega
theorem hgText_len {l : List Hg} (hl : ∀ k, k < l.length → 0 ≤ (gat l k).j ∧ (gat l k).j ≤ 9) (hn : 0 < l.length) : ((joinL ((List.range l.length).map fun k => hgW (gat l k))).length : Int) = 3 * l.length - 1 := by
  rw [joinL_two]
  · simp
  · intro x hx
    obtain ⟨k, hk, rfl⟩ := List.mem_map.1 hx
    have := hl k (List.mem_range.1 hk)
    generalize gat l k = h at this ⊢
    obtain ⟨j, o⟩ := h
    simp only at this
    have hf : (fmtL j).length = 1 := by
      obtain ⟨n, rfl⟩ : ∃ n : Nat, j = n := ⟨j.toNat, by omega⟩
      have hn : n = 0 ∨ n = 1 ∨ n = 2 ∨ n = 3 ∨ n = 4 ∨ n = 5 ∨ n = 6 ∨ n = 7 ∨ n = 8 ∨ n = 9 := by omega
      rcases hn with rfl | rfl | rfl | rfl | rfl | rfl | rfl | rfl | rfl | rfl <;> rfl
    unfold hgW
    cases o <;> simp [hf]
  · simpa using hn
theorem implWorkOf_ok (rs : List Rw) (ks fs : List Int) (hr : rs.length ≤ 1048576) (hn : ks.length ≤ 1048576) (hf : fs.length ≤ 1048576) (hb : -4000000000000000 ≤ sumP rs ks fs Rw.d ∧ sumP rs ks fs Rw.d ≤ 4000000000000000) : CallOk Tryz.prog 12 [slRw rs, .agg [slI ks, slI fs]] (fun r => r = vi (-(sumP rs ks fs Rw.d))) := by
  have h := implSumOfRows_ok rs ks fs hr hn hf
  refine callOk Tryz.func12 Tryz.ntmps12 Tryz.results12 rfl rfl rfl fun B w0 I0 => ?_
  (repeat (first | refine WL_nil ?_ | (apply wl0 (hd := rfl); (first | exact qv9 | exact q_callA (h)); (exact gy0)) | (apply wlb (hd := rfl); exact qbx; (exact gy0); rfl) | refine wln ⟨_, rfl, rfl⟩ rfl ?_ | refine wlnu ⟨_, rfl, rfl⟩ rfl ?_ | refine wst rfl rfl rfl List.not_mem_nil rfl rfl rfl rfl rfl rfl ?_ | refine W_condT rfl ?_ | refine W_condF rfl ?_ | refine W_region ?_ | refine wN rfl ?_))
  refine Exists.intro _ ⟨Weak.refl _, Exists.intro _ ⟨resA_tmp rfl rfl, ?_, rfl⟩⟩
  rfl
end Go.Proofs.YtkaffcdjhbaifaaGreat

namespace Go.Proofs.YtkaffcdjhbaifaaGreat
open Go.Eng

theorem wk (n : Int) : ∃ k : Int, W64 n = n + 18446744073709551616 * k := by
  refine ⟨(W64 n - n) / 18446744073709551616, ?_⟩
  have : (W64 n - n) % 18446744073709551616 = 0 := by
    simp [W64, IntKind.wrap, IntKind.bits, IntKind.signed]
    try omega
  omega
theorem wsh (n k : Int) : W64 (n + 18446744073709551616 * k) = W64 n := by
  simp [W64, IntKind.wrap, IntKind.bits, IntKind.signed]
  try omega
theorem wcong {a b : Int} (k : Int) (h : a = b + 18446744073709551616 * k) : W64 a = W64 b := by rw [h, wsh]
theorem wmul_l (a b : Int) : W64 (W64 a * b) = W64 (a * b) := by
  obtain ⟨k, hk⟩ := wk a
  exact wcong (k * b) (by rw [hk]; grind)
theorem wmul_r (a b : Int) : W64 (a * W64 b) = W64 (a * b) := by rw [Int.mul_comm, wmul_l, Int.mul_comm]
theorem wadd_l (a b : Int) : W64 (W64 a + b) = W64 (a + b) := w64_add a b
theorem wadd_r (a b : Int) : W64 (a + W64 b) = W64 (a + b) := w64_add' a b
theorem wsub_l (a b : Int) : W64 (W64 a - b) = W64 (a - b) := by
  obtain ⟨k, hk⟩ := wk a
  exact wcong k (by rw [hk]; omega)
theorem wsub_r (a b : Int) : W64 (a - W64 b) = W64 (a - b) := by
  obtain ⟨k, hk⟩ := wk b
  exact wcong (-k) (by rw [hk]; omega)

structure V3 where
  x : Int
  y : Int
  z : Int
abbrev V3.av (v : V3) : AV := .agg [vi v.x, vi v.y, vi v.z]
def det3 (a b c : V3) : Int := a.x * (b.y * c.z - b.z * c.y) - a.y * (b.x * c.z - b.z * c.x) + a.z * (b.x * c.y - b.y * c.x)
def det3W (a b c : V3) : Int := W64 (W64 (W64 (a.x * W64 (W64 (b.y * c.z) - W64 (b.z * c.y))) - W64 (a.y * W64 (W64 (b.x * c.z) - W64 (b.z * c.x)))) + W64 (a.z * W64 (W64 (b.x * c.y) - W64 (b.y * c.x))))
theorem det3W_eq (a b c : V3) : det3W a b c = W64 (det3 a b c) := by
  unfold det3W det3
  simp only [wmul_r, wadd_l, wadd_r, wsub_l, wsub_r]
theorem det3_swap (a b c : V3) : det3 a b c = det3 ⟨a.x, b.x, c.x⟩ ⟨a.y, b.y, c.y⟩ ⟨a.z, b.z, c.z⟩ := by
  unfold det3; grind
theorem det3_bd {a b c : V3} {l m n : Int} (ax : -l ≤ a.x ∧ a.x ≤ l) (ay : -m ≤ a.y ∧ a.y ≤ m) (az : -n ≤ a.z ∧ a.z ≤ n) (bx : -l ≤ b.x ∧ b.x ≤ l) (bY : -m ≤ b.y ∧ b.y ≤ m) (bz : -n ≤ b.z ∧ b.z ≤ n) (cx : -l ≤ c.x ∧ c.x ≤ l) (cy : -m ≤ c.y ∧ c.y ≤ m) (cz : -n ≤ c.z ∧ c.z ≤ n) :
    -(6 * (l * m * n)) ≤ det3 a b c ∧ det3 a b c ≤ 6 * (l * m * n) := by
  have tri : ∀ {p q r L M N : Int}, (-L ≤ p ∧ p ≤ L) → (-M ≤ q ∧ q ≤ M) → (-N ≤ r ∧ r ≤ N) → -(L * M * N) ≤ p * q * r ∧ p * q * r ≤ L * M * N := fun h1 h2 h3 => mul_bd (mul_bd h1 h2) h3
  have h1 := tri ax bY cz
  have h2 := tri ax cy bz
  have h3 := tri bx ay cz
  have h4 := tri cx ay bz
  have h5 := tri bx cy az
  have h6 := tri cx bY az
  have e : det3 a b c = a.x * b.y * c.z - a.x * c.y * b.z - b.x * a.y * c.z + c.x * a.y * b.z + b.x * c.y * a.z - c.x * b.y * a.z := by unfold det3; grind
  rw [e]
  generalize l * m * n = B at *
  omega

abbrev abc (r : Rw) : V3 := ⟨r.a, r.b, r.c⟩
abbrev dbc (r : Rw) : V3 := ⟨r.d, r.b, r.c⟩
abbrev adc (r : Rw) : V3 := ⟨r.a, r.d, r.c⟩
abbrev abd (r : Rw) : V3 := ⟨r.a, r.b, r.d⟩
def detR (p q r : Rw) : Int := det3 (abc p) (abc q) (abc r)
def detH (p q r : Rw) : Int := det3 (dbc p) (dbc q) (dbc r)
def detV (p q r : Rw) : Int := det3 (adc p) (adc q) (adc r)
def detM (p q r : Rw) : Int := det3 (abd p) (abd q) (abd r)
section
variable {p q r : Rw} (hp : rowB p = true) (hq : rowB q = true) (hr : rowB r = true)
include hp hq hr
theorem detR_bd : -60000 ≤ detR p q r ∧ detR p q r ≤ 60000 := by
  rw [rowB_true] at hp hq hr
  have := det3_bd (a := abc p) (b := abc q) (c := abc r) (l := 100) (m := 100) (n := 1) (by simp; omega) (by simp; omega) (by simp; omega) (by simp; omega) (by simp; omega) (by simp; omega) (by simp; omega) (by simp; omega) (by simp; omega)
  unfold detR; omega
theorem detH_bd : -600000000000 ≤ detH p q r ∧ detH p q r ≤ 600000000000 := by
  rw [rowB_true] at hp hq hr
  have := det3_bd (a := dbc p) (b := dbc q) (c := dbc r) (l := 1000000000) (m := 100) (n := 1) (by simp; omega) (by simp; omega) (by simp; omega) (by simp; omega) (by simp; omega) (by simp; omega) (by simp; omega) (by simp; omega) (by simp; omega)
  unfold detH; omega
theorem detV_bd : -600000000000 ≤ detV p q r ∧ detV p q r ≤ 600000000000 := by
  rw [rowB_true] at hp hq hr
  have := det3_bd (a := adc p) (b := adc q) (c := adc r) (l := 100) (m := 1000000000) (n := 1) (by simp; omega) (by simp; omega) (by simp; omega) (by simp; omega) (by simp; omega) (by simp; omega) (by simp; omega) (by simp; omega) (by simp; omega)
  unfold detV; omega
theorem detM_bd : -60000000000000 ≤ detM p q r ∧ detM p q r ≤ 60000000000000 := by
  rw [rowB_true] at hp hq hr
  have := det3_bd (a := abd p) (b := abd q) (c := abd r) (l := 100) (m := 100) (n := 1000000000) (by simp; omega) (by simp; omega) (by simp; omega) (by simp; omega) (by simp; omega) (by simp; omega) (by simp; omega) (by simp; omega) (by simp; omega)
  unfold detM; omega
end

def farB (n : Int) : Bool := inR n (-4000000000000000000) 4000000000000000000
theorem farB_true {n : Int} : farB n = true ↔ -4000000000000000000 ≤ n ∧ n ≤ 4000000000000000000 := inR_true
def mkG (t : Th) : Int := if t.d < 0 then -(gcd4 t : Int) else gcd4 t
def mkD (t : Th) : Th := ⟨t.h.tdiv (mkG t), t.v.tdiv (mkG t), t.m.tdiv (mkG t), t.d.tdiv (mkG t)⟩
def farT (t : Th) : Bool := !decide (t.d = 0) && (farB t.h && (farB t.v && (farB t.m && farB t.d)))
def mkT (t : Th) : Option Th := bif farT t && thOk (mkD t) then some (mkD t) else none
abbrev thZ : Th := ⟨0, 0, 0, 0⟩
abbrev thO (o : Option Th) : AV := .tup [(o.getD thZ).av, vb o.isSome]
def det0 (p q r : Rw) : Int := bif rowB p && (rowB q && rowB r) then detR p q r else 0
def slv (p q r : Rw) : Option Th := bif decide (det0 p q r = 0) then none else mkT ⟨detH p q r, detV p q r, detM p q r, detR p q r⟩
theorem mkT_ok {t u : Th} (h : mkT t = some u) : thOk u = true := by
  unfold mkT at h
  cases e : farT t && thOk (mkD t)
  · rw [e] at h; cases h
  · rw [e] at h
    simp only [Bool.and_eq_true, cond_true, Option.some.injEq] at e h
    rw [← h]; exact e.2
theorem slv_ok {p q r : Rw} {t : Th} (h : slv p q r = some t) : thOk t = true := by
  unfold slv at h
  cases e : decide (det0 p q r = 0)
  · rw [e] at h; exact mkT_ok h
  · rw [e] at h; cases h

def thEq (t u : Th) : Bool := t.h == u.h && (t.v == u.v && (t.m == u.m && (t.d == u.d && true)))
theorem thEq_iff {t u : Th} : thEq t u = true ↔ t = u := by
  cases t; cases u
  simp [thEq]
def hasT (l : List Th) (t : Th) : Bool := l.any fun u => thEq u t
theorem hasT_iff {l : List Th} {t : Th} : hasT l t = true ↔ t ∈ l := by
  simp only [hasT, List.any_eq_true, thEq_iff]
  constructor
  · rintro ⟨u, h, rfl⟩; exact h
  · intro h; exact ⟨t, h, rfl⟩
theorem hasT_at {l : List Th} {i : Nat} {u t : Th} (h : l[i]? = some u) (e : thEq u t = true) : hasT l t = true := List.any_eq_true.2 ⟨u, List.mem_of_getElem? h, e⟩
theorem hasT_take {l : List Th} {i : Nat} {u t : Th} (h : l[i]? = some u) : hasT (l.take (i + 1)) t = (hasT (l.take i) t || thEq u t) := by
  unfold hasT
  rw [List.take_add_one, h]
  simp
def tat (l : List Th) (i : Nat) : Th := l.getD i ⟨0, 0, 0, 0⟩
theorem tat_lt {l : List Th} {i : Nat} (h : i < l.length) : l[i]? = some (tat l i) := by
  simp [tat, h]
abbrev slTh (l : List Th) : AV := .sl 4 (l.map Th.row)
theorem th_cells (l : List Th) : ∀ x ∈ (l.map Th.row).flatten, isCell x = true := by
  intro x hx
  obtain ⟨r, hr, hx⟩ := List.mem_flatten.1 hx
  obtain ⟨p, _, rfl⟩ := List.mem_map.1 hr
  simp only [Th.row, List.mem_cons, List.not_mem_nil, or_false] at hx
  rcases hx with rfl | rfl | rfl | rfl <;> rfl
theorem th_lens (l : List Th) : ∀ r ∈ l.map Th.row, r.length = 4 := by
  intro r hr
  obtain ⟨p, _, rfl⟩ := List.mem_map.1 hr
  rfl
theorem th_app {l : List Th} {t : Th} : l.map Th.row ++ [t.row] = (l ++ [t]).map Th.row := by simp
theorem th_eqv (t u : Th) : eqvO [true, true, true, true] t.row u.row = some (thEq t u) := rfl
def holB (t : Th) (r : Rw) : Bool := decide (lhs t r ≤ rhs t r)
def addO (l : List Rw) (out : List Th) : Option Th → List Th
  | none => out
  | some t => bif hasT out t then out else bif l.all (holB t) then out ++ [t] else out
def slvA (l : List Rw) (i k m : Nat) : Option Th := slv (wat l i) (wat l k) (wat l m)
def cM (l : List Rw) (i k : Nat) (out : List Th) : Nat → List Th
  | 0 => out
  | n + 1 => addO l (cM l i k out n) (slvA l i k (k + 1 + n))
def cK (l : List Rw) (i : Nat) (out : List Th) : Nat → List Th
  | 0 => out
  | n + 1 => cM l i (i + 1 + n) (cK l i out n) (l.length - (i + 1 + n + 1))
def cI (l : List Rw) : Nat → List Th
  | 0 => []
  | n + 1 => cK l n (cI l n) (l.length - (n + 1))
def corL (l : List Rw) : List Th := bif l.all rowB && inR l.length 3 20 then cI l l.length else []
def CorP (l : List Rw) (t : Th) : Prop := thOk t = true ∧ l.all (holB t) = true
theorem addO_P {l : List Rw} {out : List Th} {o : Option Th} (h : ∀ t ∈ out, CorP l t) (ho : ∀ t, o = some t → thOk t = true) : ∀ t ∈ addO l out o, CorP l t := by
  cases o with
  | none => exact h
  | some u =>
    intro t ht
    unfold addO at ht
    simp only at ht
    cases e1 : hasT out u
    · rw [e1] at ht
      cases e2 : l.all (holB u)
      · rw [e2] at ht; exact h t ht
      · rw [e2] at ht
        simp only [cond_false, cond_true, List.mem_append, List.mem_singleton] at ht
        rcases ht with ht | rfl
        · exact h t ht
        · exact ⟨ho _ rfl, e2⟩
    · rw [e1] at ht; exact h t ht
theorem cM_P {l : List Rw} {i k : Nat} {out : List Th} (h : ∀ t ∈ out, CorP l t) : ∀ n, ∀ t ∈ cM l i k out n, CorP l t
  | 0 => h
  | n + 1 => addO_P (cM_P h n) fun _ e => slv_ok e
theorem cK_P {l : List Rw} {i : Nat} {out : List Th} (h : ∀ t ∈ out, CorP l t) : ∀ n, ∀ t ∈ cK l i out n, CorP l t
  | 0 => h
  | n + 1 => cM_P (cK_P h n) _
theorem cI_P {l : List Rw} : ∀ n, ∀ t ∈ cI l n, CorP l t
  | 0 => by simp [cI]
  | n + 1 => cK_P (cI_P n) _
theorem corL_P {l : List Rw} {t : Th} (h : t ∈ corL l) : CorP l t ∧ l.all rowB = true ∧ 3 ≤ l.length ∧ l.length ≤ 20 := by
  unfold corL at h
  cases e : l.all rowB && inR l.length 3 20
  · rw [e] at h; simp at h
  · rw [e] at h
    simp only [Bool.and_eq_true, inR_true] at e
    exact ⟨cI_P _ t h, e.1, by omega, by omega⟩
theorem addO_len (l : List Rw) (out : List Th) (o : Option Th) : out.length ≤ (addO l out o).length ∧ (addO l out o).length ≤ out.length + 1 := by
  cases o with
  | none => simp [addO]
  | some u =>
    unfold addO
    simp only
    cases hasT out u <;> cases l.all (holB u) <;> simp
theorem cM_len (l : List Rw) (i k : Nat) (out : List Th) : ∀ n, (cM l i k out n).length ≤ out.length + n
  | 0 => by simp [cM]
  | n + 1 => by
    have h1 := cM_len l i k out n
    have h2 := (addO_len l (cM l i k out n) (slvA l i k (k + 1 + n))).2
    simp only [cM]; omega
theorem cK_len (l : List Rw) (hl : l.length ≤ 20) (i : Nat) (out : List Th) : ∀ n, (cK l i out n).length ≤ out.length + 20 * n
  | 0 => by simp [cK]
  | n + 1 => by
    have h1 := cK_len l hl i out n
    have h2 := cM_len l i (i + 1 + n) (cK l i out n) (l.length - (i + 1 + n + 1))
    simp only [cK]; omega
theorem cI_len (l : List Rw) (hl : l.length ≤ 20) : ∀ n, (cI l n).length ≤ 400 * n
  | 0 => by simp [cI]
  | n + 1 => by
    have h1 := cI_len l hl n
    have h2 := cK_len l hl n (cI l n) (l.length - (n + 1))
    simp only [cI]; omega
end Go.Proofs.YtkaffcdjhbaifaaGreat

namespace Go.Proofs.YtkaffcdjhbaifaaGreat
open Go.Eng
set_option maxRecDepth 100000
attribute [local irreducible] QV TV WL HW W CallOk Weak

theorem l11Det_ok (a b c : V3) : CallOk Tryz.prog 80 [a.av, b.av, c.av] (fun r => r = vi (det3W a b c)) := by
  refine callOk Tryz.func80 Tryz.ntmps80 Tryz.results80 rfl rfl rfl fun B w0 I0 => ?_
  (repeat (first | refine WL_nil ?_ | (apply wl0 (hd := rfl); (first | exact qv9 | exact q_indexAr 0 rfl rfl rfl rfl | exact q_indexAr 1 rfl rfl rfl rfl | exact q_indexAr 2 rfl rfl rfl rfl); (exact gy0)) | (apply wlb (hd := rfl); exact qbx; (exact gy0); rfl) | refine wln ⟨_, rfl, rfl⟩ rfl ?_ | refine wlnu ⟨_, rfl, rfl⟩ rfl ?_ | refine wst rfl rfl rfl List.not_mem_nil rfl rfl rfl rfl rfl rfl ?_ | refine W_condT rfl ?_ | refine W_condF rfl ?_ | refine W_region ?_ | refine wN rfl ?_))
  refine Exists.intro _ ⟨Weak.refl _, Exists.intro _ ⟨resA_tmp rfl rfl, ?_, rfl⟩⟩
  rfl
theorem l11Line_ok (r : Rw) : CallOk Tryz.prog 94 [r.av] (fun x => x = (abc r).av) := by
  refine callOk Tryz.func94 Tryz.ntmps94 Tryz.results94 rfl rfl rfl fun B w0 I0 => ?_
  (repeat (first | refine WL_nil ?_ | (apply wl0 (hd := rfl); (first | exact qv9 | exact q_buildAr rfl); (exact gy0)) | (apply wlb (hd := rfl); exact qbx; (exact gy0); rfl) | refine wln ⟨_, rfl, rfl⟩ rfl ?_ | refine wlnu ⟨_, rfl, rfl⟩ rfl ?_ | refine wst rfl rfl rfl List.not_mem_nil rfl rfl rfl rfl rfl rfl ?_ | refine W_condT rfl ?_ | refine W_condF rfl ?_ | refine W_region ?_ | refine wN rfl ?_))
  refine Exists.intro _ ⟨Weak.refl _, Exists.intro _ ⟨resA_cell rfl rfl rfl rfl, ?_, rfl⟩⟩
  rfl
theorem detOfRows_ok (p q r : Rw) : CallOk Tryz.prog 79 [p.av, q.av, r.av] (fun x => x = vi (det0 p q r)) := by
  have h1 := rowOk_ok p
  have h2 := rowOk_ok q
  have h3 := rowOk_ok r
  have d := l11Det_ok (abc p) (abc q) (abc r)
  rw [det3W_eq] at d
  have d1 := l11Line_ok p
  have d2 := l11Line_ok q
  have d3 := l11Line_ok r
  refine callOk Tryz.func79 Tryz.ntmps79 Tryz.results79 rfl rfl rfl fun B w0 I0 => ?_
  cases e1 : rowB p
  · rw [e1] at h1
    (repeat (first | refine WL_nil ?_ | (apply wl0 (hd := rfl); (first | exact qv9 | exact q_callA (h1)); (exact gy0)) | (apply wlb (hd := rfl); exact qbx; (exact gy0); rfl) | refine wln ⟨_, rfl, rfl⟩ rfl ?_ | refine wlnu ⟨_, rfl, rfl⟩ rfl ?_ | refine wst rfl rfl rfl List.not_mem_nil rfl rfl rfl rfl rfl rfl ?_ | refine W_condT rfl ?_ | refine W_condF rfl ?_ | refine W_region ?_ | refine wN rfl ?_))
    refine Exists.intro _ ⟨Weak.refl _, Exists.intro _ ⟨resA_tmp rfl rfl, ?_, rfl⟩⟩
    exact vi_eq (by simp [det0, e1])
  · rw [e1] at h1
    cases e2 : rowB q
    · rw [e2] at h2
      (repeat (first | refine WL_nil ?_ | (apply wl0 (hd := rfl); (first | exact qv9 | exact q_callA (h1) | exact q_callA (h2)); (exact gy0)) | (apply wlb (hd := rfl); exact qbx; (exact gy0); rfl) | refine wln ⟨_, rfl, rfl⟩ rfl ?_ | refine wlnu ⟨_, rfl, rfl⟩ rfl ?_ | refine wst rfl rfl rfl List.not_mem_nil rfl rfl rfl rfl rfl rfl ?_ | refine W_condT rfl ?_ | refine W_condF rfl ?_ | refine W_region ?_ | refine wN rfl ?_))
      refine Exists.intro _ ⟨Weak.refl _, Exists.intro _ ⟨resA_tmp rfl rfl, ?_, rfl⟩⟩
      exact vi_eq (by simp [det0, e2])
    · rw [e2] at h2
      cases e3 : rowB r
      · rw [e3] at h3
        (repeat (first | refine WL_nil ?_ | (apply wl0 (hd := rfl); (first | exact qv9 | exact q_callA (h1) | exact q_callA (h2) | exact q_callA (h3)); (exact gy0)) | (apply wlb (hd := rfl); exact qbx; (exact gy0); rfl) | refine wln ⟨_, rfl, rfl⟩ rfl ?_ | refine wlnu ⟨_, rfl, rfl⟩ rfl ?_ | refine wst rfl rfl rfl List.not_mem_nil rfl rfl rfl rfl rfl rfl ?_ | refine W_condT rfl ?_ | refine W_condF rfl ?_ | refine W_region ?_ | refine wN rfl ?_))
        refine Exists.intro _ ⟨Weak.refl _, Exists.intro _ ⟨resA_tmp rfl rfl, ?_, rfl⟩⟩
        exact vi_eq (by simp [det0, e3])
      · rw [e3] at h3
        have hb := detR_bd e1 e2 e3
        (repeat (first | refine WL_nil ?_ | (apply wl0 (hd := rfl); (first | exact qv9 | exact q_callA (h1) | exact q_callA (h2) | exact q_callA (h3)); (exact gy0)) | (apply wlb (hd := rfl); exact qbx; (exact gy0); rfl) | refine wln ⟨_, rfl, rfl⟩ rfl ?_ | refine wlnu ⟨_, rfl, rfl⟩ rfl ?_ | refine wst rfl rfl rfl List.not_mem_nil rfl rfl rfl rfl rfl rfl ?_ | refine W_condT rfl ?_ | refine W_condF rfl ?_ | refine W_region ?_ | refine wN rfl ?_))
        refine wdraw 7 (by kernel_rfl) (by kernel_rfl) (by kernel_rfl) rfl ?_
        (repeat (first | refine HW_nil ?_ | (apply hw0 (hd := rfl); (first | exact qv9 | exact q_callA (d1) | exact q_callA (d2) | exact q_callA (d3) | exact q_callA (d)); (exact gy0)) | (apply hwb (hd := rfl); exact qbx; (exact gy0); rfl) | refine hwn ⟨_, rfl, rfl⟩ rfl ?_ | refine hwnu ⟨_, rfl, rfl⟩ rfl ?_))
        (repeat (first | refine WL_nil ?_ | (apply wl0 (hd := rfl); (first | exact qv9); (exact gy0)) | (apply wlb (hd := rfl); exact qbx; (exact gy0); rfl) | refine wln ⟨_, rfl, rfl⟩ rfl ?_ | refine wlnu ⟨_, rfl, rfl⟩ rfl ?_ | refine wst rfl rfl rfl List.not_mem_nil rfl rfl rfl rfl rfl rfl ?_ | refine W_condT rfl ?_ | refine W_condF rfl ?_ | refine W_region ?_ | refine wN rfl ?_))
        refine Exists.intro _ ⟨Weak.refl _, Exists.intro _ ⟨resA_tmp rfl rfl, ?_, rfl⟩⟩
        refine vi_eq ?_
        have e4 : det3 (abc p) (abc q) (abc r) = detR p q r := rfl
        rw [e4, w64 (by omega)]
        simp [det0, e1, e2, e3]
end Go.Proofs.YtkaffcdjhbaifaaGreat
