/- My walking engine, part 14: abstract values of Go, and the rules of a walk over them. No program in sight. -/
import Derived.Test.YtkaffcdjhbaifaaGreatZ11
namespace Go.Eng
open Go Go.RowKit

theorem Mem.newData {E : En} {g : Gh} {bl : List (Nat × List AV)} {ow : List Nat} {w : World} (h : Mem E g bl ow w) (T : Nat) (arr : Array Value) (cs : List AV) (hr : dreps g.I w cs arr.toList) :
    ∃ g', Goes g w g' (w.alloc (.cells arr T)) ∧ Mem E g' bl ow (w.alloc (.cells arr T)) ∧ dcells g'.I (w.alloc (.cells arr T)) w.heap.size 0 cs := by
  let g' : Gh := { g with I := fun b o => g.I b o ∨ (b = w.heap.size ∧ o < arr.size) }
  have hIlt : ∀ b o, g.I b o → b < w.heap.size := fun b o hb => cell_lt (h.cell b o hb)
  have keeps : Keeps g.I w (w.alloc (.cells arr T)) := fun b o hb => World.cell?_of_block (a := ⟨b, o, none⟩) (alloc_heap w _ b (hIlt b o hb))
  have goes : Goes g w g' (w.alloc (.cells arr T)) := by
    refine ⟨fun _ _ h => .inl h, keeps, fun k b hk => hk, fun _ _ _ => rfl, fun k T' e' rows' y hy => ?_, fun _ b _ _ _ hc => hc.same (alloc_heap w _ b hc.lt)⟩
    exact ownRep_goes (g := g) (g' := g') (fun _ _ h => .inl h) keeps (fun _ h => ⟨h, rfl⟩) (fun k b h1 h2 => alloc_heap w _ b (h.ofr k b h1 h2).2)
      (fun k b o h1 h2 h3 => h3.resolve_right fun h4 => by have := (h.ofr k b h1 h2).2; omega) hy
  refine ⟨g', goes, ?_, dcells_of_list (dreps_mono goes.I keeps hr) fun j z hj => ?_⟩
  · refine { below := ⟨h.below.os, h.below.tape, h.below.output, Nat.le_trans h.below.size (by rw [alloc_size]; omega), fun k hk hM => (alloc_heap w _ k (Nat.lt_of_lt_of_le hk h.base)).trans (h.below.block k hk hM)⟩,
             base := by rw [alloc_size]; have := h.base; omega, cell := ?_, mfr := ?_, ofr := ?_, minj := h.minj, oinj := h.oinj, disj := h.disj, blk := ?_, key := h.key, own := h.own, inew := ?_, iold := fun b o hb => .inl (h.iold b o hb), pin := h.pin }
    · intro b o hb
      rcases hb with hb | ⟨rfl, ho⟩
      · rw [keeps b o hb]; exact h.cell b o hb
      · rw [cell_of_heap (alloc_new w _)]; simp [ho]
    · intro k b hk
      have := h.mfr k b hk; rw [alloc_size]; exact ⟨this.1, by omega⟩
    · intro k b h1 h2
      have := h.ofr k b h1 h2; rw [alloc_size]; exact ⟨this.1, by omega⟩
    · intro k cs' hk
      obtain ⟨b, arr', h1, h2, h3, h4⟩ := h.blk k cs' hk
      have hb := (h.mfr k b h1).2
      exact ⟨b, arr', h1, (alloc_heap w _ b hb).trans h2, reps_goes goes h3, fun o ho => by
        rcases ho with ho | ⟨rfl, _⟩
        · exact h4 o ho
        · omega⟩
    · intro b o hb
      rcases hb with hb | ⟨rfl, _⟩
      · exact h.inew b o hb
      · exact .inr (.inl h.base)
  · rw [Nat.zero_add, cell_of_heap (alloc_new w _)]
    have hlt := (List.getElem?_eq_some_iff.1 hj).1
    exact ⟨by simpa using hj, .inr ⟨rfl, by simpa using hlt⟩⟩
section
variable {E : En} {bl : List (Nat × List AV)} {tm : List (Nat × AV)} {d : Option Tmp} {ty : TypeId} {pos : String} {af : Array Edge} {gd : Option (Nat × Bool)}
theorem q_seqOf {x : Operand} {ts : Array TypeId} {f f1 T e : Nat} {rows : List (List AV)} [hf : FnOk E.P f] (hC : ∀ (a : Option Addr) (len cap : Nat) (w : World), Calls E.P f #[.slice a len cap] w fun e w' => e = .returned (.func (.func f1) #[] #[.pointer (some ⟨w.heap.size, 0, none⟩)]) ∧ w' = w.alloc (.cells #[.slice a len cap] T))
    (hx : ev tm x = .sl e rows) : QV E bl tm ⟨d, .call ⟨.value (.func f), #[x], ts⟩, ty, pos, af, gd⟩ (.fn (.func f1) [] [.eptr [.sl e rows]]) [] [] := by
  intro g w ρ bl' ow' hm _ _ _ hop
  have h1 := hop (.func f) (by simp [Op.operands, Call.operands])
  have h2 := hop x (by simp [Op.operands, Call.operands])
  rw [hx] at h2
  simp only [rep, ev] at h1 h2
  have h2' := h2
  simp only [drep] at h2
  obtain ⟨A, c, hy, _, _⟩ := h2
  obtain ⟨fn, f1', f2, f3⟩ := hf.ok
  have f2' : fn.name ≠ "runtime.NumGoroutine" := by simpa using f2
  have f3' : fn.body ≠ none := fun e => by rw [e] at f3; simp at f3
  have hrun : (execOp ρ ⟨d, .call ⟨.value (.func f), #[x], ts⟩, ty, pos, af, gd⟩).run E.P w = .ok (.enter f #[ρ x]) w := by
    simp [execOp, resolve, Deferred.ofValue, h1, invoke, callFunc, f1', f2', f3']
  rw [hrun]
  show Calls E.P f #[ρ x] w _
  rw [hy]
  refine (hC A rows.length c w).mono ?_
  rintro e' w' ⟨rfl, rfl⟩
  refine ⟨_, rfl, ?_⟩
  rw [hy] at h2'
  obtain ⟨g', k1, k2, k3⟩ := hm.newData T #[.slice A rows.length c] [.sl e rows] (by simp only [dreps]; exact ⟨_, _, rfl, h2', rfl⟩)
  refine ⟨g', k1, by simpa using k2, ?_⟩
  simp only [rep, reps]
  exact ⟨#[], _, rfl, by simp, _, _, rfl, ⟨_, _, rfl, k3⟩, rfl⟩
end
theorem pin_of {E : En} {g : Gh} {s : St} {a : Act} {w : World} (hi : Inv E g s a w) {pn : List Nat} {t n off : Nat} (h : look s.tm t = .ptr n off) (hn : n ∈ pn) : ∃ b T, (n ∈ pn ∧ g.m n = some b ∧ g.mt n = T) ∧ a.tmps.getD t undef = .pointer (some ⟨b, off, none⟩) := by
  have := hi.tm t
  rw [h] at this
  simp only [rep] at this
  obtain ⟨b, h1, h2⟩ := this
  exact ⟨b, _, ⟨hn, h1, rfl⟩, h2⟩
theorem fn_of {E : En} {g : Gh} {s : St} {a : Act} {w : World} (hi : Inv E g s a w) {t f1 : Nat} {cs : List AV} (h : look s.tm t = .fn (.func f1) [] [.eptr cs]) : ∃ b o, a.eval (.tmp t) = .func (.func f1) #[] #[.pointer (some ⟨b, o, none⟩)] ∧ dcells g.I w b o cs := by
  have := hi.tm t
  rw [h] at this
  simp only [rep, reps] at this
  obtain ⟨A, B, h1, hA, y, zs, hB, ⟨b, o, rfl, hd⟩, rfl⟩ := this
  obtain rfl : A = #[] := by cases A; simp_all
  obtain rfl : B = #[.pointer (some ⟨b, o, none⟩)] := by cases B; simp_all
  exact ⟨b, o, h1, hd⟩
end Go.Eng
