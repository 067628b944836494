/- My walking engine, part 11: abstract values of Go, and the rules of a walk over them. No program in sight. -/
import Derived.Test.YtpcahgedkmgllaaGreatZ5
import Derived.Test.YtpcahgedkmgllaaGreatZ10
import Derived.Test.YtpcahgedkmgllaaGreatZ8
import Derived.Laws.IdiomRangeMap
import Derived.LoopNIn
namespace Go.Eng
open Go Go.Conc Go.RowKit

abbrev KL (P : Program) := Lg P → Exit → Act → CW → Prop
def WK (E : En) (c : Code) (K : KL E.P) (s : St) : Prop := ∀ (L : Lg E.P) g a x, Inv E g s a x → c.wpV L (K L) a x
def WLK (E : En) (ops : Array Oper) (l : List Oper) (K : KL E.P) (s : St) : Prop := ∀ (L : Lg E.P) g a x, Inv E g s a x → wpListV L ops (K L) l a x
def kQ (E : En) (K : KL E.P) : Exit → St → Prop := fun e s => ∀ (L : Lg E.P) g a x, Inv E g s a x → K L e a x
def seqK (E : En) (y : Code) (K : KL E.P) : Exit → St → Prop
  | .normal, s => WK E y K s
  | e, s => kQ E K e s
def thenK {P : Program} (y : Code) (K : KL P) : KL P := fun L => thenX (fun a x => y.wpV L (K L) a x) (K L)
def blkK {P : Program} (id : Nat) (K : KL P) : KL P := fun L => inBlkX id (K L)
theorem wpListV_mono {P : Program} {L : Lg P} {ops : Array Oper} {Q Q' : Exit → Act → CW → Prop} (hQ : ∀ e a x, Q e a x → Q' e a x) : ∀ {l : List Oper} {a : Act} {x : CW}, wpListV L ops Q l a x → wpListV L ops Q' l a x
  | [], _, _, h => hQ _ _ _ h
  | o :: l, a, x, h => by
    unfold wpListV at h ⊢
    split
    · rename_i hw
      rw [if_pos hw] at h
      exact h.mono fun y x' h' => wpListV_mono hQ h'
    · rename_i hw
      rw [if_neg hw] at h
      exact wpListV_mono hQ h
theorem wpListV_app {P : Program} {L : Lg P} {ops : Array Oper} {Q : Exit → Act → CW → Prop} {l2 : List Oper} : ∀ {l1 : List Oper} {a : Act} {x : CW}, wpListV L ops (thenX (fun a x => wpListV L ops Q l2 a x) Q) l1 a x → wpListV L ops Q (l1 ++ l2) a x
  | [], _, _, h => h
  | o :: l1, a, x, h => by
    rw [List.cons_append]
    unfold wpListV at h ⊢
    split
    · rename_i hw
      rw [if_pos hw] at h
      exact h.mono fun y x' h' => wpListV_app h'
    · rename_i hw
      rw [if_neg hw] at h
      exact wpListV_app h
section
variable {E : En} {x y c : Code} {K : KL E.P} {s : St} {ops : Array Oper} {l : List Oper} {id : Nat}
theorem WK_of (h : W E c (kQ E K) s) : WK E c K s := fun L g a w hi => wpV_mono (h L g a w hi) fun _ a' w' ⟨g', _, h1, h2⟩ => h1 L g' a' w' h2
theorem WLK_of (h : WL E ops l (kQ E K) s) : WLK E ops l K s := fun L g a w hi => wpListV_mono (fun _ a' w' ⟨g', _, h1, h2⟩ => h1 L g' a' w' h2) (h L g a w hi)
theorem WK_seq (h : W E x (seqK E y K) s) : WK E (.seq x y) K s := fun L g a w hi => wpV_seq (wpV_mono (h L g a w hi) fun e a' w' hq => by
  obtain ⟨g', s', h1, h2⟩ := hq
  cases e with
  | normal => exact h1 L g' a' w' h2
  | _ => exact h1 L g' a' w' h2)
theorem WK_seqL (h : WK E x (thenK y K) s) : WK E (.seq x y) K s := fun L g a w hi => wpV_seq (h L g a w hi)
theorem WK_seqN (h : W E x (fun e s' => e = .normal ∧ WK E y K s') s) : WK E (.seq x y) K s := fun L g a w hi => wpV_seq (wpV_mono (h L g a w hi) fun e a' w' ⟨g', s', h1, h2⟩ => by
  obtain ⟨rfl, h1⟩ := h1
  exact h1 L g' a' w' h2)
theorem WK_block (h : WK E c (blkK id K) s) : WK E (.block id c) K s := fun L g a w hi => wpV_block (h L g a w hi)
theorem WK_weak {s' : St} (hw : Weak E s s') (h : WK E c K s') : WK E c K s := fun L g a w hi => let ⟨g', hi'⟩ := hw g a w hi; h L g' a w hi'
theorem WK_region {l : List Oper} (h : WLK E l.toArray l K s) : WK E (.region id l.toArray false) K s := fun L g a w hi => wpV_region_list (by simpa using h L g a w hi)
theorem WLK_nil (h : kQ E K .normal s) : WLK E ops [] K s := h
theorem WLK_cut (n : Nat) (h : WL E ops (l.take n) (fun e s' => e = .normal ∧ WLK E ops (l.drop n) K s') s) : WLK E ops l K s := fun L g a w hi => by
  rw [← List.take_append_drop n l]
  refine wpListV_app (wpListV_mono (fun e a' w' ⟨g', s', h1, h2⟩ => ?_) (h L g a w hi))
  obtain ⟨rfl, h1⟩ := h1
  exact h1 L g' a' w' h2
theorem kQ_then (h : WK E c K s) : kQ E (thenK c K) .normal s := h
theorem kQ_blk (h : kQ E K .normal s) : kQ E (blkK id K) .normal s := h
theorem kQ_exit (h : kQ E K .normal s) : kQ E (blkK id K) (.exit id) s := fun L g a w hi => by
  show inBlkX id (K L) (.exit id) a w
  simp only [inBlkX, if_true]
  exact h L g a w hi
theorem kQ_pass {id' : Nat} (hid : Nat.beq id' id = false) (h : kQ E K (.exit id') s) : kQ E (blkK id K) (.exit id') s := fun L g a w hi => by
  have : id' ≠ id := fun e => by rw [e] at hid; simp at hid
  show inBlkX id (K L) (.exit id') a w
  simp only [inBlkX, this, if_false]
  exact h L g a w hi
theorem kQ_thenE {id' : Nat} {y : Code} (h : kQ E K (.exit id') s) : kQ E (thenK y K) (.exit id') s := h
theorem kQ_thenR {y : Code} (h : kQ E K .ret s) : kQ E (thenK y K) .ret s := h
theorem kQ_blkR (h : kQ E K .ret s) : kQ E (blkK id K) .ret s := h
end

def Ob (g : Gh) (b : Nat) : Prop := (∃ n, g.m n = some b) ∨ ∃ n, g.ow n ∧ g.om n = some b
structure Rt (x0 : CW) (I0 : Nat → Nat → Prop) (M0 : Nat → Prop) (x1 : CW) (M : Nat → Prop) (I1 : Nat → Nat → Prop) (os : List (Nat × Obj)) : Prop where
  al : x1.V.ext = .alone
  grows : Grows x0 x1
  below : BelowM x0.w.heap.size (fun b => M0 b ∨ ¬ x0.V.vis b) x0.w x1.w
  Mn : ∀ k, M k → x0.w.heap.size ≤ k ∨ M0 k
  old : ∀ b o, I0 b o → I1 b o
  new : ∀ b o, I1 b o → I0 b o ∨ x0.w.heap.size ≤ b ∨ M0 b
  obs : ∀ p ∈ os, x1.w.heap[p.1]? = some p.2 ∧ (∀ o, ¬ I1 p.1 o) ∧ (x0.w.heap.size ≤ p.1 ∨ M0 p.1) ∧ ¬ M p.1 ∧ x1.V.mine p.1
abbrev pins (pn : List Nat) (p : Nat → Nat → Nat → Prop) : Nat → Nat → Nat → Prop := fun n b T => n ∈ pn ∧ p n b T
abbrev Ek (P : Program) (nt : Nat) (df : List Deferred) (pn : List Nat) (p : Nat → Nat → Nat → Prop) (x1 : CW) (M : Nat → Prop) (I1 : Nat → Nat → Prop) : En := ⟨P, x1.w.heap.size, x1.w, nt, fun b => M b ∨ ¬ x1.V.vis b, [], I1, pins pn p, x1.V, df⟩
theorem Rt.start {x0 : CW} (hal : x0.V.ext = .alone) (hx : Rigged x0) (I0 : Nat → Nat → Prop) : Rt x0 I0 (fun _ => False) x0 (fun _ => False) I0 [] :=
  ⟨hal, ⟨hx, fun _ h => h, fun _ h => h, fun _ h => .inl h, fun _ h => .inl h, rfl⟩, BelowM.refl _ _ _, fun _ h => h.elim, fun _ _ h => h, fun _ _ h => .inl h, fun _ h => by cases h⟩
section
variable {P : Program} {nt : Nat} {df : List Deferred} {pn : List Nat} {p : Nat → Nat → Nat → Prop} {x0 x1 : CW} {I0 I1 : Nat → Nat → Prop} {M0 M : Nat → Prop} {os : List (Nat × Obj)}
theorem Rt.inv (hR : Rt x0 I0 M0 x1 M I1 os) {g : Gh} {s : St} {a : Act} {x : CW} (hi : Inv (Ek P nt df pn p x1 M I1) g s a x) : Inv (Ek P nt df pn p x0 M0 I0) g s a x := by
  have hm := hi.mem.mem
  have hv := hi.mem.vis
  have hG := hR.grows
  have hsz := hR.below.size
  have hk : ∀ k, (x1.w.heap.size ≤ k ∨ (M k ∨ ¬ x1.V.vis k)) → x0.w.heap.size ≤ k ∨ (M0 k ∨ ¬ x0.V.vis k) := fun k h => by
    rcases h with h | h | h
    · exact .inl (Nat.le_trans hsz h)
    · exact (hR.Mn k h).imp id .inl
    · exact .inr (.inr fun h' => h (hG.up k h'))
  refine ⟨⟨{ below := ⟨hm.below.os.trans hR.below.os, hm.below.tape.trans hR.below.tape, hm.below.output.trans hR.below.output, Nat.le_trans hsz hm.below.size, fun k hk0 hM0 => ?_⟩
             base := Nat.le_trans hsz hm.base, cell := hm.cell, mfr := fun n b hn => ⟨.inr (hk b ((hm.mfr n b hn).1.resolve_left (by simp))), (hm.mfr n b hn).2⟩
             ofr := fun n b h1 h2 => ⟨hk b (hm.ofr n b h1 h2).1, (hm.ofr n b h1 h2).2⟩, minj := hm.minj, oinj := hm.oinj, disj := hm.disj, blk := hm.blk, key := hm.key, own := hm.own
             inew := fun b o h => by
               rcases hm.inew b o h with h1 | h1
               · exact (hR.new b o h1).imp id (fun h2 => h2.imp id .inl)
               · exact .inr (hk b h1)
             iold := fun b o h => hm.iold b o (hR.old b o h), pin := hm.pin },
           { I := hv.I, m := hv.m, o := hv.o, sub := hv.sub, lt := hv.lt, up := fun b h => hv.up b (hG.up b h), upm := fun b h => hv.upm b (hG.upm b h), dn := fun b h => (hv.dn b h).elim (hG.dn b) (fun h1 => .inr (Nat.le_trans hsz h1))
             dnm := fun b h => (hv.dnm b h).elim (hG.dnm b) (fun h1 => .inr (Nat.le_trans hsz h1)), nM := fun b h => Classical.not_not.1 fun h' => h (.inr h'), ext := hv.ext.trans hG.ext }⟩, hi.tm, hi.de, hi.sz⟩
  have hk0' : k < x0.w.heap.size := hk0
  have h1 : ¬ (M k ∨ ¬ x1.V.vis k) := fun h => by
    rcases hk k (.inr h) with h2 | h2
    · omega
    · exact hM0 h2
  exact (hm.below.block k (by show k < x1.w.heap.size; omega) h1).trans (hR.below.block k hk0 hM0)
theorem Rt.here (hR : Rt x0 I0 M0 x1 M I1 os) {g : Gh} {s : St} {a : Act} {x : CW} (hi : Inv (Ek P nt df pn p x1 M I1) g s a x) : ∀ q ∈ os, x.w.heap[q.1]? = some q.2 ∧ x.V.mine q.1 ∧ x.V.vis q.1 := fun q hq => by
  obtain ⟨h1, h2, h3, h4, h5⟩ := hR.obs q hq
  have hv := hi.mem.vis
  exact ⟨(hi.mem.mem.below.block q.1 (Array.getElem?_eq_some_iff.1 h1).1 (fun h => h.elim h4 fun h => h (hR.grows.rig.sub _ h5))).trans h1, hv.upm _ h5, hv.sub _ (hv.upm _ h5)⟩
theorem ob_new {g : Gh} {s : St} {a : Act} {x : CW} (hi : Inv (Ek P nt df pn p x1 M I1) g s a x) {k : Nat} (h : Ob g k) : (x1.w.heap.size ≤ k ∨ (M k ∨ ¬ x1.V.vis k)) ∧ k < x.w.heap.size ∧ x.V.mine k := by
  have hm := hi.mem.mem
  have hv := hi.mem.vis
  rcases h with ⟨n, hn⟩ | ⟨n, h1, h2⟩
  · exact ⟨(hm.mfr n k hn).1.resolve_left (by simp), (hm.mfr n k hn).2, (hv.m n k hn).2 (by simp)⟩
  · exact ⟨(hm.ofr n k h1 h2).1, (hm.ofr n k h1 h2).2, hv.o n k h1 h2⟩
theorem Rt.turn (hR : Rt x0 I0 M0 x1 M I1 os) {g : Gh} {s : St} {a : Act} {x : CW} {w' : World} (hi : Inv (Ek P nt df pn p x1 M I1) g s a x) (hB : BelowM x.w.heap.size (fun b => ∃ ob, (b, ob) ∈ os) x.w w') {os' : List (Nat × Obj)} {V' : Rig} (hV : V' = x.V.grow x.w.heap.size w'.heap.size)
    (ho : ∀ q ∈ os', w'.heap[q.1]? = some q.2 ∧ ((∃ ob, (q.1, ob) ∈ os) ∨ x.w.heap.size ≤ q.1)) : Rt x0 I0 M0 ⟨V', w'⟩ (Ob g) g.I os' ∧ Inv (Ek P nt df pn p ⟨V', w'⟩ (Ob g) g.I) g s a ⟨V', w'⟩ ∧ Goes g x.w g w' := by
  subst hV
  have hm := hi.mem.mem
  have hv := hi.mem.vis
  have hG := hR.grows
  have hsz := hR.below.size
  have hb := hR.inv hi
  have hbm := hb.mem.mem
  have hbv := hb.mem.vis
  have hbase : x1.w.heap.size ≤ x.w.heap.size := hm.base
  have hOb := fun k h => ob_new hi (k := k) h
  have hlt : ∀ q ∈ os, q.1 < x1.w.heap.size := fun q hq => (Array.getElem?_eq_some_iff.1 (hR.obs q hq).1).1
  have nOb : ∀ k ob, (k, ob) ∈ os → ¬ Ob g k := fun k ob h hO => by
    have h1 := hlt _ h
    have h2 := (hR.obs _ h).2.2.2
    rcases (hOb k hO).1 with h3 | h3 | h3
    · simp only at h1; omega
    · exact h2.1 h3
    · exact h3 (hG.rig.sub _ h2.2)
  have nI : ∀ k ob, (k, ob) ∈ os → ∀ o, ¬ g.I k o := fun k ob h o hI => by
    have h1 := hlt _ h
    have h2 := (hR.obs _ h).2
    rcases hm.inew k o hI with h3 | h3 | h3 | h3
    · exact h2.1 o h3
    · simp only at h1 h3; omega
    · exact h2.2.2.1 h3
    · exact h3 (hG.rig.sub _ h2.2.2.2)
  have same : ∀ k, k < x.w.heap.size → (∀ ob, (k, ob) ∉ os) → w'.heap[k]? = x.w.heap[k]? := fun k h1 h2 => hB.block k h1 fun ⟨ob, h⟩ => h2 ob h
  have sameO : ∀ k, Ob g k → w'.heap[k]? = x.w.heap[k]? := fun k h => same k (hOb k h).2.1 fun ob h2 => nOb k ob h2 h
  have keeps : Keeps g.I x.w w' := fun b o hI => World.cell?_of_block (a := ⟨b, o, none⟩) (same b (cell_lt (hm.cell b o hI)) fun ob h => nI b ob h o hI)
  have goes : Goes g x.w g w' := ⟨fun _ _ h => h, keeps, fun _ _ h => h, fun _ _ _ => rfl, fun n T e rows y hy =>
    ownRep_goes (g := g) (g' := g) (fun _ _ h => h) keeps (fun _ h => ⟨h, rfl⟩) (fun k c h1 h2 => sameO c (.inr ⟨k, h1, h2⟩)) (fun _ _ _ _ _ h => h) hy, fun n c _ _ hn hc => hc.same (sameO c (.inl ⟨n, hn⟩))⟩
  have rig : Rigged ⟨x.V.grow x.w.heap.size w'.heap.size, w'⟩ := ⟨fun b h => h.imp (hv.sub b) id, fun b h => h.elim (fun h1 => Nat.lt_of_lt_of_le (hv.lt b h1) hB.size) (·.2)⟩
  refine ⟨⟨hv.ext.trans hR.al, ⟨rig, fun b h => .inl (hbv.up b h), fun b h => .inl (hbv.upm b h), fun b h => h.elim (hbv.dn b) (fun h1 => .inr (Nat.le_trans hbm.base h1.1)), fun b h => h.elim (hbv.dnm b) (fun h1 => .inr (Nat.le_trans hbm.base h1.1)), hbv.ext⟩, ?_, fun k h => ?_, fun b o h => hm.iold b o (hR.old b o h), fun b o h => ?_, fun q hq => ?_⟩,
    ⟨⟨{ below := BelowM.refl _ _ _, base := Nat.le_refl _, cell := fun b o hI => by rw [keeps b o hI]; exact hm.cell b o hI, mfr := fun n b hn => ⟨.inr (.inr (.inl (.inl ⟨n, hn⟩))), Nat.lt_of_lt_of_le (hm.mfr n b hn).2 hB.size⟩, ofr := fun n b h1 h2 => ⟨.inr (.inl (.inr ⟨n, h1, h2⟩)), Nat.lt_of_lt_of_le (hm.ofr n b h1 h2).2 hB.size⟩,
         minj := hm.minj, oinj := hm.oinj, disj := hm.disj, blk := fun n cs hn => let ⟨b, arr, h1, h2, h3, h4⟩ := hm.blk n cs hn; ⟨b, arr, h1, (sameO b (.inl ⟨n, h1⟩)).trans h2, reps_goes goes h3, h4⟩, key := hm.key, own := hm.own, inew := fun _ _ h => .inl h, iold := fun _ _ h => h, pin := hm.pin },
       { I := fun b o h => .inl (hv.I b o h), m := fun n b h => ⟨.inl (hv.m n b h).1, fun hr => .inl ((hv.m n b h).2 hr)⟩, o := fun n b h1 h2 => .inl (hv.o n b h1 h2), sub := rig.sub, lt := rig.lt, up := fun _ h => h, upm := fun _ h => h, dn := fun _ h => .inl h, dnm := fun _ h => .inl h, nM := fun b h => Classical.not_not.1 fun h' => h (.inr h'), ext := rfl }⟩, fun t => rep_goes goes (hi.tm t), hi.de, hi.sz⟩, goes⟩
  · refine ⟨hB.os.trans hbm.below.os, hB.tape.trans hbm.below.tape, hB.output.trans hbm.below.output, Nat.le_trans hbm.below.size hB.size, fun k hk0 hM => (same k (Nat.lt_of_lt_of_le hk0 hbm.base) fun ob h => ?_).trans (hbm.below.block k hk0 hM)⟩
    rcases (hR.obs _ h).2.2.1 with h1 | h1
    · simp only at h1; omega
    · exact hM (.inl h1)
  · rcases (hOb k h).1 with h1 | h1 | h1
    · exact .inl (Nat.le_trans hsz h1)
    · exact hR.Mn k h1
    · exact (hv.dnm k (hOb k h).2.2).elim (fun h2 => absurd (hG.rig.sub _ h2) h1) (fun h2 => .inl (Nat.le_trans hsz h2))
  · rcases hm.inew b o h with h1 | h1 | h1 | h1
    · exact hR.new b o h1
    · exact .inr (.inl (Nat.le_trans hsz h1))
    · exact .inr (hR.Mn b h1)
    · exact (hv.dn b (hv.I b o h)).elim (fun h2 => absurd h2 h1) (fun h2 => .inr (.inl (Nat.le_trans hsz h2)))
  · obtain ⟨h1, h3⟩ := ho q hq
    rcases h3 with ⟨ob, h⟩ | h
    · exact ⟨h1, nI _ ob h, (hR.obs _ h).2.2.1, nOb _ ob h, .inl (hv.upm _ (hR.obs _ h).2.2.2.2)⟩
    · refine ⟨h1, fun o hI => ?_, .inl (Nat.le_trans hbm.base h), fun hO => ?_, .inr ⟨h, (Array.getElem?_eq_some_iff.1 h1).1⟩⟩
      · have := cell_lt (hm.cell _ o hI); omega
      · have := (hOb _ hO).2.1; omega
end
section
variable {P : Program} {nt : Nat} {df : List Deferred} {pn : List Nat} {p : Nat → Nat → Nat → Prop} {x0 x1 : CW} {I0 I1 : Nat → Nat → Prop} {M0 M : Nat → Prop} {os : List (Nat × Obj)} {K : KL P} {c : Code}
theorem below_grown {w w' : World} {row : Option Nat} {os : List (Nat × Obj)} (hg : w.grownBy w' row) (hr : ∀ r, row = some r → ∃ ob, (r, ob) ∈ os) : BelowM w.heap.size (fun b => ∃ ob, (b, ob) ∈ os) w w' :=
  ⟨hg.os, hg.tape, hg.output, hg.size, fun k hk hM => hg.block k hk fun e => hM (hr k e.symm)⟩
def EvO (os : List (Nat × Obj)) (es : Array Event) : Prop := ∀ e ∈ es, ∃ (r : Nat) (wr : Bool), e = ⟨.obj r, wr, false⟩ ∧ ∃ ob, (r, ob) ∈ os
theorem Rt.guar (hR : Rt x0 I0 M0 x1 M I1 os) {g : Gh} {s : St} {a : Act} {x : CW} {w' : World} {row : Option Nat} {es : Array Event} (hi : Inv (Ek P nt df pn p x1 M I1) g s a x) (hg : x.w.grownBy w' row) (hr : ∀ r, row = some r → ∃ ob, (r, ob) ∈ os) (he : EvO os es) : Guar x.V x.w w' es := by
  have hh := hR.here hi
  refine Guar.of hg.os hg.tape hg.output hg.size (fun b hb hn => hg.block b hb fun e => ?_) fun e h => ?_
  · obtain ⟨ob, h⟩ := hr b e.symm
    exact hn (hh _ h).2.1
  · obtain ⟨r, wr, rfl, ob, h1⟩ := he e h
    exact .inr (.inr ⟨hi.mem.vis.ext.trans hR.al, r, wr, rfl, .inl (hh _ h1).2.1⟩)
theorem WLK_obj {ops : Array Oper} {o : Oper} {rest : List Oper} {tm : List (Nat × AV)} {bl : List (Nat × List AV)} {ow : List Nat} (hR : Rt x0 I0 M0 x1 M I1 os) (hg : o.guard = none) (hd : dstB nt o = true)
    (h : ∀ (ρ : Operand → Value) (w : World), (∀ y v, ev tm y = .v v → ρ y = v) → (∀ q ∈ os, w.heap[q.1]? = some q.2) → ∃ (y : Value) (w' : World) (row : Option Nat) (os' : List (Nat × Obj)), ((execOp ρ o).run P w = .ok (.value y) w' ∨ ((execOp ρ o).run P w = .ok .skip w' ∧ y = undef)) ∧ EvO os ((execOp ρ o).events P w #[]) ∧ w.grownBy w' row ∧ (∀ r, row = some r → ∃ ob, (r, ob) ∈ os) ∧
      (∀ q ∈ os', w'.heap[q.1]? = some q.2 ∧ ((∃ ob, (q.1, ob) ∈ os) ∨ w.heap.size ≤ q.1)) ∧
      ∀ (V' : Rig) (M' : Nat → Prop) (I' : Nat → Nat → Prop), Rt x0 I0 M0 ⟨V', w'⟩ M' I' os' → WLK (Ek P nt df pn p ⟨V', w'⟩ M' I') ops rest K ((⟨tm, bl, ow⟩ : St).app o.dst (.v y) [] [])) : WLK (Ek P nt df pn p x1 M I1) ops (o :: rest) K ⟨tm, bl, ow⟩ := by
  intro L g a x hi0
  unfold wpListV
  rw [show Region.wanted o (yielded ops a.tmps) = true by simp [Region.wanted, hg], if_pos rfl]
  intro w₁ r
  have hi := hi0.rely r
  have hh := hR.here hi
  obtain ⟨y, w', row, os', hrun, k0, k1, k2, k3, k4⟩ := h a.eval w₁ (fun x v hx => by
    have h1 := rep_ev hi.tm x
    rw [hx] at h1
    simpa only [rep] using h1) (fun q hq => (hh q hq).1)
  have hgu := hR.guar hi k1 k2 k0
  obtain ⟨hR', hi', go⟩ := hR.turn (x := ⟨x.V, w₁⟩) (os' := os') hi (below_grown k1 k2) rfl (fun q hq => k3 q hq)
  have fin := k4 _ _ _ hR' L g (a.put o.dst y) _ (hi'.app (nb := []) (no := []) (dstB_spec hd) (Goes.refl _ _) hi'.mem (by simp [rep]))
  rcases hrun with hrun | ⟨hrun, hu⟩
  · rw [hrun]; exact ⟨hgu, fin⟩
  · rw [hrun]; subst hu; exact ⟨hgu, fin⟩
def nextO (P : Program) (nt : Nat) (df : List Deferred) (pn : List Nat) (p : Nat → Nat → Nat → Prop) (x0 : CW) (I0 : Nat → Nat → Prop) (M0 : Nat → Prop) {ι : Type} (J : ι → Prop) (μ : ι → Nat) (X : ι → St) (osf : ι → List (Nat × Obj)) (i : ι) (K : KL P) : KL P
  | _, .normal, a, x => ∃ j, J j ∧ μ j < μ i ∧ ∃ x1 M I1 g, Rt x0 I0 M0 x1 M I1 (osf j) ∧ Inv (Ek P nt df pn p x1 M I1) g (X j) a x
  | L, e, a, x => K L e a x
theorem WK_loopO {ι : Type} (J : ι → Prop) (μ : ι → Nat) (X : ι → St) (osf : ι → List (Nat × Obj)) (i0 : ι) {s : St} (hR : Rt x0 I0 M0 x1 M I1 (osf i0)) (hJ : J i0) (h0 : Weak (Ek P nt df pn p x1 M I1) s (X i0))
    (round : ∀ i, J i → ∀ x1 M I1, Rt x0 I0 M0 x1 M I1 (osf i) → WK (Ek P nt df pn p x1 M I1) c (nextO P nt df pn p x0 I0 M0 J μ X osf i K) (X i)) : WK (Ek P nt df pn p x1 M I1) (.loop c) K s := by
  intro L g a x hi
  obtain ⟨g', hi'⟩ := h0 g a x hi
  refine wpV_loop (fun n a x => ∃ i, J i ∧ μ i = n ∧ ∃ x1 M I1 g, Rt x0 I0 M0 x1 M I1 (osf i) ∧ Inv (Ek P nt df pn p x1 M I1) g (X i) a x) ?_ ⟨i0, hJ, rfl, x1, M, I1, g', hR, hi'⟩
  rintro n a x ⟨i, hj, rfl, x1, M, I1, g, hR, hi⟩
  refine wpV_mono (round i hj x1 M I1 hR L g a x hi) fun e a' x' hq => ?_
  cases e with
  | normal =>
    obtain ⟨j, h1, h2, h3⟩ := hq
    exact ⟨μ j, h2, j, h1, rfl, h3⟩
  | _ => exact hq
theorem kQ_next {ι : Type} {J : ι → Prop} {μ : ι → Nat} {X : ι → St} {osf : ι → List (Nat × Obj)} {i : ι} {s : St} (j : ι) (hJ : J j) (hlt : μ j < μ i) (hR : Rt x0 I0 M0 x1 M I1 os) (ho : os = osf j) (hw : Weak (Ek P nt df pn p x1 M I1) s (X j)) : kQ (Ek P nt df pn p x1 M I1) (nextO P nt df pn p x0 I0 M0 J μ X osf i K) .normal s := fun L g a x hi => by
  subst ho
  obtain ⟨g', hi'⟩ := hw g a x hi
  exact ⟨j, hJ, hlt, x1, M, I1, g', hR, hi'⟩
theorem kQ_nextE {ι : Type} {J : ι → Prop} {μ : ι → Nat} {X : ι → St} {osf : ι → List (Nat × Obj)} {i : ι} {s : St} {id : Nat} (h : kQ (Ek P nt df pn p x1 M I1) K (.exit id) s) : kQ (Ek P nt df pn p x1 M I1) (nextO P nt df pn p x0 I0 M0 J μ X osf i K) (.exit id) s := h
theorem WK_unk (hR : Rt x0 I0 M0 x1 M I1 os) {s : St} (h : WK (Ek P nt df pn p x0 M0 I0) c K s) : WK (Ek P nt df pn p x1 M I1) c K s := fun L g a w hi => h L g a w (hR.inv hi)
end
abbrev E0 (P : Program) (nt : Nat) (df : List Deferred) (x0 : CW) (I0 : Nat → Nat → Prop) : En := Ek P nt df [] (fun _ _ _ => False) x0 (fun _ => False) I0
def retP (I0 : Nat → Nat → Prop) (x0 : CW) (R : AV → Prop) : Value → CW → Prop := fun y x' => ∃ r g', R r ∧ rep g' x'.w r y ∧ Ret I0 x0 g' x'
def markK (P : Program) (fn : Func) (I0 : Nat → Nat → Prop) (x0 : CW) (R : AV → Prop) : KL P := fun L => bodyPostV L fn (retP I0 x0 R)
theorem out_of {P : Program} {nt : Nat} {pn : List Nat} {p : Nat → Nat → Nat → Prop} {x0 : CW} {I0 : Nat → Nat → Prop} {fn : Func} {R : AV → Prop} {g : Gh} {s : St} {a : Act} {x : CW} (hi : Inv (Ek P nt [] pn p x0 (fun _ => False) I0) g s a x) {xs : List AV} (h1 : resA P s fn.results.toList xs) (h2 : R (oneA xs)) (h3 : refs [] s.ow (oneA xs) = true) : outV (P := P) fn (retP I0 x0 R) a x := by
  refine ⟨hi.de, fun w₁ r => ?_⟩
  have hi := hi.rely r
  obtain ⟨y, k1, k2, k3⟩ := run_results hi h1
  let g2 : Gh := { g with m := fun _ => none }
  refine ⟨y, k1, fun e he => ?_, oneA xs, g2, h2, rep_refs (g := g) (g' := g2) rfl (fun n b hn => by simp at hn) rfl (fun n _ h => ⟨h, rfl⟩) h3 k2, ?_⟩
  · rcases k3 e he with ⟨a, rfl, ha⟩ | hk
    · exact .inl ⟨a, false, rfl, .inl ⟨seen_vis hi.mem.vis ha, fun h => by cases h⟩⟩
    · exact .inr (.inl hk)
  · have hm := hi.mem.mem
    have hv := hi.mem.vis
    have nM : ∀ b, x.V.vis b → (¬ x0.V.vis b) → x0.w.heap.size ≤ b := fun b h1 h2 => (hv.dn b h1).resolve_left h2
    have hb := hm.below
    exact ⟨⟨hb.os, hb.tape, hb.output, hb.size, fun k hk hM => hb.block k hk (fun h => h.elim id hM)⟩, hm.iold, fun b o h => (hm.inew b o h).imp id (fun h' => h'.elim id (fun h' => h'.elim (fun h => h.elim) (nM b (hv.I b o h)))), hm.cell, fun n b h1 h2 => ⟨(hm.ofr n b h1 h2).1.elim id (fun h' => h'.elim (fun h => h.elim) (nM b (hv.sub b (hv.o n b h1 h2)))), (hm.ofr n b h1 h2).2⟩, hm.oinj,
      ⟨⟨hv.sub, hv.lt⟩, hv.up, hv.upm, hv.dn, hv.dnm, hv.ext⟩, hv.I, hv.o⟩
section
variable {P : Program} {nt : Nat} {pn : List Nat} {p : Nat → Nat → Nat → Prop} {x0 x1 : CW} {I0 I1 : Nat → Nat → Prop} {M : Nat → Prop} {os : List (Nat × Obj)} {fn : Func} {rs : Array ResultVar} {R : AV → Prop} {s : St}
theorem kQ_mark (hR : Rt x0 I0 (fun _ => False) x1 M I1 os) (hrs : fn.results = rs) {e : Exit} (he : e = .normal ∨ e = .ret) (h : retQ (Ek P nt [] pn p x1 M I1) rs.toList R .ret s) : kQ (Ek P nt [] pn p x1 M I1) (markK P fn I0 x0 R) e s := fun L g a x hi => by
  subst hrs
  obtain ⟨s1, hw, xs, h1, h2, h3⟩ := h
  obtain ⟨g1, hi1⟩ := hw g a x hi
  have := out_of (fn := fn) (R := R) (hR.inv hi1) h1 h2 h3
  rcases he with rfl | rfl <;> exact Or.inl this
theorem kQ_take {D : Nat} (hR : Rt x0 I0 (fun _ => False) x1 M I1 os) (hD : (D, .deferred (some [])) ∈ os) (hrs : fn.results = rs) {e : Exit} (he : e = .normal ∨ e = .ret) (h : retQ (Ek P nt (markD D) pn p x1 M I1) rs.toList R .ret s) : kQ (Ek P nt (markD D) pn p x1 M I1) (markK P fn I0 x0 R) e s := fun L g a x hi => by
  subst hrs
  obtain ⟨s1, hw, xs, h1, h2, h3⟩ := h
  obtain ⟨g1, hi1⟩ := hw g a x hi
  have : takeV (P := P) fn (retP I0 x0 R) a x := by
    obtain ⟨_, k2, _⟩ := hR.here hi1 _ hD
    refine ⟨D, hi1.de, hi1.mem.vis.ext.trans hR.al, k2, fun w₁ r => ?_⟩
    have hi2 := hi1.rely r
    have k1 := (hR.here hi2 _ hD).1
    have hg : w₁.grownBy (w₁.putObj D (.deferred none)) (some D) := ⟨rfl, rfl, rfl, by simp, fun k _ hk => World.putObj_heap_other fun e => hk (by rw [e])⟩
    obtain ⟨hR', hi', _⟩ := hR.turn (x := ⟨x.V, w₁⟩) (os' := []) (V' := x.V) hi2 (below_grown hg (fun r h => by cases h; exact ⟨_, hD⟩)) (by simp [Rig.grow_self]) (fun q hq => by cases hq)
    have hi3 : Inv (Ek P nt [] pn p ⟨x.V, w₁.putObj D (.deferred none)⟩ (Ob g1) g1.I) g1 s1 { a with defers := [] } ⟨x.V, w₁.putObj D (.deferred none)⟩ :=
      ⟨⟨⟨hi'.mem.mem.below, hi'.mem.mem.base, hi'.mem.mem.cell, hi'.mem.mem.mfr, hi'.mem.mem.ofr, hi'.mem.mem.minj, hi'.mem.mem.oinj, hi'.mem.mem.disj, hi'.mem.mem.blk, hi'.mem.mem.key, hi'.mem.mem.own, hi'.mem.mem.inew, hi'.mem.mem.iold, hi'.mem.mem.pin⟩,
        ⟨hi'.mem.vis.I, hi'.mem.vis.m, hi'.mem.vis.o, hi'.mem.vis.sub, hi'.mem.vis.lt, hi'.mem.vis.up, hi'.mem.vis.upm, hi'.mem.vis.dn, hi'.mem.vis.dnm, hi'.mem.vis.nM, hi'.mem.vis.ext⟩⟩, hi'.tm, rfl, hi'.sz⟩
    exact ⟨k1, out_of (fn := fn) (R := R) (hR'.inv hi3) h1 h2 h3⟩
  rcases he with rfl | rfl <;> exact Or.inr this
end
theorem callOkA_of_WK {P : Program} {f nt : Nat} {fn : Func} {rs : Array ResultVar} {c : Code} {args : List AV} {tm : List (Nat × AV)} {R : AV → Prop} (hf : P.funcs[f]? = some fn) (hnt : fn.ntmps = nt) (hrs : fn.results = rs) (hb : fn.body = some c) (hn : Nat.ble args.length nt = true) (htm : iniO 0 args = some tm)
    (h : ∀ (x0 : CW) (I0 : Nat → Nat → Prop) (fn : Func), fn.results = rs → Rt x0 I0 (fun _ => False) x0 (fun _ => False) I0 [] → WK (E0 P nt [] x0 I0) c (markK P fn I0 x0 R) ⟨tm, [], []⟩) : CallOkA P f args R := by
  subst hnt
  have htm' := iniO_eq htm
  have hn' := Nat.le_of_ble_eq_true hn
  intro L I x vals hal hI hx hargs
  let g : Gh := ⟨I, fun _ => none, fun _ => none, fun _ => False, fun _ => 0⟩
  have hlen := dreps_length hargs
  have hargs' : reps g x.w args vals.toList := reps_of_dreps hargs
  have hi0 : Inv (E0 P fn.ntmps [] x I) g ⟨tm, [], []⟩ { tmps := vals ++ Array.replicate (fn.ntmps - vals.size) undef, defers := [] } x := by
    refine ⟨⟨⟨BelowM.refl _ _ _, Nat.le_refl _, fun b o h => (hI b o h).1, fun n b h => by simp [g] at h, fun n b h => by simp [g] at h, fun n n' b h => by simp [g] at h, fun n n' b h => by simp [g] at h, fun n n' b h => by simp [g] at h,
      fun n cs h => by simp at h, fun n b h => by simp [g] at h, fun n h => by simp [g] at h, fun b o h => .inl h, fun b o h => h, fun n b T h => h.2.elim⟩,
      ⟨fun b o h => (hI b o h).2, fun n b h => by simp [g] at h, fun n b h => by simp [g] at h, hx.sub, hx.lt, fun _ h => h, fun _ h => h, fun _ h => .inl h, fun _ h => .inl h, fun b h => Classical.not_not.1 fun h' => h (.inr h'), rfl⟩⟩, fun t => ?_, rfl, ?_⟩
    · rw [← htm']
      simp only [look_zip, Nat.zero_le, if_true, Nat.sub_zero]
      rcases Nat.lt_or_ge t args.length with h1 | h1
      · obtain ⟨y, hy, hr⟩ := reps_get hargs' (List.getElem?_eq_getElem h1)
        have : t < vals.size := by simpa [← hlen] using h1
        have hy' : vals[t] = y := by simpa [this] using hy
        simp only [List.getD_eq_getElem?_getD, List.getElem?_eq_getElem h1, Option.getD_some]
        simp only [Array.getD_eq_getD_getElem?, Array.getElem?_append_left this, Array.getElem?_eq_getElem this, Option.getD_some, hy']
        exact hr
      · simp only [List.getD_eq_getElem?_getD, List.getElem?_eq_none h1, Option.getD_none, rep]
    · have : vals.size = args.length := by simpa using hlen
      show (vals ++ Array.replicate (fn.ntmps - vals.size) undef).size = fn.ntmps
      simp; omega
  exact ⟨fn, c, hf, hb, wpV_mono (h x I fn hrs (Rt.start hal hx I) L g _ x hi0) fun e a' x' hq => hq⟩
end Go.Eng

namespace Go.Eng
open Go Go.Conc Go.RowKit

theorem grownBy_putObj' (w : World) (l : Nat) (o : Obj) : w.grownBy (w.putObj l o) (some l) := ⟨rfl, rfl, rfl, by simp, fun k _ hk => World.putObj_heap_other fun e => hk (by rw [e])⟩
theorem grownBy_put_drew {w w1 : World} (h : w1 = w ∨ w1 = w.drew) (l : Nat) (o : Obj) : w.grownBy (w1.putObj l o) (some l) := by
  rcases h with rfl | rfl
  · exact grownBy_putObj' _ l o
  · have h := grownBy_putObj' w.drew l o
    exact ⟨h.os, h.tape, h.output, h.size, h.block⟩
theorem heap_dr {w w1 : World} (h : w1 = w ∨ w1 = w.drew) : w1.heap = w.heap := by rcases h with rfl | rfl <;> rfl
theorem findNow_none {q : IntKind} {a : Int} : ∀ (es : List MapEntry) (i : Nat), (∀ x ∈ es, ∃ b : Int, x.key = .int q b ∧ a ≠ b) → Instr.findNow (.int q) (.int q a) es i = some none
  | [], _, _ => rfl
  | x :: es, i, h => by
    obtain ⟨b, h1, h2⟩ := h x (by simp)
    have e : (a == b) = false := by simpa using h2
    simp only [Instr.findNow, h1, Instr.sameNow, if_true, e]
    exact findNow_none es (i + 1) (fun y hy => h y (by simp [hy]))
theorem run_mapUpdate_new {P : Program} {w : World} {t k e : TypeId} {q : IntKind} {bm clock : Nat} {es : Array MapEntry} {a : Int} {v : Value} (ht : P.underlying t = some (.map k e)) (hk : P.underlying k = some (.int q)) (hb : w.heap[bm]? = some (.map es clock)) (hn : ∀ x ∈ es.toList, ∃ b : Int, x.key = .int q b ∧ a ≠ b) :
    (Instr.mapUpdate t (.map (some bm)) (.int q a) v).run P w = .ok () (w.putObj bm (.map (es.push { key := .int q a, val := v, born := clock }) (clock + 1))) := by
  have h1 : ∀ k', (Instr.checkKey false (k' + 1) k (.int q a)).run P w = .ok () w := fun k' => by simp [Instr.checkKey, run_underlying hk]
  have h2 := h1 9999
  simp only [Instr.mapUpdate, Sem.run_bind, run_underlying ht, Result.andThen_ok, MapKept.run_getObj_map hb, h2, Instr.findKey, run_underlying hk, findNow_none es.toList 0 hn, Sem.run_pure]
  simp only [setObj, Sem.run, hb]
  rfl
theorem run_rangeG {P : Program} {w : World} {t k e : TypeId} {bm clock : Nat} {es : Array MapEntry} (ht : P.underlying t = some (.map k e)) (hb : w.heap[bm]? = some (.map es clock)) : (Instr.range t (.map (some bm))).run P w = .ok (.pointer (some ⟨w.heap.size, 0, none⟩)) (w.alloc (.mapIter (some bm) clock #[] clock)) := run_range_map w t k e bm es clock ht hb
theorem run_nextG {P : Program} (w : World) (ty : TypeId) (bi bm since c0 : Nat) (seen : Array Nat) (es : Array MapEntry) (clock : Nat) (hi : w.heap[bi]? = some (.mapIter (some bm) since seen c0)) (hb : w.heap[bm]? = some (.map es clock)) (hold : ∀ x ∈ es.toList, x.born < since) (hsc : since ≤ c0) :
    ((leftOf es seen).size = 0 ∧ (Instr.next (.pointer (some ⟨bi, 0, none⟩)) false ty).run P w = .ok (.tuple #[.bool false]) w) ∨
    ∃ e ∈ (leftOf es seen).toList, ∃ w1 : World, (w1 = w ∨ w1 = w.drew) ∧ (Instr.next (.pointer (some ⟨bi, 0, none⟩)) false ty).run P w = .ok (.tuple #[.bool true, e.key, e.val]) (w1.putObj bi (.mapIter (some bm) since (seen.push e.born) clock)) := by
  simp only [Instr.next, getObj, Sem.run_bind, Sem.run, hi, hb, Result.andThen, next_test_false seen es since c0 hold hsc, Bool.false_eq_true, if_false]
  unfold leftOf
  have hmem : ∀ x ∈ (Array.filter (fun e => !seen.contains e.born) es).toList, x.born < since := fun x hx => hold x (by simp at hx ⊢; exact hx.1)
  generalize Array.filter (fun e => !seen.contains e.born) es = L at hmem ⊢
  have e1 : L.filter (fun x => decide (x.born < since)) = L := Array.filter_eq_self.2 (fun x hx => by simpa using hmem x (by simpa using hx))
  have e2 : L.filter (fun x => decide (x.born ≥ since)) = #[] := by
    rw [Array.filter_eq_empty_iff]
    intro x hx
    have := hmem x (by simpa using hx)
    simp
    omega
  simp only [e1, e2, Array.append_empty]
  by_cases h0 : L.size = 0
  · left
    have : L = #[] := Array.eq_empty_of_size_eq_zero h0
    subst this
    refine ⟨rfl, ?_⟩
    simp [choose, Sem.run, Question.forced]
  · right
    have hne : L.isEmpty = false := by simp [Array.isEmpty, h0]
    simp only [hne, Bool.false_eq_true, if_false, Array.empty_append, Array.size_map]
    have hch : ∃ (j : Nat) (w1 : World), j < L.size ∧ (w1 = w ∨ w1 = w.drew) ∧ (choose (Question.mapNext L.size)).run P w = .ok j w1 := by
      by_cases hf : L.size ≤ 1
      · exact ⟨0, w, by omega, .inl rfl, by simp [choose, Sem.run, Question.forced, hf]⟩
      · exact ⟨_, w.drew, Nat.mod_lt _ (by omega), .inr rfl, by
          simp only [choose, Sem.run, Question.forced, decide_eq_true_eq, hf, if_false, Question.cut]
          rfl⟩
    obtain ⟨j, w1, hj, hal, hrun⟩ := hch
    refine ⟨L[j], by simp, w1, hal, ?_⟩
    have hi1 : w1.heap[bi]? = some (.mapIter (some bm) since seen c0) := by rw [heap_dr hal]; exact hi
    simp only [hrun, Array.getElem?_map, Array.getElem?_eq_getElem hj, Option.map_some, setObj, Sem.run_bind, Sem.run, hi1, Result.andThen]
    rfl
theorem run_entryG {P : Program} {w : World} {bi bm since : Nat} {seen : Array Nat} {es : Array MapEntry} {clock : Nat} {e : MapEntry} (hi : w.heap[bi]? = some (.mapIter (some bm) since (seen.push e.born) clock)) (hb : w.heap[bm]? = some (.map es clock)) (he : e ∈ es.toList) (hn : (es.toList.map (·.born)).Nodup) :
    (Instr.entry (.pointer (some ⟨bi, 0, none⟩))).run P w = .ok (.tuple #[e.key, e.val]) w := by
  have hf : es.find? (·.born == e.born) = some e := by rw [← Array.find?_toList]; exact find_born e es.toList hn he
  simp only [Instr.entry, getObj, Sem.run_bind, Sem.run, hi, hb, Result.andThen, Array.back?_push, bne_self_eq_false, Bool.false_eq_true, if_false, hf]
  rfl

section
variable {P : Program} {w : World}
theorem events_get {r : Nat} {o : Obj} {es : Array Event} (h : w.heap[r]? = some o) (hc : o.isChan = false) (hn : ∀ c e f, o ≠ .cells c e f) : (getObj r).events P w es = es.push ⟨.obj r, false, false⟩ := by
  simp only [getObj, Sem.events, Sem.runT, h, hc]
theorem events_set {r : Nat} {o : Obj} (o' : Obj) {es : Array Event} (h : w.heap[r]? = some o) (hc : o'.isChan = false) (hn : ∀ c e f, o ≠ .cells c e f) : (setObj r o').events P w es = es.push ⟨.obj r, true, false⟩ := by
  simp only [setObj, Sem.events, Sem.runT, h, hc]
theorem ev_mapUpdate_new {t k e : TypeId} {q : IntKind} {bm clock : Nat} {es : Array MapEntry} {a : Int} {v : Value} (ht : P.underlying t = some (.map k e)) (hk : P.underlying k = some (.int q)) (hb : w.heap[bm]? = some (.map es clock)) (hn : ∀ x ∈ es.toList, ∃ b : Int, x.key = .int q b ∧ a ≠ b) :
    (Instr.mapUpdate t (.map (some bm)) (.int q a) v).events P w #[] = #[⟨.obj bm, false, false⟩, ⟨.obj bm, true, false⟩] := by
  have h1 : ∀ k', (Instr.checkKey false (k' + 1) k (.int q a)).run P w = .ok () w := fun k' => by simp [Instr.checkKey, run_underlying hk]
  have h3 : ∀ k' es, (Instr.checkKey false (k' + 1) k (.int q a)).events P w es = es := fun k' es => by simp [Instr.checkKey, run_underlying hk]
  have h2 := h1 9999
  have h4 := h3 9999
  simp only [Instr.mapUpdate, Sem.events_bind, Sem.run_bind, run_underlying ht, events_underlying, Result.andThen_ok, Result.evThen_ok, MapKept.run_getObj_map hb, events_get hb rfl (by intros; simp), h2, h4, Instr.findKey, run_underlying hk, findNow_none es.toList 0 hn, Sem.run_pure, Sem.events_pure]
  rw [events_set _ hb rfl (by intros; simp)]
  rfl
theorem ev_rangeG {t k e : TypeId} {bm clock : Nat} {es : Array MapEntry} (ht : P.underlying t = some (.map k e)) (hb : w.heap[bm]? = some (.map es clock)) : (Instr.range t (.map (some bm))).events P w #[] = #[⟨.obj bm, false, false⟩] := by
  simp only [Instr.range, Sem.events_bind, run_underlying ht, events_underlying, Result.evThen_ok, MapKept.run_getObj_map hb, events_get hb rfl (by intros; simp), Sem.run_pure, Sem.events_pure, events_newObj]
  simp [newObj, Sem.run]
theorem ev_entryG {bi bm since : Nat} {seen : Array Nat} {es : Array MapEntry} {clock : Nat} {e : MapEntry} (hi : w.heap[bi]? = some (.mapIter (some bm) since (seen.push e.born) clock)) (hb : w.heap[bm]? = some (.map es clock)) (he : e ∈ es.toList) (hn : (es.toList.map (·.born)).Nodup) :
    (Instr.entry (.pointer (some ⟨bi, 0, none⟩))).events P w #[] = #[⟨.obj bi, false, false⟩, ⟨.obj bm, false, false⟩] := by
  have hf : es.find? (·.born == e.born) = some e := by rw [← Array.find?_toList]; exact find_born e es.toList hn he
  have g1 : (getObj bi).run P w = .ok (.mapIter (some bm) since (seen.push e.born) clock) w := by simp [getObj, Sem.run, hi]
  have g2 : (getObj bm).run P w = .ok (.map es clock) w := by simp [getObj, Sem.run, hb]
  simp only [Instr.entry, Sem.events_bind, g1, g2, events_get hi rfl (by intros; simp), events_get hb rfl (by intros; simp), Result.evThen_ok, Array.back?_push, bne_self_eq_false, Bool.false_eq_true, if_false, hf, Sem.events_pure]
  rfl
theorem ev_nextG (ty : TypeId) (bi bm since c0 : Nat) (seen : Array Nat) (es : Array MapEntry) (clock : Nat) (hi : w.heap[bi]? = some (.mapIter (some bm) since seen c0)) (hb : w.heap[bm]? = some (.map es clock)) (hold : ∀ x ∈ es.toList, x.born < since) (hsc : since ≤ c0) :
    ∀ e ∈ (Instr.next (.pointer (some ⟨bi, 0, none⟩)) false ty).events P w #[], e = ⟨.obj bi, false, false⟩ ∨ e = ⟨.obj bm, false, false⟩ ∨ e = ⟨.obj bi, true, false⟩ := by
  have g1 : (getObj bi).run P w = .ok (.mapIter (some bm) since seen c0) w := by simp [getObj, Sem.run, hi]
  have g2 : (getObj bm).run P w = .ok (.map es clock) w := by simp [getObj, Sem.run, hb]
  simp only [Instr.next, Sem.events_bind, g1, g2, events_get hi rfl (by intros; simp), events_get hb rfl (by intros; simp), Result.evThen_ok, next_test_false seen es since c0 hold hsc, Bool.false_eq_true, if_false]
  have hmem : ∀ x ∈ (Array.filter (fun e => !seen.contains e.born) es).toList, x.born < since := fun x hx => hold x (by simp at hx ⊢; exact hx.1)
  generalize Array.filter (fun e => !seen.contains e.born) es = L at hmem ⊢
  have e1 : L.filter (fun x => decide (x.born < since)) = L := Array.filter_eq_self.2 (fun x hx => by simpa using hmem x (by simpa using hx))
  have e2 : L.filter (fun x => decide (x.born ≥ since)) = #[] := by
    rw [Array.filter_eq_empty_iff]
    intro x hx
    have := hmem x (by simpa using hx)
    simp
    omega
  simp only [e1, e2, Array.append_empty]
  by_cases h0 : L.size = 0
  · have : L = #[] := Array.eq_empty_of_size_eq_zero h0
    subst this
    intro e he
    simp [Question.forced] at he
    rcases he with h | h <;> simp [h]
  · have hne : L.isEmpty = false := by simp [Array.isEmpty, h0]
    simp only [hne, Bool.false_eq_true, if_false, Array.empty_append, Array.size_map]
    have hch : ∃ (j : Nat) (w1 : World), j < L.size ∧ (w1 = w ∨ w1 = w.drew) ∧ (choose (Question.mapNext L.size)).run P w = .ok j w1 := by
      by_cases hf : L.size ≤ 1
      · exact ⟨0, w, by omega, .inl rfl, by simp [choose, Sem.run, Question.forced, hf]⟩
      · exact ⟨_, w.drew, Nat.mod_lt _ (by omega), .inr rfl, by
          simp only [choose, Sem.run, Question.forced, decide_eq_true_eq, hf, if_false, Question.cut]
          rfl⟩
    obtain ⟨j, w1, hj, hal, hrun⟩ := hch
    have hi1 : w1.heap[bi]? = some (.mapIter (some bm) since seen c0) := by rw [heap_dr hal]; exact hi
    have s1 : ∀ o, (setObj bi o).run P w1 = .ok () (w1.putObj bi o) := fun o => by simp only [setObj, Sem.run, hi1]; rfl
    simp only [events_choose, hrun, Result.evThen_ok, Array.getElem?_map, Array.getElem?_eq_getElem hj, Option.map_some, Sem.events_bind, events_set (.mapIter (some bm) since (seen.push L[j].born) clock) hi1 rfl (by intros; simp), s1, Sem.events_pure]
    intro e he
    simp at he
    rcases he with h | h | h <;> simp [h]
end
section
variable {E : En} {bl : List (Nat × List AV)} {tm : List (Nat × AV)} {d : Option Tmp} {ty : TypeId} {pos : String} {af : Array Edge} {gd : Option (Nat × Bool)}
theorem QV_extractV {x : Operand} {xs : Array Value} {i : Nat} {v : Value} (hx : ev tm x = .v (.tuple xs)) (h : xs[i]? = some v) : QV E bl tm ⟨d, .extract x i, ty, pos, af, gd⟩ (.v v) [] [] :=
  QV_pure fun g w ρ hop => by
    have h1 := hop x (by simp [Op.operands])
    rw [hx] at h1
    simp only [rep] at h1
    exact ⟨v, by simp [execOp, h1, Instr.extract, h], evR_of (by simp [execOp, h1, Instr.extract, h]), by simp [rep]⟩
end
theorem evO_of {os : List (Nat × Obj)} {es : Array Event} (h : ∀ e ∈ es, ∃ (r : Nat) (wr : Bool) (ob : Obj), e = ⟨.obj r, wr, false⟩ ∧ (r, ob) ∈ os) : EvO os es := fun e he => let ⟨r, wr, ob, h1, h2⟩ := h e he; ⟨r, wr, h1, ob, h2⟩
theorem evO_two {os : List (Nat × Obj)} {r : Nat} {o : Obj} (h : (r, o) ∈ os) : EvO os #[⟨.obj r, false, false⟩, ⟨.obj r, true, false⟩] := fun e he => by
  simp only [List.mem_toArray, List.mem_cons, List.not_mem_nil, or_false] at he
  rcases he with rfl | rfl
  · exact ⟨r, false, rfl, o, h⟩
  · exact ⟨r, true, rfl, o, h⟩
theorem grownBy_refl (w : World) : w.grownBy w none := ⟨rfl, rfl, rfl, Nat.le_refl _, fun _ _ _ => rfl⟩
end Go.Eng
