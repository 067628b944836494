/- My walking engine, part 12: abstract values of Go, and the rules of a walk over them. No program in sight. -/
import Derived.Test.YtkaffcdjhbaifaaGreatZ11
import Derived.Test.YtkaffcdjhbaifaaGreatZ10
import Derived.Laws.IdiomRangeMap
import Derived.LoopNIn
namespace Go.Eng
open Go Go.RowKit

theorem Oper.wpIn_monoQ {F : Fence} {n : Nat} {P : Program} {o : Oper} {a : Act} {w : World} {K K' : Act → World → Prop} {Q Q' : Exit → Act → World → Prop} (h : ∀ a w, K a w → K' a w) (hq : ∀ c a w, Q (.panic c) a w → Q' (.panic c) a w) (ho : LetsOut Q → LetsOut Q')
    (hh : o.wpIn F n P a w K Q) : o.wpIn F n P a w K' Q' := by
  unfold Oper.wpIn at *
  refine ⟨hh.1, ?_⟩
  have hh := hh.2
  generalize (o.semAt F.round a.eval).run P w = r at *
  cases r with
  | ok x w' =>
    cases x <;> simp only [Oper.uponIn] at hh ⊢ <;>
      first
        | exact h _ _ hh
        | exact ⟨hh.1, CallsIn.mono hh.2 (fun e w'' he => by cases e <;> first | exact h _ _ he | exact hq _ _ _ he | exact ho he)⟩
        | exact ⟨hh.1, RowsIn.mono hh.2 (fun _ _ he => h _ _ he)⟩
        | exact ⟨hh.1, RoundIn.mono hh.2 (fun e w'' he => by cases e <;> first | exact h _ _ he | exact hq _ _ _ he | exact ho he)⟩
  | halt x w' => cases x <;> simp only [Oper.uponIn] at hh ⊢ <;> first | exact hh | exact hq _ _ _ hh

theorem wpListIn_app {F : Fence} {n : Nat} {P : Program} {ops : Array Oper} {Q : Exit → Act → World → Prop} {l2 : List Oper} : ∀ {l1 : List Oper} {a : Act} {w : World},
    wpListIn F n P ops (Exit.then (wpListIn F n P ops Q l2) Q) l1 a w → wpListIn F n P ops Q (l1 ++ l2) a w
  | [], _, _, h => h
  | o :: l1, a, w, h => by
    rw [List.cons_append]
    unfold wpListIn at h ⊢
    split
    · rename_i hw
      rw [if_pos hw] at h
      exact Oper.wpIn_monoQ (fun a w h => wpListIn_app h) (fun _ _ _ h => h) (fun ⟨a, w, h⟩ => ⟨a, w, h⟩) h
    · rename_i hw
      rw [if_neg hw] at h
      exact ⟨h.1, wpListIn_app h.2⟩
theorem wpListIn_mono {F : Fence} {n : Nat} {P : Program} {ops : Array Oper} {Q Q' : Exit → Act → World → Prop} (hQ : ∀ e a w, Q e a w → Q' e a w) : ∀ {l : List Oper} {a : Act} {w : World}, wpListIn F n P ops Q l a w → wpListIn F n P ops Q' l a w
  | [], _, _, h => hQ _ _ _ h
  | o :: l, a, w, h => by
    unfold wpListIn at h ⊢
    split
    · rename_i hw
      rw [if_pos hw] at h
      exact Oper.wpIn_monoQ (fun a w h => wpListIn_mono hQ h) (fun _ _ _ h => hQ _ _ _ h) (fun ⟨a, w, h⟩ => ⟨a, w, hQ _ _ _ h⟩) h
    · rename_i hw
      rw [if_neg hw] at h
      exact ⟨h.1, wpListIn_mono hQ h.2⟩

def WLK (E : En) (ops : Array Oper) (l : List Oper) (K : Exit → Act → World → Prop) (s : St) : Prop := ∀ g a w, Inv E g s a w → wpListIn (fo E.rd) 0 E.P ops K l a w
def WR (E : En) (c : Code) (K : Exit → Act → World → Prop) (m : Nat) (s : St) : Prop := ∀ g a w, Inv E g s a w → Code.roundsIn (fo E.rd) 0 E.P c K m a w
def kQ (E : En) (K : Exit → Act → World → Prop) : Exit → St → Prop := fun e s => ∀ g a w, Inv E g s a w → K e a w
section
variable {E : En} {x y c : Code} {K : Exit → Act → World → Prop} {s : St} {ops : Array Oper} {l : List Oper}
theorem WK_of (h : W E c (kQ E K) s) : WK E c K s := fun g a w hi => wpIn_mono (h g a w hi) fun _ a' w' ⟨g', _, h1, h2⟩ => h1 g' a' w' h2
theorem WLK_of (h : WL E ops l (kQ E K) s) : WLK E ops l K s := fun g a w hi => wpListIn_mono (fun _ a' w' ⟨g', _, h1, h2⟩ => h1 g' a' w' h2) (h g a w hi)
theorem WK_region {id : Nat} {l : List Oper} (h : WLK E l.toArray l K s) : WK E (.region id l.toArray false) K s := fun g a w hi => wpIn_region_list (by simpa using h g a w hi)
theorem WLK_nil (h : kQ E K .normal s) : WLK E ops [] K s := h
theorem WLK_cut (n : Nat) (h : WL E ops (l.take n) (fun e s' => e = .normal ∧ WLK E ops (l.drop n) K s') s) : WLK E ops l K s := fun g a w hi => by
  rw [← List.take_append_drop n l]
  refine wpListIn_app (wpListIn_mono (fun e a' w' ⟨g', s', h1, h2⟩ => ?_) (h g a w hi))
  obtain ⟨rfl, h1⟩ := h1
  exact h1 g' a' w' h2
theorem WK_seqN (h : W E x (fun e s' => e = .normal ∧ WK E y K s') s) : WK E (.seq x y) K s := fun g a w hi => wpIn_seq (wpIn_mono (h g a w hi) fun e a' w' ⟨g', s', h1, h2⟩ => by
  obtain ⟨rfl, h1⟩ := h1
  exact h1 g' a' w' h2)
theorem WK_rounds (m : Nat) (h : WR E c K m s) : WK E (.loop c) K s := fun g a w hi => wpIn_loop_rounds m (h g a w hi)
theorem WR_succ {m : Nat} (h : WK E c (Exit.then (Code.roundsIn (fo E.rd) 0 E.P c K m) K) s) : WR E c K (m + 1) s := fun g a w hi => h g a w hi
end

structure Rt (w0 : World) (I0 : Nat → Nat → Prop) (M0 : Nat → Prop) (w1 : World) (M : Nat → Prop) (I1 : Nat → Nat → Prop) (os : List (Nat × Obj)) : Prop where
  below : BelowM w0.heap.size M0 w0 w1
  Mn : ∀ k, M k → w0.heap.size ≤ k
  old : ∀ b o, I0 b o → I1 b o
  new : ∀ b o, I1 b o → I0 b o ∨ w0.heap.size ≤ b
  obs : ∀ p ∈ os, w1.heap[p.1]? = some p.2 ∧ (∀ o, ¬ I1 p.1 o) ∧ (w0.heap.size ≤ p.1 ∨ M0 p.1) ∧ ¬ M p.1
abbrev Ek (P : Program) (w1 : World) (nt : Nat) (M : Nat → Prop) (I1 : Nat → Nat → Prop) : En := ⟨P, w1.heap.size, w1, nt, M, [], I1, fun _ _ _ => False, none, []⟩
abbrev E0M (P : Program) (w0 : World) (nt : Nat) (I0 : Nat → Nat → Prop) (M0 : Nat → Prop) : En := ⟨P, w0.heap.size, w0, nt, M0, [], I0, fun _ _ _ => False, none, []⟩
theorem Rt.start (w0 : World) (I0 : Nat → Nat → Prop) (M0 : Nat → Prop := fun _ => False) : Rt w0 I0 M0 w0 (fun _ => False) I0 [] := ⟨BelowM.refl _ _ _, fun _ h => h.elim, fun _ _ h => h, fun _ _ h => .inl h, fun _ h => by cases h⟩
section
variable {P : Program} {nt : Nat} {w0 w1 : World} {I0 I1 : Nat → Nat → Prop} {M M0 : Nat → Prop} {os : List (Nat × Obj)} {K : Exit → Act → World → Prop} {c : Code}
theorem Rt.invM (hR : Rt w0 I0 M0 w1 M I1 os) {g : Gh} {s : St} {a : Act} {w : World} (hi : Inv (Ek P w1 nt M I1) g s a w) : Inv (E0M P w0 nt I0 M0) g s a w := by
  have hm := hi.mem
  have hsz := hR.below.size
  have hk : ∀ k, (w1.heap.size ≤ k ∨ M k) → w0.heap.size ≤ k := fun k h => h.elim (fun h => Nat.le_trans hsz h) (hR.Mn k)
  refine ⟨{ below := ⟨hm.below.os.trans hR.below.os, hm.below.tape.trans hR.below.tape, hm.below.output.trans hR.below.output, Nat.le_trans hsz hm.below.size, fun k hk0 hM0 => ?_⟩
            base := Nat.le_trans hsz hm.base, cell := hm.cell, mfr := fun n b hn => ⟨.inr (.inl (hk b (by have := (hm.mfr n b hn).1; simpa using this))), (hm.mfr n b hn).2⟩
            ofr := fun n b h1 h2 => ⟨.inl (hk b (by have := (hm.ofr n b h1 h2).1; simpa using this)), (hm.ofr n b h1 h2).2⟩, minj := hm.minj, oinj := hm.oinj, disj := hm.disj, blk := hm.blk, key := hm.key, own := hm.own
            inew := fun b o h => by
              rcases hm.inew b o h with h1 | h1
              · exact (hR.new b o h1).imp id .inl
              · exact .inr (.inl (hk b (by simpa using h1)))
            iold := fun b o h => hm.iold b o (hR.old b o h), pin := fun _ _ _ h => h.elim }, hi.tm, hi.de, hi.sz⟩
  have hk1 : k < w0.heap.size := hk0
  have h1 : ¬ M k := fun h => by have := hR.Mn k h; omega
  exact (hm.below.block k (by show k < w1.heap.size; omega) h1).trans (hR.below.block k hk0 hM0)
theorem Rt.inv (hR : Rt w0 I0 (fun _ => False) w1 M I1 os) {g : Gh} {s : St} {a : Act} {w : World} (hi : Inv (Ek P w1 nt M I1) g s a w) : Inv (E0 P w0 nt I0 none []) g s a w := hR.invM hi
theorem Rt.here (hR : Rt w0 I0 M0 w1 M I1 os) {g : Gh} {s : St} {a : Act} {w : World} (hi : Inv (Ek P w1 nt M I1) g s a w) : ∀ p ∈ os, w.heap[p.1]? = some p.2 := fun p hp => by
  obtain ⟨h1, h2, h3, h4⟩ := hR.obs p hp
  exact (hi.mem.below.block p.1 (Array.getElem?_eq_some_iff.1 h1).1 h4).trans h1
theorem WK_unk (hR : Rt w0 I0 (fun _ => False) w1 M I1 os) {s : St} (h : WK (E0 P w0 nt I0 none []) c K s) : WK (Ek P w1 nt M I1) c K s := fun g a w hi => h g a w (hR.inv hi)
theorem Rt.turn (hR : Rt w0 I0 M0 w1 M I1 os) {g : Gh} {s : St} {a : Act} {w w' : World} (hi : Inv (Ek P w1 nt M I1) g s a w) (hB : BelowM w.heap.size (fun b => ∃ ob, (b, ob) ∈ os) w w') {os' : List (Nat × Obj)}
    (ho : ∀ p ∈ os', w'.heap[p.1]? = some p.2 ∧ ((∃ ob, (p.1, ob) ∈ os) ∨ w.heap.size ≤ p.1 ∨ ((w0.heap.size ≤ p.1 ∨ M0 p.1) ∧ (∀ o, ¬ g.I p.1 o) ∧ ¬ Ob g p.1))) : Rt w0 I0 M0 w' (Ob g) g.I os' ∧ Inv (Ek P w' nt (Ob g) g.I) g s a w' ∧ Goes g w g w' := by
  have hm := hi.mem
  have hsz := hR.below.size
  have hb := hR.invM hi
  have hbase : w1.heap.size ≤ w.heap.size := hm.base
  have hOb : ∀ k, Ob g k → (w1.heap.size ≤ k ∨ M k) ∧ k < w.heap.size := fun k h => by
    rcases h with ⟨n, hn⟩ | ⟨n, h1, h2⟩
    · exact ⟨by have := (hm.mfr n k hn).1; simpa using this, (hm.mfr n k hn).2⟩
    · exact ⟨by have := (hm.ofr n k h1 h2).1; simpa using this, (hm.ofr n k h1 h2).2⟩
  have hk : ∀ k, (w1.heap.size ≤ k ∨ M k) → w0.heap.size ≤ k := fun k h => h.elim (fun h => Nat.le_trans hsz h) (hR.Mn k)
  have hlt : ∀ p ∈ os, p.1 < w1.heap.size := fun p hp => (Array.getElem?_eq_some_iff.1 (hR.obs p hp).1).1
  have nOb : ∀ k ob, (k, ob) ∈ os → ¬ Ob g k := fun k ob h hO => by
    have h1 := hlt _ h
    have h2 := (hR.obs _ h).2.2.2
    rcases (hOb k hO).1 with h3 | h3
    · simp only at h1; omega
    · exact h2 h3
  have nI : ∀ k ob, (k, ob) ∈ os → ∀ o, ¬ g.I k o := fun k ob h o hI => by
    have h1 := hlt _ h
    have h2 := (hR.obs _ h).2
    rcases hm.inew k o hI with h3 | h3
    · exact h2.1 o h3
    · rcases h3 with h3 | h3
      · simp only at h1 h3; omega
      · exact h2.2.2 h3
  have same : ∀ k, k < w.heap.size → (∀ ob, (k, ob) ∉ os) → w'.heap[k]? = w.heap[k]? := fun k h1 h2 => hB.block k h1 fun ⟨ob, h⟩ => h2 ob h
  have sameO : ∀ k, Ob g k → w'.heap[k]? = w.heap[k]? := fun k h => same k (hOb k h).2 fun ob h2 => nOb k ob h2 h
  have keeps : Keeps g.I w w' := fun b o hI => World.cell?_of_block (a := ⟨b, o, none⟩) (same b (cell_lt (hm.cell b o hI)) fun ob h => nI b ob h o hI)
  have goes : Goes g w g w' := ⟨fun _ _ h => h, keeps, fun _ _ h => h, fun _ _ _ => rfl, fun n T e rows y hy =>
    ownRep_goes (g := g) (g' := g) (fun _ _ h => h) keeps (fun _ h => ⟨h, rfl⟩) (fun k c h1 h2 => sameO c (.inr ⟨k, h1, h2⟩)) (fun _ _ _ _ _ h => h) hy, fun n c _ _ hn hc => hc.same (sameO c (.inl ⟨n, hn⟩))⟩
  refine ⟨⟨?_, fun k h => hk k (hOb k h).1, fun b o h => hm.iold b o (hR.old b o h), fun b o h => ?_, fun p hp => ?_⟩, ⟨?_, fun t => rep_goes goes (hi.tm t), hi.de, hi.sz⟩, goes⟩
  · refine ⟨hB.os.trans hb.mem.below.os, hB.tape.trans hb.mem.below.tape, hB.output.trans hb.mem.below.output, Nat.le_trans hb.mem.below.size hB.size, fun k hk0 hM => (same k (Nat.lt_of_lt_of_le hk0 hb.mem.base) fun ob h => ?_).trans (hb.mem.below.block k hk0 hM)⟩
    rcases (hR.obs _ h).2.2.1 with h1 | h1
    · simp only at h1; omega
    · exact hM h1
  · rcases hm.inew b o h with h1 | h1
    · exact hR.new b o h1
    · exact .inr (hk b (by simpa using h1))
  · obtain ⟨h1, h3⟩ := ho p hp
    rcases h3 with ⟨ob, h⟩ | h | h
    · exact ⟨h1, nI _ ob h, (hR.obs _ h).2.2.1, nOb _ ob h⟩
    · refine ⟨h1, fun o hI => ?_, .inl (Nat.le_trans hb.mem.base h), fun hO => ?_⟩
      · have := cell_lt (hm.cell _ o hI); omega
      · have := (hOb _ hO).2; omega
    · exact ⟨h1, h.2.1, h.1, h.2.2⟩
  · exact { below := BelowM.refl _ _ _, base := Nat.le_refl _, cell := fun b o hI => by rw [keeps b o hI]; exact hm.cell b o hI, mfr := fun n b hn => ⟨.inr (.inr (.inl ⟨n, hn⟩)), Nat.lt_of_lt_of_le (hm.mfr n b hn).2 hB.size⟩, ofr := fun n b h1 h2 => ⟨.inr (.inr ⟨n, h1, h2⟩), Nat.lt_of_lt_of_le (hm.ofr n b h1 h2).2 hB.size⟩,
            minj := hm.minj, oinj := hm.oinj, disj := hm.disj, blk := fun n cs hn => let ⟨b, arr, h1, h2, h3, h4⟩ := hm.blk n cs hn; ⟨b, arr, h1, (sameO b (.inl ⟨n, h1⟩)).trans h2, reps_goes goes h3, h4⟩,
            key := hm.key, own := hm.own, inew := fun _ _ h => .inl h, iold := fun _ _ h => h, pin := fun _ _ _ h => h.elim }
theorem below_grown {w w' : World} {row : Option Nat} {os : List (Nat × Obj)} (hg : w.grownBy w' row) (hr : ∀ r, row = some r → ∃ ob, (r, ob) ∈ os) : BelowM w.heap.size (fun b => ∃ ob, (b, ob) ∈ os) w w' :=
  ⟨hg.os, hg.tape, hg.output, hg.size, fun k hk hM => hg.block k hk fun e => hM (hr k e.symm)⟩
theorem WLK_obj {ops : Array Oper} {o : Oper} {rest : List Oper} {tm : List (Nat × AV)} {bl : List (Nat × List AV)} {ow : List Nat} (hR : Rt w0 I0 M0 w1 M I1 os) (hg : o.guard = none) (hd : dstB nt o = true)
    (h : ∀ (ρ : Operand → Value) (w : World), (∀ x v, ev tm x = .v v → ρ x = v) → (∀ p ∈ os, w.heap[p.1]? = some p.2) → ∃ (y : Value) (w' : World) (row : Option Nat) (os' : List (Nat × Obj)), ((execOp ρ o).run P w = .ok (.value y) w' ∨ ((execOp ρ o).run P w = .ok .skip w' ∧ y = undef)) ∧ w.grownBy w' row ∧ (∀ r, row = some r → ∃ ob, (r, ob) ∈ os) ∧
      (∀ p ∈ os', w'.heap[p.1]? = some p.2 ∧ ((∃ ob, (p.1, ob) ∈ os) ∨ w.heap.size ≤ p.1)) ∧
      ∀ (M' : Nat → Prop) (I' : Nat → Nat → Prop), Rt w0 I0 M0 w' M' I' os' → WLK (Ek P w' nt M' I') ops rest K ((⟨tm, bl, ow⟩ : St).app o.dst (.v y) [] [])) : WLK (Ek P w1 nt M I1) ops (o :: rest) K ⟨tm, bl, ow⟩ := by
  intro g a w hi
  obtain ⟨y, w', row, os', hrun, k1, k2, k3, k4⟩ := h a.eval w (fun x v hx => by
    have h1 := rep_ev hi.tm x
    rw [hx] at h1
    simpa only [rep] using h1) (hR.here hi)
  obtain ⟨hR', hi', go⟩ := hR.turn (os' := os') hi (below_grown k1 k2) (fun p hp => ⟨(k3 p hp).1, (k3 p hp).2.imp id .inl⟩)
  unfold wpListIn
  have : Region.wanted o (yielded ops a.tmps) = true := by simp [Region.wanted, hg]
  rw [this]
  refine wp_of_uponQ (K := fun y' w'' => y' = y ∧ w'' = w') ?_ fun y' w'' ⟨e1, e2⟩ => ?_
  · show UponQ P _ _
    rcases hrun with hrun | ⟨hrun, hu⟩
    · rw [hrun]; exact ⟨rfl, rfl⟩
    · rw [hrun]; exact ⟨hu.symm, rfl⟩
  · subst e1; subst e2
    exact k4 _ _ hR' _ _ _ (hi'.app (nb := []) (no := []) (dstB_spec hd) (Goes.refl _ _) hi'.mem (by simp [rep]))
end

theorem grownBy_put_drew {w w1 : World} (h : w1 = w ∨ w1 = w.drew) (l : Nat) (o : Obj) : w.grownBy (w1.putObj l o) (some l) := by
  rcases h with rfl | rfl
  · exact grownBy_putObj' _ l o
  · have h := grownBy_putObj' w.drew l o
    exact ⟨h.os, h.tape, h.output, h.size, h.block⟩
theorem heap_dr {w w1 : World} (h : w1 = w ∨ w1 = w.drew) : w1.heap = w.heap := by rcases h with rfl | rfl <;> rfl
theorem findNow_none {q : IntKind} {a : Int} : ∀ (es : List MapEntry) (i : Nat), (∀ x ∈ es, ∃ b : Int, x.key = .int q b ∧ a ≠ b) → Instr.findNow (.int q) (.int q a) es i = some none
  | [], _, _ => rfl
  | x :: es, i, h => by
    obtain ⟨b, h1, h2⟩ := h x (by simp)
    have e : (a == b) = false := by simpa using h2
    simp only [Instr.findNow, h1, Instr.sameNow, if_true, e]
    exact findNow_none es (i + 1) (fun y hy => h y (by simp [hy]))
theorem run_mapUpdate_new {P : Program} {w : World} {t k e : TypeId} {q : IntKind} {bm clock : Nat} {es : Array MapEntry} {a : Int} {v : Value} (ht : P.underlying t = some (.map k e)) (hk : P.underlying k = some (.int q)) (hb : w.heap[bm]? = some (.map es clock)) (hn : ∀ x ∈ es.toList, ∃ b : Int, x.key = .int q b ∧ a ≠ b) :
    (Instr.mapUpdate t (.map (some bm)) (.int q a) v).run P w = .ok () (w.putObj bm (.map (es.push { key := .int q a, val := v, born := clock }) (clock + 1))) := by
  have h1 : ∀ k', (Instr.checkKey false (k' + 1) k (.int q a)).run P w = .ok () w := fun k' => by simp [Instr.checkKey, run_underlying hk]
  have h2 := h1 9999
  simp only [Instr.mapUpdate, Sem.run_bind, run_underlying ht, Result.andThen_ok, MapKept.run_getObj_map hb, h2, Instr.findKey, run_underlying hk, findNow_none es.toList 0 hn, Sem.run_pure]
  simp only [setObj, Sem.run, hb]
  rfl
theorem run_rangeG {P : Program} {w : World} {t k e : TypeId} {bm clock : Nat} {es : Array MapEntry} (ht : P.underlying t = some (.map k e)) (hb : w.heap[bm]? = some (.map es clock)) : (Instr.range t (.map (some bm))).run P w = .ok (.pointer (some ⟨w.heap.size, 0, none⟩)) (w.alloc (.mapIter (some bm) clock #[] clock)) := run_range_map w t k e bm es clock ht hb
theorem run_nextG {P : Program} (w : World) (ty : TypeId) (bi bm since c0 : Nat) (seen : Array Nat) (es : Array MapEntry) (clock : Nat) (hi : w.heap[bi]? = some (.mapIter (some bm) since seen c0)) (hb : w.heap[bm]? = some (.map es clock)) (hold : ∀ x ∈ es.toList, x.born < since) (hsc : since ≤ c0) :
    ((leftOf es seen).size = 0 ∧ (Instr.next (.pointer (some ⟨bi, 0, none⟩)) false ty).run P w = .ok (.tuple #[.bool false]) w) ∨
    ∃ e ∈ (leftOf es seen).toList, ∃ w1 : World, (w1 = w ∨ w1 = w.drew) ∧ (Instr.next (.pointer (some ⟨bi, 0, none⟩)) false ty).run P w = .ok (.tuple #[.bool true, e.key, e.val]) (w1.putObj bi (.mapIter (some bm) since (seen.push e.born) clock)) := by
  simp only [Instr.next, getObj, Sem.run_bind, Sem.run, hi, hb, Result.andThen, next_test_false seen es since c0 hold hsc, Bool.false_eq_true, if_false]
  unfold leftOf
  have hmem : ∀ x ∈ (Array.filter (fun e => !seen.contains e.born) es).toList, x.born < since := fun x hx => hold x (by simp at hx ⊢; exact hx.1)
  generalize Array.filter (fun e => !seen.contains e.born) es = L at hmem ⊢
  have e1 : L.filter (fun x => decide (x.born < since)) = L := Array.filter_eq_self.2 (fun x hx => by simpa using hmem x (by simpa using hx))
  have e2 : L.filter (fun x => decide (x.born ≥ since)) = #[] := by
    rw [Array.filter_eq_empty_iff]
    intro x hx
    have := hmem x (by simpa using hx)
    simp
    omega
  simp only [e1, e2, Array.append_empty]
  by_cases h0 : L.size = 0
  · left
    have : L = #[] := Array.eq_empty_of_size_eq_zero h0
    subst this
    refine ⟨rfl, ?_⟩
    simp [choose, Sem.run, Question.forced]
  · right
    have hne : L.isEmpty = false := by simp [Array.isEmpty, h0]
    simp only [hne, Bool.false_eq_true, if_false, Array.empty_append, Array.size_map]
    have hch : ∃ (j : Nat) (w1 : World), j < L.size ∧ (w1 = w ∨ w1 = w.drew) ∧ (choose (Question.mapNext L.size)).run P w = .ok j w1 := by
      by_cases hf : L.size ≤ 1
      · exact ⟨0, w, by omega, .inl rfl, by simp [choose, Sem.run, Question.forced, hf]⟩
      · exact ⟨_, w.drew, Nat.mod_lt _ (by omega), .inr rfl, by
          simp only [choose, Sem.run, Question.forced, decide_eq_true_eq, hf, if_false, Question.cut]
          rfl⟩
    obtain ⟨j, w1, hj, hal, hrun⟩ := hch
    refine ⟨L[j], by simp, w1, hal, ?_⟩
    have hi1 : w1.heap[bi]? = some (.mapIter (some bm) since seen c0) := by rw [heap_dr hal]; exact hi
    simp only [hrun, Array.getElem?_map, Array.getElem?_eq_getElem hj, Option.map_some, setObj, Sem.run_bind, Sem.run, hi1, Result.andThen]
    rfl
theorem run_entryG {P : Program} {w : World} {bi bm since : Nat} {seen : Array Nat} {es : Array MapEntry} {clock : Nat} {e : MapEntry} (hi : w.heap[bi]? = some (.mapIter (some bm) since (seen.push e.born) clock)) (hb : w.heap[bm]? = some (.map es clock)) (he : e ∈ es.toList) (hn : (es.toList.map (·.born)).Nodup) :
    (Instr.entry (.pointer (some ⟨bi, 0, none⟩))).run P w = .ok (.tuple #[e.key, e.val]) w := by
  have hf : es.find? (·.born == e.born) = some e := by rw [← Array.find?_toList]; exact find_born e es.toList hn he
  simp only [Instr.entry, getObj, Sem.run_bind, Sem.run, hi, hb, Result.andThen, Array.back?_push, bne_self_eq_false, Bool.false_eq_true, if_false, hf]
  rfl
def nextO (P : Program) (w0 : World) (nt : Nat) (I0 : Nat → Nat → Prop) (M0 : Nat → Prop) {ι : Type} (J : ι → Prop) (μ : ι → Nat) (X : ι → St) (osf : ι → List (Nat × Obj)) (i : ι) (K : Exit → Act → World → Prop) : Exit → Act → World → Prop
  | .normal, a, w => ∃ j, J j ∧ μ j < μ i ∧ ∃ w1 M I1 g, Rt w0 I0 M0 w1 M I1 (osf j) ∧ Inv (Ek P w1 nt M I1) g (X j) a w
  | e, a, w => K e a w
section
variable {P : Program} {nt : Nat} {w0 w1 : World} {I0 I1 : Nat → Nat → Prop} {M M0 : Nat → Prop} {K : Exit → Act → World → Prop} {c : Code} {ι : Type} {J : ι → Prop} {μ : ι → Nat} {X : ι → St} {osf : ι → List (Nat × Obj)}
theorem WK_loopO (J : ι → Prop) (μ : ι → Nat) (X : ι → St) (osf : ι → List (Nat × Obj)) (i0 : ι) {s : St} (hR : Rt w0 I0 M0 w1 M I1 (osf i0)) (hJ : J i0) (h0 : Weak (Ek P w1 nt M I1) s (X i0))
    (round : ∀ i, J i → ∀ w1 M I1, Rt w0 I0 M0 w1 M I1 (osf i) → WK (Ek P w1 nt M I1) c (nextO P w0 nt I0 M0 J μ X osf i K) (X i)) : WK (Ek P w1 nt M I1) (.loop c) K s := by
  refine WK_weak h0 (WK_rounds (μ i0 + 1) ?_)
  have key : ∀ m i, μ i ≤ m → J i → ∀ w1 M I1, Rt w0 I0 M0 w1 M I1 (osf i) → WR (Ek P w1 nt M I1) c K (m + 1) (X i) := by
    intro m
    induction m with
    | zero =>
      intro i hi hj w1 M I1 hR
      refine WR_succ fun g a w hI => wpIn_mono (round i hj w1 M I1 hR g a w hI) fun e a' w' hq => ?_
      cases e with
      | normal => obtain ⟨j, _, hlt, _⟩ := hq; omega
      | _ => exact hq
    | succ m ih =>
      intro i hi hj w1 M I1 hR
      refine WR_succ fun g a w hI => wpIn_mono (round i hj w1 M I1 hR g a w hI) fun e a' w' hq => ?_
      cases e with
      | normal =>
        obtain ⟨j, hj, hlt, w1, M, I1, g, hR', hI'⟩ := hq
        exact ih j (by omega) hj w1 M I1 hR' g a' w' hI'
      | _ => exact hq
  exact key _ i0 (Nat.le_refl _) hJ w1 M I1 hR
theorem kQ_next {i : ι} {s : St} {os : List (Nat × Obj)} (j : ι) (hJ : J j) (hlt : μ j < μ i) (hR : Rt w0 I0 M0 w1 M I1 os) (ho : os = osf j) (hw : Weak (Ek P w1 nt M I1) s (X j)) : kQ (Ek P w1 nt M I1) (nextO P w0 nt I0 M0 J μ X osf i K) .normal s := fun g a w hi => by
  subst ho
  obtain ⟨g', hi'⟩ := hw g a w hi
  exact ⟨j, hJ, hlt, w1, M, I1, g', hR, hi'⟩
end
section
variable {P : Program} {nt : Nat} {w1 : World} {I1 : Nat → Nat → Prop} {M : Nat → Prop} {K : Exit → Act → World → Prop} {c : Code} {s : St} {id : Nat}
theorem kQ_then (h : WK (Ek P w1 nt M I1) c K s) : kQ (Ek P w1 nt M I1) (Exit.then (fun a w => c.wpIn (fo none) 0 P K a w) K) .normal s := h
theorem kQ_blk (h : kQ (Ek P w1 nt M I1) K .normal s) : kQ (Ek P w1 nt M I1) (Exit.inBlock id K) .normal s := h
theorem kQ_exit (h : kQ (Ek P w1 nt M I1) K .normal s) : kQ (Ek P w1 nt M I1) (Exit.inBlock id K) (.exit id) s := fun g a w hi => by
  simp only [Exit.inBlock, if_true]
  exact h g a w hi
theorem kQ_nextE {w0 : World} {I0 : Nat → Nat → Prop} {M0 : Nat → Prop} {ι : Type} {J : ι → Prop} {μ : ι → Nat} {X : ι → St} {osf : ι → List (Nat × Obj)} {i : ι} {id : Nat} (h : kQ (Ek P w1 nt M I1) K (.exit id) s) : kQ (Ek P w1 nt M I1) (nextO P w0 nt I0 M0 J μ X osf i K) (.exit id) s := h
end
section
variable {E : En} {bl : List (Nat × List AV)} {tm : List (Nat × AV)} {d : Option Tmp} {ty : TypeId} {pos : String} {af : Array Edge} {gd : Option (Nat × Bool)}
theorem QV_extractV {x : Operand} {xs : Array Value} {i : Nat} {v : Value} (hx : ev tm x = .v (.tuple xs)) (h : xs[i]? = some v) : QV E bl tm ⟨d, .extract x i, ty, pos, af, gd⟩ (.v v) [] [] :=
  QV_pure fun g w ρ hop => by
    have h1 := hop x (by simp [Op.operands])
    rw [hx] at h1
    simp only [rep] at h1
    exact ⟨v, by simp [execOp, h1, Instr.extract, h], by simp [rep]⟩
end
theorem grownBy_refl (w : World) : w.grownBy w none := ⟨rfl, rfl, rfl, Nat.le_refl _, fun _ _ _ => rfl⟩
theorem kQ_pass {P : Program} {nt : Nat} {w1 : World} {I1 : Nat → Nat → Prop} {M : Nat → Prop} {K : Exit → Act → World → Prop} {s : St} {id id' : Nat} (hid : Nat.beq id' id = false) (h : kQ (Ek P w1 nt M I1) K (.exit id') s) : kQ (Ek P w1 nt M I1) (Exit.inBlock id K) (.exit id') s := fun g a w hi => by
  have : id' ≠ id := fun e => by rw [e] at hid; simp at hid
  simp only [Exit.inBlock, this, if_false]
  exact h g a w hi
theorem kQ_thenE {P : Program} {nt : Nat} {w1 : World} {I1 : Nat → Nat → Prop} {M : Nat → Prop} {K : Exit → Act → World → Prop} {s : St} {id : Nat} {Y : Act → World → Prop} (h : kQ (Ek P w1 nt M I1) K (.exit id) s) : kQ (Ek P w1 nt M I1) (Exit.then Y K) (.exit id) s := h
end Go.Eng
