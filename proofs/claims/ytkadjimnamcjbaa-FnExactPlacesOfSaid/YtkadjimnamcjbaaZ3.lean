/- My walking engine, part 3: abstract values of Go, and the rules of a walk over them. No program in sight. -/
import Derived.Test.YtkadjimnamcjbaaZ2
import Derived.LoopNIn
import Derived.Laws.IdiomRangeMap
namespace Go.Eng
open Go
section
variable {E : En} {bl : List (Nat × List AV)} {tm : List (Nat × AV)} {d : Option Tmp} {ty : TypeId} {pos : String} {af : Array Edge} {gd : Option (Nat × Bool)}
theorem QV_buildA {t len : Nat} {ps : Array (Nat × Operand)} {T e by_ : Nat} {z : List Value} {fl : List AV} (n : Nat) [hs : ZSlOk E.P t T e by_ z]
    (h : abuild (fun i => some (i * e, e)) (List.replicate len (z.map AV.v)).flatten (ps.toList.map fun p => (p.1, ev tm p.2)) = some fl) (hl : len * e ≤ 1048576) :
    QV E bl tm ⟨d, .buildSlice t len ps, ty, pos, af, gd⟩ (.arr n T e len) [(n, fl)] [] := by
  intro g w ρ bl' ow' hm _ hf _ hop
  obtain ⟨in0, iz, i1, i2, i3, i4, i5⟩ := hs.sl.info
  obtain ⟨zv, h1, rfl⟩ := hs.zero
  have hpos := hs.sl.pos
  have hzv : zv = iz := by
    have := h1 w
    simpa [zeroValue, typeInfo, i1, i2] using this.symm
  subst hzv
  have hzs : zv.cells.size = e := i5
  have hsz : ∀ w, (sizeOf T).run E.P w = .ok e w := fun w => by simp [sizeOf, typeInfo, i1, i3]
  have hz0 : reps g w (List.replicate len (zv.cells.toList.map AV.v)).flatten ((Array.range (len * e)).map (zv.cells[· % zv.cells.size]!)).toList := by
    have := range_zero zv.cells len
    rw [hzs] at this ⊢
    rw [this]
    have : (List.replicate len (zv.cells.toList.map AV.v)).flatten = ((List.replicate len zv.cells.toList).flatten).map AV.v := by simp [List.map_flatten]
    rw [this]
    exact reps_lits _
  obtain ⟨cs, k1, k2⟩ := fill_abuild (g := g) (w := w) _ (ps.toList.map fun p => (p.1, ρ p.2)) _ ((Array.range (len * e)).map (zv.cells[· % zv.cells.size]!)) fl (by simp [List.map_map, Function.comp_def])
      (reps_parts ps.toList fun x hx => hop x (by simpa [Op.operands] using hx)) hz0 h
  have hfill : ∀ (pl : Nat → Option (Nat × Nat)) (parts : List (Nat × Value)) (zs cs : Array Value), (∀ i o s, pl i = some (o, s) → True) → Instr.fill pl zs parts = some cs → cs.size = zs.size := by
    intro pl parts
    induction parts with
    | nil => intro zs cs _ h; simp only [Instr.fill, Option.some.injEq] at h; rw [h]
    | cons p parts ih =>
      intro zs cs _ h
      obtain ⟨i, v⟩ := p
      simp only [Instr.fill] at h
      split at h
      · cases h
      · split at h
        · cases h
        · have := ih _ cs (fun _ _ _ _ => trivial) h
          rw [this]
          have : ∀ (l : List (Value × Nat)) (zs : Array Value) (off : Nat), (l.foldl (fun cs p => cs.setIfInBounds (off + p.2) p.1) zs).size = zs.size := by
            intro l
            induction l with
            | nil => intro zs off; rfl
            | cons p l ih => intro zs off; simp only [List.foldl_cons]; rw [ih]; simp
          rw [← Array.foldl_toList]
          exact this _ _ _
  have hcsz : cs.size = len * e := by
    have := hfill _ _ _ _ (fun _ _ _ _ => trivial) k1
    simpa using this
  obtain ⟨g', m1, m2, m3, m4⟩ := hm.newBlock n (fun q hq => hf (n, fl) (by simp) q hq) _ _ T k2
  have e2 : (ps.map fun x => (x.1, ρ x.2)).toList = ps.toList.map fun p => (p.1, ρ p.2) := by simp
  have k1' : Instr.fill (fun i => some (i * e, e)) ((Array.range (len * e)).map (zv.cells[· % zv.cells.size]!)) (ps.map fun x => (x.1, ρ x.2)).toList = some cs := by rw [e2]; exact k1
  have hrun : (execOp ρ ⟨d, .buildSlice t len ps, ty, pos, af, gd⟩).run E.P w = .ok (.value (.slice (some ⟨w.heap.size, 0, none⟩) len len)) (w.alloc (.cells cs T)) := by
    have hle : ¬ (len * e > 2 ^ 24) := by omega
    by_cases h0 : len * e = 0
    · have hz0' : (Array.range (len * e)).map (zv.cells[· % zv.cells.size]!) = (Array.range (len * e)).map ((#[] : Array Value)[· % (#[] : Array Value).size]!) := by simp [h0]
      rw [hz0'] at k1'
      simp only [execOp, Instr.buildSlice, Sem.run_bind, run_underlying hs.sl.und, Result.andThen_ok, hsz, if_neg hle, Sem.run_pure, if_pos h0, k1', newRow, run_newObj_alloc]
    · simp only [execOp, Instr.buildSlice, Sem.run_bind, run_underlying hs.sl.und, Result.andThen_ok, hsz, if_neg hle, Sem.run_pure, if_neg h0, h1, k1', newRow, run_newObj_alloc]
  rw [hrun]
  refine ⟨g', m1, m2, ?_⟩
  simp only [rep]
  exact ⟨_, len, m3, m4, rfl, Nat.le_refl _, fun _ => rfl⟩
theorem q_buildA {t len : Nat} {ps : Array (Nat × Operand)} {T e by_ : Nat} {z : List Value} {fl : List AV} (n : Nat) [hs : ZSlOk E.P t T e by_ z]
    (h : buildO (fun i => some (i * e, e)) tm (List.replicate len (z.map AV.v)).flatten ps.toList = some fl) (hl : Nat.ble (len * e) 1048576 = true) : QV E bl tm ⟨d, .buildSlice t len ps, ty, pos, af, gd⟩ (.arr n T e len) [(n, fl)] [] :=
  QV_buildA n (buildO_eq h) (Nat.le_of_ble_eq_true hl)
end
end Go.Eng

namespace Go.Eng
open Go Go.RowKit

theorem Oper.wpIn_monoQ {F : Fence} {n : Nat} {P : Program} {o : Oper} {a : Act} {w : World} {K K' : Act → World → Prop} {Q Q' : Exit → Act → World → Prop} (h : ∀ a w, K a w → K' a w) (hq : ∀ c a w, Q (.panic c) a w → Q' (.panic c) a w) (ho : LetsOut Q → LetsOut Q')
    (hh : o.wpIn F n P a w K Q) : o.wpIn F n P a w K' Q' := by
  unfold Oper.wpIn at *
  refine ⟨hh.1, ?_⟩
  have hh := hh.2
  generalize (o.semAt F.round a.eval).run P w = r at *
  cases r with
  | ok x w' =>
    cases x <;> simp only [Oper.uponIn] at hh ⊢ <;>
      first
        | exact h _ _ hh
        | exact ⟨hh.1, CallsIn.mono hh.2 (fun e w'' he => by cases e <;> first | exact h _ _ he | exact hq _ _ _ he | exact ho he)⟩
        | exact ⟨hh.1, RowsIn.mono hh.2 (fun _ _ he => h _ _ he)⟩
        | exact ⟨hh.1, RoundIn.mono hh.2 (fun e w'' he => by cases e <;> first | exact h _ _ he | exact hq _ _ _ he | exact ho he)⟩
  | halt x w' => cases x <;> simp only [Oper.uponIn] at hh ⊢ <;> first | exact hh | exact hq _ _ _ hh

/-- A list of operations in two parts. -/
theorem wpListIn_app {F : Fence} {n : Nat} {P : Program} {ops : Array Oper} {Q : Exit → Act → World → Prop} {l2 : List Oper} : ∀ {l1 : List Oper} {a : Act} {w : World},
    wpListIn F n P ops (Exit.then (wpListIn F n P ops Q l2) Q) l1 a w → wpListIn F n P ops Q (l1 ++ l2) a w
  | [], _, _, h => h
  | o :: l1, a, w, h => by
    rw [List.cons_append]
    unfold wpListIn at h ⊢
    split
    · rename_i hw
      rw [if_pos hw] at h
      exact Oper.wpIn_monoQ (fun a w h => wpListIn_app h) (fun _ _ _ h => h) (fun ⟨a, w, h⟩ => ⟨a, w, h⟩) h
    · rename_i hw
      rw [if_neg hw] at h
      exact ⟨h.1, wpListIn_app h.2⟩
theorem wpListIn_mono {F : Fence} {n : Nat} {P : Program} {ops : Array Oper} {Q Q' : Exit → Act → World → Prop} (hQ : ∀ e a w, Q e a w → Q' e a w) : ∀ {l : List Oper} {a : Act} {w : World}, wpListIn F n P ops Q l a w → wpListIn F n P ops Q' l a w
  | [], _, _, h => hQ _ _ _ h
  | o :: l, a, w, h => by
    unfold wpListIn at h ⊢
    split
    · rename_i hw
      rw [if_pos hw] at h
      exact Oper.wpIn_monoQ (fun a w h => wpListIn_mono hQ h) (fun _ _ _ h => hQ _ _ _ h) (fun ⟨a, w, h⟩ => ⟨a, w, hQ _ _ _ h⟩) h
    · rename_i hw
      rw [if_neg hw] at h
      exact ⟨h.1, wpListIn_mono hQ h.2⟩

def WLK (E : En) (ops : Array Oper) (l : List Oper) (K : Exit → Act → World → Prop) (s : St) : Prop := ∀ g a w, Inv E g s a w → wpListIn (fo E.rd) 0 E.P ops K l a w
def WR (E : En) (c : Code) (K : Exit → Act → World → Prop) (m : Nat) (s : St) : Prop := ∀ g a w, Inv E g s a w → Code.roundsIn (fo E.rd) 0 E.P c K m a w
def kQ (E : En) (K : Exit → Act → World → Prop) : Exit → St → Prop := fun e s => ∀ g a w, Inv E g s a w → K e a w
section
variable {E : En} {x y c : Code} {K : Exit → Act → World → Prop} {s : St} {ops : Array Oper} {l : List Oper}
theorem WK_of (h : W E c (kQ E K) s) : WK E c K s := fun g a w hi => wpIn_mono (h g a w hi) fun _ a' w' ⟨g', _, h1, h2⟩ => h1 g' a' w' h2
theorem WLK_of (h : WL E ops l (kQ E K) s) : WLK E ops l K s := fun g a w hi => wpListIn_mono (fun _ a' w' ⟨g', _, h1, h2⟩ => h1 g' a' w' h2) (h g a w hi)
theorem WK_region {id : Nat} {l : List Oper} (h : WLK E l.toArray l K s) : WK E (.region id l.toArray false) K s := fun g a w hi => wpIn_region_list (by simpa using h g a w hi)
/-- The first n operations by the engine. -/
theorem WLK_cut (n : Nat) (h : WL E ops (l.take n) (fun e s' => e = .normal ∧ WLK E ops (l.drop n) K s') s) : WLK E ops l K s := fun g a w hi => by
  rw [← List.take_append_drop n l]
  refine wpListIn_app (wpListIn_mono (fun e a' w' ⟨g', s', h1, h2⟩ => ?_) (h g a w hi))
  obtain ⟨rfl, h1⟩ := h1
  exact h1 g' a' w' h2
/-- Code ahead by the engine. -/
theorem WK_seqN (h : W E x (fun e s' => e = .normal ∧ WK E y K s') s) : WK E (.seq x y) K s := fun g a w hi => wpIn_seq (wpIn_mono (h g a w hi) fun e a' w' ⟨g', s', h1, h2⟩ => by
  obtain ⟨rfl, h1⟩ := h1
  exact h1 g' a' w' h2)
theorem WK_skip (h : kQ E K .normal s) : WK E .skip K s := fun g a w hi => wpIn_skip (h g a w hi)
theorem WK_exit {id : Nat} (h : kQ E K (.exit id) s) : WK E (.exit id) K s := fun g a w hi => wpIn_exit (h g a w hi)
theorem WK_cond {d : Operand} {b : Bool} (hc : ev s.tm d = .v (.bool b)) (ht : b = true → WK E x K s) (hf : b = false → WK E y K s) : WK E (.cond d x y) K s := fun g a w hi => by
  have h1 := rep_ev hi.tm d
  rw [hc] at h1
  simp only [rep] at h1
  exact wpIn_cond_split h1 (fun h => ht h g a w hi) (fun h => hf h g a w hi)
theorem WK_rounds (m : Nat) (h : WR E c K m s) : WK E (.loop c) K s := fun g a w hi => wpIn_loop_rounds m (h g a w hi)
theorem WR_succ {m : Nat} (h : WK E c (Exit.then (Code.roundsIn (fo E.rd) 0 E.P c K m) K) s) : WR E c K (m + 1) s := fun g a w hi => h g a w hi
end

/-- A frame rooted in a later world of the same call: objects beside the engine's memory lie there as told. -/
structure Rt (w0 : World) (I0 : Nat → Nat → Prop) (M0 : Nat → Prop) (w1 : World) (M : Nat → Prop) (I1 : Nat → Nat → Prop) (os : List (Nat × Obj)) : Prop where
  below : BelowM w0.heap.size M0 w0 w1
  Mn : ∀ k, M k → w0.heap.size ≤ k
  old : ∀ b o, I0 b o → I1 b o
  new : ∀ b o, I1 b o → I0 b o ∨ w0.heap.size ≤ b
  obs : ∀ p ∈ os, w1.heap[p.1]? = some p.2 ∧ (∀ o, ¬ I1 p.1 o) ∧ (w0.heap.size ≤ p.1 ∨ M0 p.1) ∧ ¬ M p.1
abbrev Ek (P : Program) (w1 : World) (nt : Nat) (M : Nat → Prop) (I1 : Nat → Nat → Prop) : En := ⟨P, w1.heap.size, w1, nt, M, [], I1, fun _ _ _ => False, none, []⟩
abbrev E0M (P : Program) (w0 : World) (nt : Nat) (I0 : Nat → Nat → Prop) (M0 : Nat → Prop) : En := ⟨P, w0.heap.size, w0, nt, M0, [], I0, fun _ _ _ => False, none, []⟩
theorem Rt.start (w0 : World) (I0 : Nat → Nat → Prop) (M0 : Nat → Prop := fun _ => False) : Rt w0 I0 M0 w0 (fun _ => False) I0 [] := ⟨BelowM.refl _ _ _, fun _ h => h.elim, fun _ _ h => h, fun _ _ h => .inl h, fun _ h => by cases h⟩
section
variable {P : Program} {nt : Nat} {w0 w1 : World} {I0 I1 : Nat → Nat → Prop} {M M0 : Nat → Prop} {os : List (Nat × Obj)} {K : Exit → Act → World → Prop} {c : Code}
theorem Rt.invM (hR : Rt w0 I0 M0 w1 M I1 os) {g : Gh} {s : St} {a : Act} {w : World} (hi : Inv (Ek P w1 nt M I1) g s a w) : Inv (E0M P w0 nt I0 M0) g s a w := by
  have hm := hi.mem
  have hsz := hR.below.size
  have hk : ∀ k, (w1.heap.size ≤ k ∨ M k) → w0.heap.size ≤ k := fun k h => h.elim (fun h => Nat.le_trans hsz h) (hR.Mn k)
  refine ⟨{ below := ⟨hm.below.os.trans hR.below.os, hm.below.tape.trans hR.below.tape, hm.below.output.trans hR.below.output, Nat.le_trans hsz hm.below.size, fun k hk0 hM0 => ?_⟩
            base := Nat.le_trans hsz hm.base, cell := hm.cell, mfr := fun n b hn => ⟨.inr (.inl (hk b (by have := (hm.mfr n b hn).1; simpa using this))), (hm.mfr n b hn).2⟩
            ofr := fun n b h1 h2 => ⟨.inl (hk b (by have := (hm.ofr n b h1 h2).1; simpa using this)), (hm.ofr n b h1 h2).2⟩, minj := hm.minj, oinj := hm.oinj, disj := hm.disj, blk := hm.blk, key := hm.key, own := hm.own
            inew := fun b o h => by
              rcases hm.inew b o h with h1 | h1
              · exact (hR.new b o h1).imp id .inl
              · exact .inr (.inl (hk b (by simpa using h1)))
            iold := fun b o h => hm.iold b o (hR.old b o h), pin := fun _ _ _ h => h.elim }, hi.tm, hi.de, hi.sz⟩
  have hk1 : k < w0.heap.size := hk0
  have h1 : ¬ M k := fun h => by have := hR.Mn k h; omega
  exact (hm.below.block k (by show k < w1.heap.size; omega) h1).trans (hR.below.block k hk0 hM0)
theorem Rt.inv (hR : Rt w0 I0 (fun _ => False) w1 M I1 os) {g : Gh} {s : St} {a : Act} {w : World} (hi : Inv (Ek P w1 nt M I1) g s a w) : Inv (E0 P w0 nt I0 none []) g s a w := hR.invM hi
theorem Rt.here (hR : Rt w0 I0 M0 w1 M I1 os) {g : Gh} {s : St} {a : Act} {w : World} (hi : Inv (Ek P w1 nt M I1) g s a w) : ∀ p ∈ os, w.heap[p.1]? = some p.2 := fun p hp => by
  obtain ⟨h1, h2, h3, h4⟩ := hR.obs p hp
  exact (hi.mem.below.block p.1 (Array.getElem?_eq_some_iff.1 h1).1 h4).trans h1
/-- The world turns at such objects: the state stands, rooted anew. -/
theorem Rt.turn (hR : Rt w0 I0 M0 w1 M I1 os) {g : Gh} {s : St} {a : Act} {w w' : World} (hi : Inv (Ek P w1 nt M I1) g s a w) (hB : BelowM w.heap.size (fun b => ∃ ob, (b, ob) ∈ os) w w') {os' : List (Nat × Obj)}
    (ho : ∀ p ∈ os', w'.heap[p.1]? = some p.2 ∧ ((∃ ob, (p.1, ob) ∈ os) ∨ w.heap.size ≤ p.1 ∨ ((w0.heap.size ≤ p.1 ∨ M0 p.1) ∧ (∀ o, ¬ g.I p.1 o) ∧ ¬ Ob g p.1))) : Rt w0 I0 M0 w' (Ob g) g.I os' ∧ Inv (Ek P w' nt (Ob g) g.I) g s a w' ∧ Goes g w g w' := by
  have hm := hi.mem
  have hsz := hR.below.size
  have hb := hR.invM hi
  have hbase : w1.heap.size ≤ w.heap.size := hm.base
  have hOb : ∀ k, Ob g k → (w1.heap.size ≤ k ∨ M k) ∧ k < w.heap.size := fun k h => by
    rcases h with ⟨n, hn⟩ | ⟨n, h1, h2⟩
    · exact ⟨by have := (hm.mfr n k hn).1; simpa using this, (hm.mfr n k hn).2⟩
    · exact ⟨by have := (hm.ofr n k h1 h2).1; simpa using this, (hm.ofr n k h1 h2).2⟩
  have hk : ∀ k, (w1.heap.size ≤ k ∨ M k) → w0.heap.size ≤ k := fun k h => h.elim (fun h => Nat.le_trans hsz h) (hR.Mn k)
  have hlt : ∀ p ∈ os, p.1 < w1.heap.size := fun p hp => (Array.getElem?_eq_some_iff.1 (hR.obs p hp).1).1
  have nOb : ∀ k ob, (k, ob) ∈ os → ¬ Ob g k := fun k ob h hO => by
    have h1 := hlt _ h
    have h2 := (hR.obs _ h).2.2.2
    rcases (hOb k hO).1 with h3 | h3
    · simp only at h1; omega
    · exact h2 h3
  have nI : ∀ k ob, (k, ob) ∈ os → ∀ o, ¬ g.I k o := fun k ob h o hI => by
    have h1 := hlt _ h
    have h2 := (hR.obs _ h).2
    rcases hm.inew k o hI with h3 | h3
    · exact h2.1 o h3
    · rcases h3 with h3 | h3
      · simp only at h1 h3; omega
      · exact h2.2.2 h3
  have same : ∀ k, k < w.heap.size → (∀ ob, (k, ob) ∉ os) → w'.heap[k]? = w.heap[k]? := fun k h1 h2 => hB.block k h1 fun ⟨ob, h⟩ => h2 ob h
  have sameO : ∀ k, Ob g k → w'.heap[k]? = w.heap[k]? := fun k h => same k (hOb k h).2 fun ob h2 => nOb k ob h2 h
  have keeps : Keeps g.I w w' := fun b o hI => World.cell?_of_block (a := ⟨b, o, none⟩) (same b (cell_lt (hm.cell b o hI)) fun ob h => nI b ob h o hI)
  have goes : Goes g w g w' := ⟨fun _ _ h => h, keeps, fun _ _ h => h, fun _ _ _ => rfl, fun n T e rows y hy =>
    ownRep_goes (g := g) (g' := g) (fun _ _ h => h) keeps (fun _ h => ⟨h, rfl⟩) (fun k c h1 h2 => sameO c (.inr ⟨k, h1, h2⟩)) (fun _ _ _ _ _ h => h) hy⟩
  refine ⟨⟨?_, fun k h => hk k (hOb k h).1, fun b o h => hm.iold b o (hR.old b o h), fun b o h => ?_, fun p hp => ?_⟩, ⟨?_, fun t => rep_goes goes (hi.tm t), hi.de, hi.sz⟩, goes⟩
  · refine ⟨hB.os.trans hb.mem.below.os, hB.tape.trans hb.mem.below.tape, hB.output.trans hb.mem.below.output, Nat.le_trans hb.mem.below.size hB.size, fun k hk0 hM => (same k (Nat.lt_of_lt_of_le hk0 hb.mem.base) fun ob h => ?_).trans (hb.mem.below.block k hk0 hM)⟩
    rcases (hR.obs _ h).2.2.1 with h1 | h1
    · simp only at h1; omega
    · exact hM h1
  · rcases hm.inew b o h with h1 | h1
    · exact hR.new b o h1
    · exact .inr (hk b (by simpa using h1))
  · obtain ⟨h1, h3⟩ := ho p hp
    rcases h3 with ⟨ob, h⟩ | h | h
    · exact ⟨h1, nI _ ob h, (hR.obs _ h).2.2.1, nOb _ ob h⟩
    · refine ⟨h1, fun o hI => ?_, .inl (Nat.le_trans hb.mem.base h), fun hO => ?_⟩
      · have := cell_lt (hm.cell _ o hI); omega
      · have := (hOb _ hO).2; omega
    · exact ⟨h1, h.2.1, h.1, h.2.2⟩
  · exact { below := BelowM.refl _ _ _, base := Nat.le_refl _, cell := fun b o hI => by rw [keeps b o hI]; exact hm.cell b o hI, mfr := fun n b hn => ⟨.inr (.inr (.inl ⟨n, hn⟩)), Nat.lt_of_lt_of_le (hm.mfr n b hn).2 hB.size⟩, ofr := fun n b h1 h2 => ⟨.inr (.inr ⟨n, h1, h2⟩), Nat.lt_of_lt_of_le (hm.ofr n b h1 h2).2 hB.size⟩,
            minj := hm.minj, oinj := hm.oinj, disj := hm.disj, blk := fun n cs hn => let ⟨b, arr, h1, h2, h3, h4⟩ := hm.blk n cs hn; ⟨b, arr, h1, (sameO b (.inl ⟨n, h1⟩)).trans h2, reps_goes goes h3, h4⟩,
            key := hm.key, own := hm.own, inew := fun _ _ h => .inl h, iold := fun _ _ h => h, pin := fun _ _ _ h => h.elim }
/-- The end of a function, its objects dropped. -/
theorem kQ_ret {fn : Func} {rs : Array ResultVar} {R : AV → Prop} (hR : Rt w0 I0 (fun _ => False) w1 M I1 os) (hrs : fn.results = rs) {s : St} (h : retQ (E0 P w0 nt I0 none []) rs.toList R .ret s) : kQ (Ek P w1 nt M I1) (markK P fn I0 w0 R) .ret s := fun g a w hi => mark_ret hrs h g a w (hR.inv hi)
end

/-! ### Maps with integer keys -/
/-! ### Loops whose rounds turn such objects -/
def nextO (P : Program) (w0 : World) (nt : Nat) (I0 : Nat → Nat → Prop) (M0 : Nat → Prop) {ι : Type} (J : ι → Prop) (μ : ι → Nat) (X : ι → St) (osf : ι → List (Nat × Obj)) (i : ι) (K : Exit → Act → World → Prop) : Exit → Act → World → Prop
  | .normal, a, w => ∃ j, J j ∧ μ j < μ i ∧ ∃ w1 M I1 g, Rt w0 I0 M0 w1 M I1 (osf j) ∧ Inv (Ek P w1 nt M I1) g (X j) a w
  | e, a, w => K e a w
section
variable {P : Program} {nt : Nat} {w0 w1 : World} {I0 I1 : Nat → Nat → Prop} {M M0 : Nat → Prop} {K : Exit → Act → World → Prop} {c : Code} {ι : Type} {J : ι → Prop} {μ : ι → Nat} {X : ι → St} {osf : ι → List (Nat × Obj)}
theorem WK_loopO (J : ι → Prop) (μ : ι → Nat) (X : ι → St) (osf : ι → List (Nat × Obj)) (i0 : ι) {s : St} (hR : Rt w0 I0 M0 w1 M I1 (osf i0)) (hJ : J i0) (h0 : Weak (Ek P w1 nt M I1) s (X i0))
    (round : ∀ i, J i → ∀ w1 M I1, Rt w0 I0 M0 w1 M I1 (osf i) → WK (Ek P w1 nt M I1) c (nextO P w0 nt I0 M0 J μ X osf i K) (X i)) : WK (Ek P w1 nt M I1) (.loop c) K s := by
  refine WK_weak h0 (WK_rounds (μ i0 + 1) ?_)
  have key : ∀ m i, μ i ≤ m → J i → ∀ w1 M I1, Rt w0 I0 M0 w1 M I1 (osf i) → WR (Ek P w1 nt M I1) c K (m + 1) (X i) := by
    intro m
    induction m with
    | zero =>
      intro i hi hj w1 M I1 hR
      refine WR_succ fun g a w hI => wpIn_mono (round i hj w1 M I1 hR g a w hI) fun e a' w' hq => ?_
      cases e with
      | normal => obtain ⟨j, _, hlt, _⟩ := hq; omega
      | _ => exact hq
    | succ m ih =>
      intro i hi hj w1 M I1 hR
      refine WR_succ fun g a w hI => wpIn_mono (round i hj w1 M I1 hR g a w hI) fun e a' w' hq => ?_
      cases e with
      | normal =>
        obtain ⟨j, hj, hlt, w1, M, I1, g, hR', hI'⟩ := hq
        exact ih j (by omega) hj w1 M I1 hR' g a' w' hI'
      | _ => exact hq
  exact key _ i0 (Nat.le_refl _) hJ w1 M I1 hR
theorem kQ_next {i : ι} {s : St} {os : List (Nat × Obj)} (j : ι) (hJ : J j) (hlt : μ j < μ i) (hR : Rt w0 I0 M0 w1 M I1 os) (ho : os = osf j) (hw : Weak (Ek P w1 nt M I1) s (X j)) : kQ (Ek P w1 nt M I1) (nextO P w0 nt I0 M0 J μ X osf i K) .normal s := fun g a w hi => by
  subst ho
  obtain ⟨g', hi'⟩ := hw g a w hi
  exact ⟨j, hJ, hlt, w1, M, I1, g', hR, hi'⟩
end
section
variable {P : Program} {nt : Nat} {w1 : World} {I1 : Nat → Nat → Prop} {M : Nat → Prop} {K : Exit → Act → World → Prop} {c : Code} {s : St} {id : Nat}
theorem kQ_then (h : WK (Ek P w1 nt M I1) c K s) : kQ (Ek P w1 nt M I1) (Exit.then (fun a w => c.wpIn (fo none) 0 P K a w) K) .normal s := h
theorem kQ_blk (h : kQ (Ek P w1 nt M I1) K .normal s) : kQ (Ek P w1 nt M I1) (Exit.inBlock id K) .normal s := h
theorem kQ_exit (h : kQ (Ek P w1 nt M I1) K .normal s) : kQ (Ek P w1 nt M I1) (Exit.inBlock id K) (.exit id) s := fun g a w hi => by
  simp only [Exit.inBlock, if_true]
  exact h g a w hi
theorem kQ_nextE {w0 : World} {I0 : Nat → Nat → Prop} {M0 : Nat → Prop} {ι : Type} {J : ι → Prop} {μ : ι → Nat} {X : ι → St} {osf : ι → List (Nat × Obj)} {i : ι} {id : Nat} (h : kQ (Ek P w1 nt M I1) K (.exit id) s) : kQ (Ek P w1 nt M I1) (nextO P w0 nt I0 M0 J μ X osf i K) (.exit id) s := h
end
section
variable {E : En} {bl : List (Nat × List AV)} {tm : List (Nat × AV)} {d : Option Tmp} {ty : TypeId} {pos : String} {af : Array Edge} {gd : Option (Nat × Bool)}
end
theorem kQ_thenE {P : Program} {nt : Nat} {w1 : World} {I1 : Nat → Nat → Prop} {M : Nat → Prop} {K : Exit → Act → World → Prop} {s : St} {id : Nat} {Y : Act → World → Prop} (h : kQ (Ek P w1 nt M I1) K (.exit id) s) : kQ (Ek P w1 nt M I1) (Exit.then Y K) (.exit id) s := h
end Go.Eng

namespace Go.Eng
open Go Go.RowKit

section
variable {E : En} {bl : List (Nat × List AV)} {tm : List (Nat × AV)} {d : Option Tmp} {ty : TypeId} {pos : String} {af : Array Edge} {gd : Option (Nat × Bool)}
end
end Go.Eng

namespace Go.Eng
open Go

/-- Only new blocks have been made. -/
theorem Mem.later {E : En} {g : Gh} {bl : List (Nat × List AV)} {ow : List Nat} {w w' : World} (hm : Mem E g bl ow w) (hB : BelowM w.heap.size (fun _ => False) w w') : Goes g w g w' ∧ Mem E g bl ow w' := by
  have heap : ∀ k, k < w.heap.size → w'.heap[k]? = w.heap[k]? := fun k hk => hB.block k hk (fun h => h)
  have hsz := hB.size
  have keeps : Keeps g.I w w' := fun b o hb => World.cell?_of_block (a := ⟨b, o, none⟩) (heap b (cell_lt (hm.cell b o hb)))
  have goes : Goes g w g w' := ⟨fun _ _ h => h, keeps, fun _ _ h => h, fun _ _ _ => rfl, fun k T' e' rows' y' hy' => ownRep_goes (g := g) (g' := g) (fun _ _ h => h) keeps (fun k hk => ⟨hk, rfl⟩) (fun k b' k1 k2 => heap b' (hm.ofr k b' k1 k2).2) (fun _ _ _ _ _ h => h) hy'⟩
  exact ⟨goes, { below := ⟨hB.os.trans hm.below.os, hB.tape.trans hm.below.tape, hB.output.trans hm.below.output, Nat.le_trans hm.below.size hsz, fun k hk hM => (heap k (Nat.lt_of_lt_of_le hk hm.base)).trans (hm.below.block k hk hM)⟩
                 base := Nat.le_trans hm.base hsz, cell := fun b' o hbo => by rw [keeps b' o hbo]; exact hm.cell b' o hbo, mfr := fun k b' hk => ⟨(hm.mfr k b' hk).1, Nat.lt_of_lt_of_le (hm.mfr k b' hk).2 hsz⟩
                 ofr := fun k b' k1 k2 => ⟨(hm.ofr k b' k1 k2).1, Nat.lt_of_lt_of_le (hm.ofr k b' k1 k2).2 hsz⟩, minj := hm.minj, oinj := hm.oinj, disj := hm.disj
                 blk := fun k ds hk => let ⟨b', arr', q1, q2, q3, q4⟩ := hm.blk k ds hk; ⟨b', arr', q1, (heap b' (hm.mfr k b' q1).2).trans q2, reps_goes goes q3, q4⟩
                 key := hm.key, own := hm.own, inew := hm.inew, iold := hm.iold, pin := hm.pin }⟩
section
variable {E : En} {ops : Array Oper} {rest : List Oper} {Q : Exit → St → Prop} {tm : List (Nat × AV)} {bl : List (Nat × List AV)} {ow : List Nat} {d : Nat} {ty : TypeId} {pos : String} {af : Array Edge}
end
section
variable {E : En} {bl : List (Nat × List AV)} {tm : List (Nat × AV)} {d : Option Tmp} {ty : TypeId} {pos : String} {af : Array Edge} {gd : Option (Nat × Bool)}
end
section
variable {E : En} {ops : Array Oper} {rest : List Oper} {Q : Exit → St → Prop} {tm : List (Nat × AV)} {bl : List (Nat × List AV)} {ow : List Nat} {d n n' : Nat} {op : Op} {ty : TypeId} {pos : String} {af : Array Edge} {gd : Option (Nat × Bool)} {v : AV}
end
end Go.Eng

namespace Go.Eng
open Go Go.RowKit

def gh0 (I : Nat → Nat → Prop) : Gh := ⟨I, fun _ => none, fun _ => none, fun _ => False, fun _ => 0⟩
/-- A function's contract in the raw, captured variables among its arguments. -/
theorem callsIn_of_WK {P : Program} {f nt n : Nat} {fn : Func} {rs : Array ResultVar} {c : Code} {args : List AV} {tm : List (Nat × AV)} {Rr : Ending → World → Prop} (hf : P.funcs[f]? = some fn) (hnt : fn.ntmps = nt) (hrs : fn.results = rs) (hb : fn.body = some c) (hn : Nat.ble args.length nt = true)
    (htm : ((args.zipIdx 0).map fun p => (p.2, p.1)) = tm) {I : Nat → Nat → Prop} {w : World} {vals : Array Value} (hI : ∀ b o, I b o → (w.cell? ⟨b, o, none⟩).isSome = true) (hargs : reps (gh0 I) w args vals.toList)
    (h : ∀ fn : Func, fn.results = rs → WK (E0 P w nt I none []) c (bodyPostM (fo none) 0 P fn Rr) ⟨tm, [], []⟩) : CallsIn Fence.wide n P f vals w Rr := by
  subst hnt; subst htm
  have hn' := Nat.le_of_ble_eq_true hn
  have hlen := reps_length hargs
  refine callsIn_wide.2 (callsIn_wide.1 (callsIn_of_wp_marks (F := fo none) (n := 0) hf hb trivial ?_ rfl))
  refine h fn hrs (gh0 I) _ w ⟨⟨BelowM.refl _ _ _, Nat.le_refl _, hI, fun n b h => by simp [gh0] at h, fun n b h => by simp [gh0] at h, fun n n' b h => by simp [gh0] at h, fun n n' b h => by simp [gh0] at h, fun n n' b h => by simp [gh0] at h,
    fun n cs h => by simp at h, fun n b h => by simp [gh0] at h, fun n h => by simp [gh0] at h, fun b o h => .inl h, fun b o h => h, fun n b T h => h.elim⟩, fun t => ?_, rfl, ?_⟩
  · simp only [look_zip, Nat.zero_le, if_true, Nat.sub_zero]
    rcases Nat.lt_or_ge t args.length with h1 | h1
    · obtain ⟨y, hy, hr⟩ := reps_get hargs (List.getElem?_eq_getElem h1)
      have : t < vals.size := by simpa [← hlen] using h1
      have hy' : vals[t] = y := by simpa [this] using hy
      simp only [List.getD_eq_getElem?_getD, List.getElem?_eq_getElem h1, Option.getD_some]
      simp only [Array.getD_eq_getD_getElem?, Array.getElem?_append_left this, Array.getElem?_eq_getElem this, Option.getD_some, hy']
      exact hr
    · simp only [List.getD_eq_getElem?_getD, List.getElem?_eq_none h1, Option.getD_none, rep]
  · have : vals.size = args.length := by simpa using hlen
    simp; omega
theorem look_raw {g : Gh} {w : World} {tmps : Array Value} : ∀ {rtm : List (Nat × Value)}, (∀ p ∈ rtm, tmps.getD p.1 undef = p.2) → ∀ t, rep g w (look (rtm.map fun p => (p.1, .v p.2)) t) (tmps.getD t undef)
  | [], _, t => by simp [look, rep]
  | p :: r, h, t => by
    simp only [List.map_cons, look]
    cases hb : Nat.beq p.1 t
    · exact look_raw (fun q hq => h q (by simp [hq])) t
    · have := Nat.eq_of_beq_eq_true hb
      simp only [cond_true, rep]
      rw [← this]; exact h p (by simp)
end Go.Eng

namespace Go.Eng
open Go Go.RowKit

section
variable {P : Program} {nt : Nat} {w0 w1 : World} {I0 I1 : Nat → Nat → Prop} {M M0 : Nat → Prop} {os : List (Nat × Obj)} {K : Exit → Act → World → Prop} {ops : Array Oper} {o : Oper} {rest : List Oper} {tm : List (Nat × AV)} {bl : List (Nat × List AV)} {ow : List Nat}
theorem Rt.apart (hR : Rt w0 I0 M0 w1 M I1 os) {g : Gh} {s : St} {a : Act} {w : World} (hi : Inv (Ek P w1 nt M I1) g s a w) : ∀ p ∈ os, w.heap[p.1]? = some p.2 ∧ (w0.heap.size ≤ p.1 ∨ M0 p.1) ∧ (∀ o, ¬ g.I p.1 o) ∧ ¬ Ob g p.1 := fun p hp => by
  obtain ⟨hR', _, _⟩ := hR.turn (os' := os) hi (BelowM.refl _ _ _) (fun q hq => ⟨hR.here hi q hq, .inl ⟨q.2, hq⟩⟩)
  obtain ⟨h1, h2, h3, h4⟩ := hR'.obs p hp
  exact ⟨h1, h3, h2, h4⟩
/-- A guard that lets its operation by. -/
theorem WLK_guard {E : En} {s : St} {d : Option Tmp} {op : Op} {ty : TypeId} {pos : String} {af : Array Edge} {j dg : Nat} {b : Bool} (hj : (ops[j]?).bind (·.dst) = some dg) (hb : look s.tm dg = .v (.bool b)) (h : WLK E ops (⟨d, op, ty, pos, af, none⟩ :: rest) K s) : WLK E ops (⟨d, op, ty, pos, af, some (j, b)⟩ :: rest) K s := by
  intro g a w hi
  have h1 := hi.tm dg
  rw [hb] at h1
  simp only [rep] at h1
  have h2 := h g a w hi
  unfold wpListIn at h2 ⊢
  rw [show Region.wanted ⟨d, op, ty, pos, af, none⟩ (yielded ops a.tmps) = true by simp [Region.wanted]] at h2
  rw [show Region.wanted ⟨d, op, ty, pos, af, some (j, b)⟩ (yielded ops a.tmps) = true by simp [Region.wanted, yielded_of hj h1]]
  exact h2
/-- One operation, its outcome in the raw. -/
theorem WLK_opB (hR : Rt w0 I0 M0 w1 M I1 os) (hg : o.guard = none) (hd : dstB nt o = true)
    (h : ∀ g a w, Inv (Ek P w1 nt M I1) g ⟨tm, bl, ow⟩ a w → (∀ p ∈ os, w.heap[p.1]? = some p.2) → UponQ P (fun y w' => ∃ os' : List (Nat × Obj), BelowM w.heap.size (fun b => ∃ ob, (b, ob) ∈ os) w w' ∧ (∀ p ∈ os', w'.heap[p.1]? = some p.2 ∧ ((∃ ob, (p.1, ob) ∈ os) ∨ w.heap.size ≤ p.1)) ∧
      ∀ (M' : Nat → Prop) (I' : Nat → Nat → Prop), Rt w0 I0 M0 w' M' I' os' → WLK (Ek P w' nt M' I') ops rest K ((⟨tm, bl, ow⟩ : St).app o.dst (.v y) [] [])) ((execOp a.eval o).run P w)) : WLK (Ek P w1 nt M I1) ops (o :: rest) K ⟨tm, bl, ow⟩ := by
  intro g a w hi
  unfold wpListIn
  have : Region.wanted o (yielded ops a.tmps) = true := by simp [Region.wanted, hg]
  rw [this]
  refine wp_of_uponQ (h g a w hi (hR.here hi)) fun y w' ⟨os', k1, k2, k3⟩ => ?_
  obtain ⟨hR', hi', _⟩ := hR.turn (os' := os') hi k1 (fun p hp => ⟨(k2 p hp).1, (k2 p hp).2.imp id .inl⟩)
  exact k3 _ _ hR' _ _ _ (hi'.app (nb := []) (no := []) (dstB_spec hd) (Goes.refl _ _) hi'.mem (by simp [rep]))
theorem mem_none (P : Program) (w : World) (nt : Nat) : Mem (Ek P w nt (fun _ => False) (fun _ _ => False)) (gh0 fun _ _ => False) [] [] w :=
  ⟨BelowM.refl _ _ _, Nat.le_refl _, fun _ _ h => h.elim, fun n b h => by simp [gh0] at h, fun n b h => by simp [gh0] at h, fun n n' b h => by simp [gh0] at h, fun n n' b h => by simp [gh0] at h, fun n n' b h => by simp [gh0] at h,
    fun n cs h => by simp at h, fun n b h => by simp [gh0] at h, fun n h => by simp [gh0] at h, fun b o h => .inl h, fun b o h => h, fun n b T h => h.elim⟩
theorem reps_vals {g : Gh} {w : World} : ∀ {vs ys : List Value}, reps g w (vs.map AV.v) ys → ys = vs
  | [], ys, h => by simpa [reps] using h
  | v :: vs, ys, h => by
    simp only [List.map_cons, reps, rep] at h
    obtain ⟨y, zs, rfl, rfl, h2⟩ := h
    rw [reps_vals h2]
/-- A literal of a slice whose block is known by its number from now on. -/
theorem WLK_raw {T len : Nat} {vs : List Value} (hR : Rt w0 I0 M0 w1 M I1 os) (hg : o.guard = none) (hd : dstB nt o = true) (rtm : List (Nat × Value)) (hrtm : ∀ p ∈ rtm, look tm p.1 = .v p.2)
    (h : ∀ w, QV (Ek P w nt (fun _ => False) (fun _ _ => False)) [] (rtm.map fun p => (p.1, .v p.2)) o (.arr 0 T 1 len) [(0, vs.map AV.v)] [])
    (hk : ∀ (b : Nat) (w' : World) (M' : Nat → Prop) (I' : Nat → Nat → Prop), (∀ p ∈ os, p.1 < b) → Rt w0 I0 M0 w' M' I' (os ++ [(b, .cells vs.toArray T (0, 0))]) → WLK (Ek P w' nt M' I') ops rest K ((⟨tm, bl, ow⟩ : St).app o.dst (.v (.slice (some ⟨b, 0, none⟩) len len)) [] [])) :
    WLK (Ek P w1 nt M I1) ops (o :: rest) K ⟨tm, bl, ow⟩ := by
  refine WLK_opB hR hg hd fun g a w hi hobs => ?_
  have htm : ∀ t, rep (gh0 fun _ _ => False) w (look (rtm.map fun p => (p.1, .v p.2)) t) (a.tmps.getD t undef) := look_raw fun p hp => by
    have := hi.tm p.1
    rw [hrtm p hp] at this
    simpa only [rep] using this
  refine (h w (gh0 fun _ _ => False) w a.eval [] [] (mem_none P w nt) (fun p hp => by simp at hp) (fun _ _ _ hq => by simp at hq) (fun _ hn => by simp at hn) (fun x _ => rep_ev htm x)).mono fun y w' hq => ?_
  obtain ⟨g', _, hm, hr⟩ := hq
  simp only [rep] at hr
  obtain ⟨b, c, h1, h2, rfl, _, h3⟩ := hr
  obtain ⟨b', arr, k1, k2, k3, _⟩ := hm.blk 0 (vs.map AV.v) (by simp)
  rw [h1] at k1
  cases k1
  rw [h2] at k2
  have hb : w.heap.size ≤ b := by have := (hm.mfr 0 b h1).1; simpa using this
  have earr : arr = vs.toArray := by
    apply Array.ext'
    simpa using reps_vals k3
  rw [earr] at k2
  have hc : c = len := h3 (by decide)
  rw [hc]
  refine ⟨os ++ [(b, .cells vs.toArray T (0, 0))], ⟨hm.below.os, hm.below.tape, hm.below.output, hm.below.size, fun k hk _ => hm.below.block k hk (fun h => h)⟩, fun p hp => ?_, fun M' I' hR' => hk b w' M' I' (fun p hp => ?_) hR'⟩
  · rcases List.mem_append.1 hp with hp | hp
    · exact ⟨(hm.below.block p.1 (Array.getElem?_eq_some_iff.1 (hobs p hp)).1 (fun h => h)).trans (hobs p hp), .inl ⟨p.2, hp⟩⟩
    · rw [List.mem_singleton.1 hp]
      exact ⟨k2, .inr hb⟩
  · exact Nat.lt_of_lt_of_le (Array.getElem?_eq_some_iff.1 (hobs p hp)).1 hb
end

/-! ### Calls -/
/-- A call that has seen the call's own arrays, too; it hands back one slice of its own that holds plain values. -/
theorem Mem.called2 {E : En} {g g' : Gh} {bl : List (Nat × List AV)} {ow : List Nat} {w w' : World} (h : Mem E g bl ow w) (hr : Ret (seen g w) w g' w') (k n : Nat) (hf : k + n ∉ ow) :
    ∃ gc, Goes g w gc w' ∧ Mem E gc bl ((k + n) :: ow) w' ∧ (∀ b o, gc.I b o → g.I b o ∨ g'.I b o) ∧ (∀ {T e rows y}, (∀ x ∈ rows.flatten, plain x = true) → ownRep g' w' n T e rows y → ownRep gc w' (k + n) T e rows y) ∧ ∀ b, Ob gc b → Ob g b ∨ ∃ n, g'.ow n ∧ g'.om n = some b := by
  let gc : Gh := { I := fun b o => g.I b o ∨ (w.heap.size ≤ b ∧ g'.I b o), m := g.m, om := fun j => if j ∈ ow then g.om j else g'.om (j - k), ow := fun j => g.ow j ∨ (j ∉ ow ∧ j = k + n ∧ g'.ow n), mt := g.mt }
  have heap : ∀ b, b < w.heap.size → w'.heap[b]? = w.heap[b]? := fun b hb => hr.below.block b hb (fun h => h)
  have hIlt : ∀ b o, g.I b o → b < w.heap.size := fun b o hb => cell_lt (h.cell b o hb)
  have keeps : Keeps g.I w w' := fun b o hb => World.cell?_of_block (a := ⟨b, o, none⟩) (heap b (hIlt b o hb))
  have how : ∀ j, g.ow j → gc.ow j ∧ gc.om j = g.om j := fun j hj => ⟨.inl hj, by simp only [gc, h.own j hj, if_true]⟩
  have hI2 : ∀ b o, b < w.heap.size → gc.I b o → g.I b o := fun b o hb hI => hI.resolve_right (by omega)
  have hoc : ∀ j b, gc.ow j → gc.om j = some b → (g.ow j ∧ g.om j = some b) ∨ (j = k + n ∧ g'.ow n ∧ g'.om n = some b) := by
    intro j b h1 h2
    rcases h1 with h1 | ⟨h1, rfl, h3⟩
    · exact .inl ⟨h1, by rw [(how j h1).2] at h2; exact h2⟩
    · simp only [gc, h1, if_false, Nat.add_sub_cancel_left] at h2
      exact .inr ⟨rfl, h3, h2⟩
  have goes : Goes g w gc w' := ⟨fun _ _ h => .inl h, keeps, fun _ _ h => h, fun _ _ _ => rfl, fun n T e rows y hy => ownRep_goes (g := g) (g' := gc) (fun _ _ h => .inl h) keeps how (fun n b h1 h2 => heap b (h.ofr n b h1 h2).2) (fun n b o h1 h2 h3 => hI2 b o (h.ofr n b h1 h2).2 h3) hy⟩
  have hsz := hr.below.size
  refine ⟨gc, goes, ?_, fun b o hI => hI.imp id (fun h => h.2), fun {T e rows y} hpl hy => ?_, fun b hb => ?_⟩
  · refine { below := ⟨hr.below.os.trans h.below.os, hr.below.tape.trans h.below.tape, hr.below.output.trans h.below.output, Nat.le_trans h.below.size hsz, fun j hj hM => (heap j (Nat.lt_of_lt_of_le hj h.base)).trans (h.below.block j hj hM)⟩,
             base := Nat.le_trans h.base hsz, cell := fun b o hI => ?_, mfr := fun n b hn => ⟨(h.mfr n b hn).1, Nat.lt_of_lt_of_le (h.mfr n b hn).2 hsz⟩, ofr := ?_, minj := h.minj, oinj := ?_, disj := ?_, blk := ?_, key := h.key, own := ?_, inew := ?_, iold := fun b o hb => .inl (h.iold b o hb), pin := h.pin }
    · rcases hI with hI | hI
      · rw [keeps b o hI]; exact h.cell b o hI
      · exact hr.cell b o hI.2
    · intro j b h1 h2
      rcases hoc j b h1 h2 with ⟨h3, h4⟩ | ⟨_, h3, h4⟩
      · exact ⟨(h.ofr j b h3 h4).1, Nat.lt_of_lt_of_le (h.ofr j b h3 h4).2 hsz⟩
      · have := hr.own n b h3 h4
        exact ⟨.inl (Nat.le_trans h.base this.1), this.2⟩
    · intro j j' b h1 h1' h2 h2'
      rcases hoc j b h1 h2 with ⟨h3, h4⟩ | ⟨rfl, h3, h4⟩ <;> rcases hoc j' b h1' h2' with ⟨h5, h6⟩ | ⟨rfl, h5, h6⟩
      · exact h.oinj j j' b h3 h5 h4 h6
      · have h7 := (h.ofr j b h3 h4).2; have h8 := (hr.own n b h5 h6).1; omega
      · have h7 := (h.ofr j' b h5 h6).2; have h8 := (hr.own n b h3 h4).1; omega
      · rfl
    · intro j j' b h1 h2 h3
      rcases hoc j' b h2 h3 with ⟨h4, h5⟩ | ⟨rfl, h4, h5⟩
      · exact h.disj j j' b h1 h4 h5
      · have h7 := (h.mfr j b h1).2; have h8 := (hr.own n b h4 h5).1; omega
    · intro n cs hn
      obtain ⟨b, arr, h1, h2, h3, h4⟩ := h.blk n cs hn
      have hb := (h.mfr n b h1).2
      exact ⟨b, arr, h1, (heap b hb).trans h2, reps_goes goes h3, fun o ho => h4 o (hI2 b o hb ho)⟩
    · intro j hj
      rcases hj with hj | ⟨_, rfl, _⟩
      · exact List.mem_cons_of_mem _ (h.own j hj)
      · exact List.mem_cons_self ..
    · intro b o hb
      rcases hb with hb | hb
      · exact h.inew b o hb
      · exact .inr (.inl (Nat.le_trans h.base hb.1))
  · obtain ⟨q1, q2, xs, q3, q4, q5, q6⟩ := hy
    have hom : gc.om (k + n) = g'.om n := by simp only [gc, hf, if_false, Nat.add_sub_cancel_left]
    refine ⟨.inr ⟨hf, rfl, q1⟩, q2.trans hom.symm, xs, q3, dreps_plain hpl q4, q5, fun b hb => ?_⟩
    rw [hom] at hb
    have hbn := (hr.own n b q1 hb).1
    exact ⟨fun o ho => .inr ⟨hbn, (q6 b hb).1 o ho⟩, fun o ho hI => hI.elim (fun hI => by have := hIlt b o hI; omega) (fun hI => (q6 b hb).2 o ho hI.2)⟩
  · rcases hb with ⟨n, hn⟩ | ⟨j, h1, h2⟩
    · exact .inl (.inl ⟨n, hn⟩)
    · rcases hoc j b h1 h2 with ⟨h3, h4⟩ | ⟨_, h3, h4⟩
      · exact .inl (.inr ⟨j, h3, h4⟩)
      · exact .inr ⟨n, h3, h4⟩
/-- What a call leaves that hands back arrays by their blocks' numbers, too. -/
def RawRet (I : Nat → Nat → Prop) (w : World) (r : AV) (os : List (Nat × Obj)) (y : Value) (w' : World) : Prop :=
  ∃ g', rep g' w' r y ∧ Ret I w g' w' ∧ ∀ p ∈ os, w'.heap[p.1]? = some p.2 ∧ w.heap.size ≤ p.1 ∧ (∀ o, ¬ g'.I p.1 o) ∧ ∀ n, g'.ow n → g'.om n ≠ some p.1
def CallRaw (P : Program) (f : Nat) (args : List AV) {ι : Type} (J : ι → Prop) (r : ι → AV) (osf : ι → List (Nat × Obj)) : Prop :=
  ∀ (I : Nat → Nat → Prop) (w : World) (vals : Array Value), (∀ b o, I b o → (w.cell? ⟨b, o, none⟩).isSome = true) → dreps I w args vals.toList → Calls P f vals w fun e w' => ∃ i y, J i ∧ e = .returned y ∧ RawRet I w (r i) (osf i) y w'
section
variable {P : Program} {nt : Nat} {w0 w1 : World} {I0 I1 : Nat → Nat → Prop} {M M0 : Nat → Prop} {os : List (Nat × Obj)} {K : Exit → Act → World → Prop} {ops : Array Oper} {rest : List Oper} {tm : List (Nat × AV)} {bl : List (Nat × List AV)} {ow : List Nat} {d : Nat} {ty : TypeId} {pos : String} {af : Array Edge}
theorem WLK_callRaw {x : Operand} {xs : Array Operand} {ts : Array TypeId} {f n T e : Nat} {ys : List AV} {ι : Type} {J : ι → Prop} {rows : ι → List (List AV)} {osf : ι → List (Nat × Obj)} (hR : Rt w0 I0 M0 w1 M I1 os) [hf : FnOk P f] (h : CallRaw P f ys J (fun i => .own n T e (rows i)) osf) (hpl : ∀ i, ∀ z ∈ (rows i).flatten, plain z = true) (hx : ev tm x = .v (.func (.func f) #[] #[])) (ha : LeS bl (xs.toList.map (ev tm)) ys) (k : Nat) (hfr : k + n ∉ ow) (hd : Nat.blt d nt = true)
    (hk : ∀ (i : ι) (w' : World) (M' : Nat → Prop) (I' : Nat → Nat → Prop), J i → (∀ p ∈ os, ∀ q ∈ osf i, p.1 < q.1) → Rt w0 I0 M0 w' M' I' (os ++ osf i) → WLK (Ek P w' nt M' I') ops rest K ⟨(d, .own (k + n) T e (rows i)) :: tm, bl, (k + n) :: ow⟩) :
    WLK (Ek P w1 nt M I1) ops (⟨some d, .call ⟨.value x, xs, ts⟩, ty, pos, af, none⟩ :: rest) K ⟨tm, bl, ow⟩ := by
  intro g a w hi
  unfold wpListIn
  rw [show Region.wanted ⟨some d, .call ⟨.value x, xs, ts⟩, ty, pos, af, none⟩ (yielded ops a.tmps) = true by simp [Region.wanted]]
  have h1 := rep_ev hi.tm x
  have h2 : reps g w (xs.toList.map (ev tm)) (xs.toList.map a.eval) := reps_map _ fun y _ => rep_ev hi.tm y
  rw [hx] at h1
  simp only [rep] at h1
  obtain ⟨fn, f1, f2, f3⟩ := hf.ok
  have f2' : fn.name ≠ "runtime.NumGoroutine" := by simpa using f2
  have f3' : fn.body ≠ none := fun e => by rw [e] at f3; simp at f3
  have hrun : (execOp a.eval ⟨some d, .call ⟨.value x, xs, ts⟩, ty, pos, af, none⟩).run P w = .ok (.enter f (xs.map a.eval)) w := by
    simp [execOp, resolve, Deferred.ofValue, h1, invoke, callFunc, f1, f2', f3']
  have hc := h (seen g w) w (xs.map a.eval) (seen_cell hi.mem) (by rw [Array.toList_map]; exact dreps_leS hi.mem (fun _ h => h) ha h2)
  have hdd : ∀ j, some d = some j → j < nt := fun j hj => by cases hj; exact Nat.le_of_ble_eq_true hd
  refine wp_of_uponQ (K := fun y w' => ∃ i, J i ∧ RawRet (seen g w) w (.own n T e (rows i)) (osf i) y w') ?_ fun y w' ⟨i, hJ, g', h3, h4, h5⟩ => ?_
  · show UponQ P _ _
    rw [hrun]
    exact Calls.mono hc fun e w' ⟨i, y, hJ, he, hq⟩ => ⟨y, he, i, hJ, hq⟩
  · obtain ⟨gc, go, hm, h7, h8, h9⟩ := hi.mem.called2 h4 k n hfr
    simp only [rep] at h3
    have hi2 : Inv (Ek P w1 nt M I1) gc ⟨(d, .own (k + n) T e (rows i)) :: tm, bl, (k + n) :: ow⟩ (a.put (some d) y) w' := hi.app (d := some d) (nb := []) (no := [k + n]) hdd go (by simpa using hm) (by simp only [rep]; exact h8 (hpl i) h3)
    have hw : w0.heap.size ≤ w.heap.size := (hR.invM hi).mem.base
    obtain ⟨hR', hi', _⟩ := hR.turn (os' := os ++ osf i) hi2 (BelowM.refl _ _ _) (fun p hp => by
      rcases List.mem_append.1 hp with hp | hp
      · exact ⟨hR.here hi2 p hp, .inl ⟨p.2, hp⟩⟩
      · obtain ⟨q1, q2, q3, q4⟩ := h5 p hp
        refine ⟨q1, .inr (.inr ⟨.inl (Nat.le_trans hw q2), fun o hI => ?_, fun hO => ?_⟩)⟩
        · rcases h7 _ _ hI with hI | hI
          · have := cell_lt (hi.mem.cell _ _ hI); omega
          · exact q3 o hI
        · rcases h9 _ hO with hO | ⟨n, n1, n2⟩
          · rcases hO with ⟨n, hn⟩ | ⟨n, n1, n2⟩
            · have := (hi.mem.mfr n _ hn).2; omega
            · have := (hi.mem.ofr n _ n1 n2).2; omega
          · exact q4 n n1 n2)
    refine hk i w' _ _ hJ (fun p hp q hq => ?_) hR' gc _ w' hi'
    exact Nat.lt_of_lt_of_le (Array.getElem?_eq_some_iff.1 (hR.here hi p hp)).1 (h5 q hq).2.1
/-- What is seen of such arrays. -/
def seenO (g : Gh) (w : World) (os : List (Nat × Obj)) (b o : Nat) : Prop := g.I b o ∨ ((∃ ob, (b, ob) ∈ os) ∧ (w.cell? ⟨b, o, none⟩).isSome = true)
theorem WLK_callD {x : Operand} {xs : Array Operand} {ts : Array TypeId} {f : Nat} {ys : List AV} {r : Value} (hR : Rt w0 I0 M0 w1 M I1 os) [hf : FnOk P f] (h : CallOk P f ys (fun r' => r' = .v r)) (hx : ev tm x = .v (.func (.func f) #[] #[]))
    (ha : ∀ (g : Gh) (w : World) (ρ : Operand → Value), (∀ p ∈ os, w.heap[p.1]? = some p.2) → (∀ z, rep g w (ev tm z) (ρ z)) → dreps (seenO g w os) w ys (xs.toList.map ρ)) (hd : Nat.blt d nt = true)
    (hk : WLK (Ek P w1 nt M I1) ops rest K ⟨(d, .v r) :: tm, bl, ow⟩) :
    WLK (Ek P w1 nt M I1) ops (⟨some d, .call ⟨.value x, xs, ts⟩, ty, pos, af, none⟩ :: rest) K ⟨tm, bl, ow⟩ := by
  intro g a w hi
  unfold wpListIn
  rw [show Region.wanted ⟨some d, .call ⟨.value x, xs, ts⟩, ty, pos, af, none⟩ (yielded ops a.tmps) = true by simp [Region.wanted]]
  have h1 := rep_ev hi.tm x
  rw [hx] at h1
  simp only [rep] at h1
  obtain ⟨fn, f1, f2, f3⟩ := hf.ok
  have f2' : fn.name ≠ "runtime.NumGoroutine" := by simpa using f2
  have f3' : fn.body ≠ none := fun e => by rw [e] at f3; simp at f3
  have hrun : (execOp a.eval ⟨some d, .call ⟨.value x, xs, ts⟩, ty, pos, af, none⟩).run P w = .ok (.enter f (xs.map a.eval)) w := by
    simp [execOp, resolve, Deferred.ofValue, h1, invoke, callFunc, f1, f2', f3']
  have hc := h (seenO g w os) w (xs.map a.eval) (fun b o hI => hI.elim (hi.mem.cell b o) (fun h => h.2)) (by rw [Array.toList_map]; exact ha g w a.eval (hR.here hi) (fun z => rep_ev hi.tm z))
  have hdd : ∀ j, some d = some j → j < nt := fun j hj => by cases hj; exact Nat.le_of_ble_eq_true hd
  refine wp_of_uponQ (K := fun y w' => y = r ∧ BelowM w.heap.size (fun _ => False) w w') ?_ fun y w' ⟨hy, hb⟩ => ?_
  · show UponQ P _ _
    rw [hrun]
    refine Calls.mono hc fun e w' ⟨y, r', g', he, hr, h3, h4⟩ => ⟨y, he, ?_, h4.below⟩
    subst hr
    simpa only [rep] using h3
  · subst hy
    obtain ⟨go, hm⟩ := hi.mem.later hb
    exact hk g _ w' (hi.app (d := some d) (nb := []) (no := []) hdd go (by simpa using hm) (by simp [rep]))
end

/-! ### Slices of such arrays -/
abbrev objA (T : TypeId) (p : Nat × List Value) : Nat × Obj := (p.1, .cells p.2.toArray T (0, 0))
abbrev rawA (p : Nat × List Value) : List AV := [.v (.slice (some ⟨p.1, 0, none⟩) p.2.length p.2.length)]
abbrev datA (p : Nat × List Value) : List AV := [.sl 1 (p.2.map fun v => [.v v])]
theorem drows_vals {I : Nat → Nat → Prop} {w : World} {b : Nat} {arr : Array Value} {T : TypeId} {fr : Nat × Nat} (h : w.heap[b]? = some (.cells arr T fr)) (hI : ∀ o, o < arr.size → I b o) : ∀ (vs : List Value) (o : Nat), (∀ j v, vs[j]? = some v → arr[o + j]? = some v) → drows I w 1 b o (vs.map fun v => [.v v])
  | [], _, _ => by simp [drows]
  | v :: vs, o, hv => by
    have h0 := hv 0 v rfl
    rw [Nat.add_zero] at h0
    simp only [List.map_cons, drows, dcells, drep, List.length_cons, List.length_nil]
    refine ⟨⟨trivial, ⟨v, (cell_of_heap h o).trans h0, hI o (Array.getElem?_eq_some_iff.1 h0).1, rfl⟩, trivial⟩, drows_vals h hI vs (o + 1) fun j u hj => ?_⟩
    have := hv (j + 1) u (by simpa using hj)
    rwa [show o + (j + 1) = o + 1 + j by omega] at this
theorem drep_datA {I : Nat → Nat → Prop} {w : World} {T : TypeId} {p : Nat × List Value} (h : w.heap[p.1]? = some (objA T p).2) (hI : ∀ o, (w.cell? ⟨p.1, o, none⟩).isSome = true → I p.1 o) : drep I w (.sl 1 (p.2.map fun v => [.v v])) (.slice (some ⟨p.1, 0, none⟩) p.2.length p.2.length) := by
  simp only [drep, List.length_map]
  refine ⟨_, _, rfl, .inr ⟨p.1, 0, rfl, drows_vals h (fun o ho => hI o ?_) p.2 0 fun j v hj => ?_⟩, Nat.le_refl _⟩
  · rw [cell_of_heap h]
    simp only [List.size_toArray] at ho
    simp [ho]
  · rw [Nat.zero_add]; simpa using hj
theorem drows_rawA {I I' : Nat → Nat → Prop} {w : World} {T : TypeId} (hII : ∀ b o, I b o → I' b o) : ∀ (L : List (Nat × List Value)) (b o : Nat), (∀ p ∈ L, w.heap[p.1]? = some (objA T p).2 ∧ ∀ o, (w.cell? ⟨p.1, o, none⟩).isSome = true → I' p.1 o) → drows I w 1 b o (L.map rawA) → drows I' w 1 b o (L.map datA)
  | [], _, _, _, _ => by simp [drows]
  | p :: L, b, o, hL, h => by
    simp only [List.map_cons, drows, dcells, drep, and_true, List.length_cons, List.length_nil] at h ⊢
    obtain ⟨⟨_, z, h1, h2, rfl⟩, h3⟩ := h
    refine ⟨⟨trivial, _, h1, hII _ _ h2, ?_⟩, drows_rawA hII L b (o + 1) (fun q hq => hL q (by simp [hq])) h3⟩
    have := drep_datA (hL p (by simp)).1 (hL p (by simp)).2
    simpa only [drep] using this
theorem drep_rawA {I I' : Nat → Nat → Prop} {w : World} {T : TypeId} (hII : ∀ b o, I b o → I' b o) {L : List (Nat × List Value)} {y : Value} (hL : ∀ p ∈ L, w.heap[p.1]? = some (objA T p).2 ∧ ∀ o, (w.cell? ⟨p.1, o, none⟩).isSome = true → I' p.1 o) (h : drep I w (.sl 1 (L.map rawA)) y) : drep I' w (.sl 1 (L.map datA)) y := by
  simp only [drep, List.length_map, List.map_eq_nil_iff] at h ⊢
  obtain ⟨A, c, hy, h1, h2⟩ := h
  refine ⟨A, c, hy, h1.imp id fun ⟨b, o, hA, hr⟩ => ⟨b, o, hA, drows_rawA hII L b o hL hr⟩, h2⟩
/-- From a contract in the raw to one in data. -/
theorem CallRaw.dat {P : Program} {f : Nat} {args : List AV} {T T' : TypeId} {n : Nat} {J : List (Nat × List Value) → Prop} {D : List (List AV)} (h : CallRaw P f args J (fun L => .own n T' 1 (L.map rawA)) (fun L => L.map (objA T))) (hD : ∀ L, J L → L.map datA = D) : CallOk P f args (fun r => r = .sl 1 D) := by
  intro I w vals hI hargs
  refine Calls.mono (h I w vals hI hargs) fun e w' ⟨L, y, hJ, he, g', h1, h2, h3⟩ => ?_
  let g2 : Gh := { I := fun b o => g'.I b o ∨ ((∃ p ∈ L, p.1 = b) ∧ (w'.cell? ⟨b, o, none⟩).isSome = true), m := fun _ => none, om := fun _ => none, ow := fun _ => False, mt := fun _ => 0 }
  refine ⟨y, .sl 1 D, g2, he, rfl, ?_, ⟨h2.below, fun b o hb => .inl (h2.old b o hb), fun b o hb => ?_, fun b o hb => ?_, fun n b hn => hn.elim, fun n n' b hn => hn.elim⟩⟩
  · simp only [rep]
    rw [← hD L hJ]
    have h1' : drep g'.I w' (.sl 1 (L.map rawA)) y := drep_of_own h1
    exact drep_rawA (fun _ _ h => .inl h) (fun p hp => ⟨(h3 (objA T p) (List.mem_map.2 ⟨p, hp, rfl⟩)).1, fun o ho => .inr ⟨⟨p, hp, rfl⟩, ho⟩⟩) h1'
  · rcases hb with hb | ⟨⟨p, hp, rfl⟩, _⟩
    · exact h2.new b o hb
    · exact .inr (h3 (objA T p) (List.mem_map.2 ⟨p, hp, rfl⟩)).2.1
  · rcases hb with hb | ⟨_, hb⟩
    · exact h2.cell b o hb
    · exact hb
/-- The end of a function that hands back such arrays. -/
theorem leaves_raw {P : Program} {nt : Nat} {w0 w1 : World} {I0 I1 : Nat → Nat → Prop} {M : Nat → Prop} {os : List (Nat × Obj)} {fn : Func} {rs : Array ResultVar} {g : Gh} {s : St} {a : Act} {w : World} {xs : List AV} {Rr : Ending → World → Prop} (hrs : fn.results = rs) (hR : Rt w0 I0 (fun _ => False) w1 M I1 os) (hi : Inv (Ek P w1 nt M I1) g s a w) (h1 : resA P s rs.toList xs) (h3 : refs [] s.ow (oneA xs) = true)
    (hRr : ∀ y, RawRet I0 w0 (oneA xs) os y w → Rr (.returned y) w) : LeavesInM (fo none) 0 P fn a.tmps Rr a.defers .returning w := by
  subst hrs
  have hi0 := hR.inv hi
  rw [show a.defers = [] from hi.de]
  show ∃ v, (results fn a.tmps).run P w = .ok v w ∧ Rr (.returned v) w
  obtain ⟨y, k1, k2⟩ := run_results hi0 h1
  let g2 : Gh := { g with m := fun _ => none }
  refine ⟨y, k1, hRr y ⟨g2, rep_refs (g := g) (g' := g2) rfl (fun n b hn => by simp at hn) rfl (fun n _ h => ⟨h, rfl⟩) h3 k2, ?_, fun p hp => ?_⟩⟩
  · exact ⟨⟨hi0.mem.below.os, hi0.mem.below.tape, hi0.mem.below.output, hi0.mem.below.size, hi0.mem.below.block⟩, hi0.mem.iold, fun b o h => (hi0.mem.inew b o h).imp id (fun h => h.resolve_right (fun h => h)), hi0.mem.cell, fun n b h1 h2 => ⟨(hi0.mem.ofr n b h1 h2).1.resolve_right (fun h => h), (hi0.mem.ofr n b h1 h2).2⟩, hi0.mem.oinj⟩
  · obtain ⟨q1, q2, q3, q4⟩ := hR.apart hi p hp
    exact ⟨q1, q2.resolve_right (fun h => h), q3, fun n h1 h2 => q4 (.inr ⟨n, h1, h2⟩)⟩
/-- The end of a function that hands back a plain value; blocks of its caller's have turned. -/
theorem leaves_plain {P : Program} {nt : Nat} {w0 w1 : World} {I0 I1 : Nat → Nat → Prop} {M M0 : Nat → Prop} {os : List (Nat × Obj)} {fn : Func} {rs : Array ResultVar} {g : Gh} {s : St} {a : Act} {w : World} {v : Value} {Rr : Ending → World → Prop} (hrs : fn.results = rs) (hR : Rt w0 I0 M0 w1 M I1 os) (hi : Inv (Ek P w1 nt M I1) g s a w) (h1 : resA P s rs.toList [.v v])
    (hRr : BelowM w0.heap.size M0 w0 w → (∀ p ∈ os, w.heap[p.1]? = some p.2) → Rr (.returned v) w) : LeavesInM (fo none) 0 P fn a.tmps Rr a.defers .returning w := by
  subst hrs
  have hi0 := hR.invM hi
  rw [show a.defers = [] from hi.de]
  show ∃ v, (results fn a.tmps).run P w = .ok v w ∧ Rr (.returned v) w
  obtain ⟨y, k1, k2⟩ := run_results hi0 h1
  have : y = v := by simpa only [oneA, rep] using k2
  subst this
  exact ⟨y, k1, hRr hi0.mem.below (hR.here hi)⟩
theorem BelowM.mono {B : Nat} {M M' : Nat → Prop} {w w' : World} (h : BelowM B M w w') (hM : ∀ b, M b → M' b) : BelowM B M' w w' := ⟨h.os, h.tape, h.output, h.size, fun k hk hn => h.block k hk fun hm => hn (hM k hm)⟩
theorem run_callF {P : Program} {f : Nat} [hf : FnOk P f] {ρ : Operand → Value} {w : World} {xs : Array Operand} {ts : Array TypeId} {d : Option Tmp} {ty : TypeId} {pos : String} {af : Array Edge} {gd : Option (Nat × Bool)} (hρ : ρ (.func f) = .func (.func f) #[] #[]) : (execOp ρ ⟨d, .call ⟨.value (.func f), xs, ts⟩, ty, pos, af, gd⟩).run P w = .ok (.enter f (xs.map ρ)) w := by
  obtain ⟨fn, f1, f2, f3⟩ := hf.ok
  have f2' : fn.name ≠ "runtime.NumGoroutine" := by simpa using f2
  have f3' : fn.body ≠ none := fun e => by rw [e] at f3; simp at f3
  simp [execOp, resolve, Deferred.ofValue, hρ, invoke, callFunc, f1, f2', f3']
theorem upon_callF {P : Program} {f : Nat} [hf : FnOk P f] {ρ : Operand → Value} {w : World} {xs : Array Operand} {ts : Array TypeId} {d : Option Tmp} {ty : TypeId} {pos : String} {af : Array Edge} {gd : Option (Nat × Bool)} {vals : Array Value} {K : Value → World → Prop} (hρ : ρ (.func f) = .func (.func f) #[] #[]) (hv : xs.map ρ = vals) (h : Calls P f vals w fun e w' => ∃ y, e = .returned y ∧ K y w') :
    UponQ P K ((execOp ρ ⟨d, .call ⟨.value (.func f), xs, ts⟩, ty, pos, af, gd⟩).run P w) := by
  rw [run_callF hρ, hv]; exact h
theorem raw_seen {g : Gh} {w : World} {T T' : TypeId} {n : Nat} {L : List (Nat × List Value)} {os : List (Nat × Obj)} {y : Value} (hos : L.map (objA T) = os) (hobs : ∀ p ∈ os, w.heap[p.1]? = some p.2) (h : rep g w (.own n T' 1 (L.map rawA)) y) : drep (seenO g w os) w (.sl 1 (L.map datA)) y := by
  subst hos
  simp only [rep] at h
  exact drep_rawA (T := T) (fun _ _ h => .inl h) (fun p hp => ⟨hobs _ (List.mem_map.2 ⟨p, hp, rfl⟩), fun o ho => .inr ⟨⟨_, List.mem_map.2 ⟨p, hp, rfl⟩⟩, ho⟩⟩) (drep_of_own h)
theorem sl_seen {g : Gh} {w : World} {e : Nat} {rows : List (List AV)} {os : List (Nat × Obj)} {y : Value} (h : rep g w (.sl e rows) y) : drep (seenO g w os) w (.sl e rows) y := by
  simp only [rep] at h
  exact drep_mono (fun _ _ h => .inl h) (fun _ _ _ => rfl) h
end Go.Eng

namespace Go.Eng
open Go
theorem WK_draw {E : En} {id : Nat} {l : List Oper} {K : Exit → Act → World → Prop} {s : St} (n : Nat) (hm : E.P.follows .mixedOrders = true) (hB : headB l.toArray n = true) (hT : tailB l.toArray n = true)
    (h : HW E l.toArray s.bl (l.take n) s (fun s' => WLK E l.toArray (l.drop n) K s')) : WK E (.region id l.toArray true) K s := by
  intro g0 a0 w00 hi0
  obtain ⟨T, hTl, hK, hstep⟩ := HW_trace _ _ h
  obtain ⟨hn, hback, hord⟩ := headB_spec hB
  have hn' : n ≤ l.length := by simpa using hn
  have hTn : T.length = n := by rw [hTl]; simp; omega
  simp only [tailB, Bool.and_eq_true] at hT
  obtain ⟨hT1, hT2⟩ := hT
  have hopt : ∀ i, i < n → ∃ o t, l.toArray[i]? = some o ∧ (l.take n)[i]? = some o ∧ T[i]? = some t := fun i hi => by
    have h1 : i < l.length := by omega
    refine ⟨l[i], T[i]'(by omega), by simp [h1], by simp [hi, h1], by simp [hTn, hi]⟩
  have inS : ∀ (i : Nat) (t : Tr), T[i]? = some t → ∀ (j : Nat) (t' : Tr), j < i → T[j]? = some t' → ∀ q ∈ t'.nb, q ∈ (stS (fun j => decide (j < i)) T 0 s).bl := fun i t _ j t' hj ht' q hq => (mem_bl_stS T 0 s).2 (.inr ⟨j, t', ht', by simpa using hj, hq⟩)
  have inS0 : ∀ (i : Nat) q, q ∈ s.bl → q ∈ (stS (fun j => decide (j < i)) T 0 s).bl := fun i q hq => (mem_bl_stS T 0 s).2 (.inl hq)
  have inO : ∀ (i : Nat) (t : Tr), T[i]? = some t → ∀ (j : Nat) (t' : Tr), j < i → T[j]? = some t' → ∀ k ∈ t'.no, k ∈ (stS (fun j => decide (j < i)) T 0 s).ow := fun i t _ j t' hj ht' k hk => (mem_ow_stS T 0 s).2 (.inr ⟨j, t', ht', by simpa using hj, hk⟩)
  let Lf : Array Bool → Nat → Bool := fun listed i => listed.getD i false
  have tailNot : ∀ listed, HeadInv .any l.toArray n listed → 0 < cnt n (Lf listed) → ∀ i ∈ Region.ready .any l.toArray listed, i < n := by
    intro listed inv hc i hi
    rcases Nat.lt_or_ge i n with h1 | h1
    · exact h1
    · exfalso
      have hlt : i < l.toArray.size := by
        obtain ⟨_, o, ho, _⟩ := mem_ready.1 hi
        exact (Array.getElem?_eq_some_iff.1 ho).1
      have hns : n < l.toArray.size := by omega
      have hb : Nat.blt n l.toArray.size = true := Nat.ble_eq_true_of_le hns
      rw [hb] at hT1
      simp only [cond_true, Bool.and_eq_true] at hT1
      obtain ⟨k, hk1, hk2, _⟩ := cnt_pos hc
      have hk3 : listed.getD k true = false := getD_in (by rw [inv.size]; omega) hk2
      exact tail_waits hT1.1 hT1.2 hns inv _ k rfl hk1 hk3 i h1 hi
  have progress : ∀ listed, HeadInv .any l.toArray n listed → 0 < cnt n (Lf listed) → Region.ready .any l.toArray listed ≠ [] := by
    intro listed inv hc he
    obtain ⟨k, hk1, hk2, hk3⟩ := cnt_pos hc
    have : k ∈ Region.ready .any l.toArray listed := by
      obtain ⟨o, t, h1, _, _⟩ := hopt k hk1
      exact mem_ready.2 ⟨getD_in (by rw [inv.size]; omega) hk2, o, h1, fun e he hb => hk3 _ (hback k o hk1 h1 e he hb)⟩
    rw [he] at this
    cases this
  have main : ∀ (f : Nat) (listed : Array Bool) (g : Gh) (a : Act) (w : World), cnt n (Lf listed) = f → HeadInv .any l.toArray n listed → Inv E g (stS (Lf listed) T 0 s) a w → wpAnyIn (fo E.rd) 0 E.P .any l.toArray K (f + (l.toArray.size - n)) listed a w := by
    intro f
    induction f with
    | zero =>
      intro listed g a w hc inv hinv
      have hall := cnt_zero hc
      have hst : stS (Lf listed) T 0 s = stS (fun _ => true) T 0 s := by
        have : ∀ (T : List Tr) (i : Nat) (s : St), (∀ j, j < T.length → Lf listed (i + j) = true) → stS (Lf listed) T i s = stS (fun _ => true) T i s := by
          intro T
          induction T with
          | nil => intro i s _; rfl
          | cons t T ih =>
            intro i s hL
            simp only [stS]
            rw [show Lf listed i = true by simpa using hL 0 (by simp)]
            exact ih (i + 1) _ fun j hj => by have := hL (j + 1) (by simp; omega); rwa [show i + (j + 1) = i + 1 + j by omega] at this
        exact this T 0 s fun j hj => by rw [Nat.zero_add]; exact hall j (by omega)
      rw [hst] at hinv
      have hli : listed = ((List.range l.toArray.size).map fun i => Nat.blt i n).toArray := by
        apply Array.ext
        · simp [inv.size]
        · intro i h1 h2
          have h3 : i < l.toArray.size := by rw [← inv.size]; exact h1
          simp only [List.getElem_toArray, List.getElem_map, List.getElem_range]
          rcases Nat.lt_or_ge i n with h4 | h4
          · have h5 := hall i h4
            simp only [Lf, Array.getD_eq_getD_getElem?, Array.getElem?_eq_getElem h1, Option.getD_some] at h5
            rw [h5]
            exact (Nat.ble_eq_true_of_le h4).symm
          · have h5 := inv.tail i h4 h3
            simp only [Array.getD_eq_getD_getElem?, Array.getElem?_eq_getElem h1, Option.getD_some] at h5
            rw [h5]
            cases h6 : Nat.blt i n
            · rfl
            · have := Nat.le_of_ble_eq_true h6; omega
      have hdl : (l.drop n).length = l.toArray.size - n := by simp
      have := wpAnyIn_of_seq (F := fo E.rd) (n := 0) (P := E.P) (md := .any) (Q' := K) (l.drop n) n listed a w (fun j => by simp [List.getElem?_drop]) (by rw [hdl, hli]; exact hT2) (hK g a w hinv)
      rw [hdl] at this
      rw [Nat.zero_add]; exact this
    | succ f ih =>
      intro listed g a w hc inv hinv
      rw [show f + 1 + (l.toArray.size - n) = (f + (l.toArray.size - n)) + 1 by omega]
      have hpos : 0 < cnt n (Lf listed) := by omega
      refine ⟨fun he => absurd he (progress listed inv hpos), fun i hi => ?_⟩
      have hin := tailNot listed inv hpos i hi
      obtain ⟨o, t, ho, ho', ht⟩ := hopt i hin
      obtain ⟨hun, o2, ho2, hdeps⟩ := mem_ready.1 hi
      have : o2 = o := Option.some.inj (ho2.symm.trans ho)
      subst this
      have hLi : Lf listed i = false := getD_both hun
      obtain ⟨⟨hd, hdst, hrun⟩, hnew⟩ := hstep i o2 t ho' ht
      have closed : ∀ k ok, l.toArray[k]? = some ok → Lf listed k = true → ∀ e ∈ ok.after, Region.binds .any e = true → Lf listed e.on = true := fun k ok hk hl e he hb => inv.closed k ok hk hl e he hb
      have depI : ∀ j ∈ (depTab l.toArray n).getD i [], Lf listed j = true := depTab_closed closed n i fun o' ho' e he hb => by
        have : o' = o2 := Option.some.inj (ho'.symm.trans ho)
        subst this
        exact hdeps e he hb
      have depJ : ∀ j, i ∈ (depTab l.toArray n).getD j [] → Lf listed j = false := fun j hj => by
        cases hLj : Lf listed j
        · rfl
        · have := depTab_closed closed n j (fun o' ho' => closed j o' ho' hLj) i hj
          rw [hLi] at this; cases this
      have hTd : ∀ j tr, T[j]? = some tr → j < n ∧ ∃ oj, l.toArray[j]? = some oj ∧ tr.d = oj.dst := fun j tr hj => by
        have hjn : j < n := by rw [← hTn]; exact (List.getElem?_eq_some_iff.1 hj).1
        obtain ⟨oj, t', h1, h2, h3⟩ := hopt j hjn
        exact ⟨hjn, oj, h1, (hstep j oj tr h2 hj).1.d⟩
      have sameLook : ∀ u, u ∈ o2.looksAt l.toArray → look (stS (Lf listed) T 0 s).tm u = look (stS (fun j => decide (j < i)) T 0 s).tm u := fun u hu =>
        look_stS T 0 s s rfl fun j tr hj hdu => by
          rw [Nat.zero_add]
          obtain ⟨hjn, oj, hoj, hjd⟩ := hTd j tr hj
          rcases Nat.lt_trichotomy j i with h1 | h1 | h1
          · rw [decide_eq_true h1]
            exact depI j ((hord i o2 j oj u hin hjn (by omega) ho hoj (hjd ▸ hdu) (.inl hu)).1 h1)
          · subst h1; rw [hLi]; simp
          · rw [decide_eq_false (by omega)]
            exact depJ j ((hord i o2 j oj u hin hjn (by omega) ho hoj (hjd ▸ hdu) (.inl hu)).2 h1)
      have hLset : ∀ j, Lf (listed.setIfInBounds i true) j = (decide (j = i) || Lf listed j) := fun j => by
        by_cases e : j = i
        · subst e
          have hlt : j < listed.size := by rw [inv.size]; exact (Array.getElem?_eq_some_iff.1 ho).1
          simp [Lf, hlt]
        · simp only [e, decide_false, Bool.false_or, Lf]
          exact getD_set_ne false (Ne.symm e)
      have hcnt : cnt n (Lf (listed.setIfInBounds i true)) = f := by
        have := cnt_set (L := Lf listed) (L' := Lf (listed.setIfInBounds i true)) (i := i) hLi (by rw [hLset]; simp) (fun j hj => by rw [hLset]; simp [hj]) n
        rw [if_pos hin] at this
        omega
      -- what holds behind the step
      have next : ∀ (g' : Gh) (a' : Act) (w' : World), Inv E g' ((stS (Lf listed) T 0 s).app t.d t.v t.nb t.no) a' w' → wpAnyIn (fo E.rd) 0 E.P .any l.toArray K (f + (l.toArray.size - n)) (listed.setIfInBounds i true) a' w' := by
        intro g' a' w' hinv'
        refine ih _ g' a' w' hcnt (inv.set hi hin) ⟨hinv'.mem.same (fun p => ?_) (fun k hk => ?_), fun u => ?_, hinv'.de, hinv'.sz⟩
        · simp only [St.app, List.mem_append, mem_bl_stS, hLset, Nat.zero_add]
          constructor
          · rintro (hp | hp | ⟨j, tr, h1, h2, h3⟩)
            · exact .inr ⟨i, t, ht, by simp, hp⟩
            · exact .inl hp
            · exact .inr ⟨j, tr, h1, by simp [h2], h3⟩
          · rintro (hp | ⟨j, tr, h1, h2, h3⟩)
            · exact .inr (.inl hp)
            · by_cases e : j = i
              · subst e
                rw [ht] at h1; cases h1; exact .inl h3
              · exact .inr (.inr ⟨j, tr, h1, by simpa [e] using h2, h3⟩)
        · simp only [St.app, List.mem_append, mem_ow_stS, hLset, Nat.zero_add] at hk ⊢
          rcases hk with hp | hp | ⟨j, tr, h1, h2, h3⟩
          · exact .inr ⟨i, t, ht, by simp, hp⟩
          · exact .inl hp
          · exact .inr ⟨j, tr, h1, by simp [h2], h3⟩
        · have hu := hinv'.tm u
          have heq : look (stS (Lf (listed.setIfInBounds i true)) T 0 s).tm u = look ((stS (Lf listed) T 0 s).app t.d t.v t.nb t.no).tm u := by
            by_cases hdu : t.d = some u
            · have h1 : look ((stS (Lf listed) T 0 s).app t.d t.v t.nb t.no).tm u = t.v := by simp [St.app, hdu, look]
              rw [h1]
              refine look_last T 0 i s t ht hdu rfl (by rw [Nat.zero_add, hLset]; simp) fun j tr hj hij hdj => ?_
              rw [Nat.zero_add, hLset]
              obtain ⟨hjn, oj, hoj, hjd⟩ := hTd j tr hj
              have := depJ j ((hord i o2 j oj u hin hjn (by omega) ho hoj (hjd ▸ hdj) (.inr (hd ▸ hdu))).2 hij)
              rw [this]
              simp; omega
            · have h1 : look ((stS (Lf listed) T 0 s).app t.d t.v t.nb t.no).tm u = look (stS (Lf listed) T 0 s).tm u := by
                simp only [St.app]
                cases hdd : t.d with
                | none => rfl
                | some k =>
                  have : k ≠ u := fun e => hdu (by rw [hdd, e])
                  simp only [look]
                  cases hb : Nat.beq k u
                  · rfl
                  · exact absurd (Nat.eq_of_beq_eq_true hb) this
              rw [h1]
              refine look_stS T 0 s s rfl fun j tr hj hdj => ?_
              rw [Nat.zero_add, hLset]
              have : j ≠ i := fun e => by subst e; rw [ht] at hj; cases hj; exact hdu hdj
              simp [this]
          rw [heq]; exact hu
      have hdst' : ∀ k, t.d = some k → k < E.nt := fun k hk => dstB_spec hdst k (hd ▸ hk)
      unfold wpOpIn
      simp only [ho]
      have hguard : ∀ {j d b}, o2.guard = some (j, b) → (l.toArray[j]?).bind (·.dst) = some d → ∀ c, look (stS (fun j => decide (j < i)) T 0 s).tm d = .v (.bool c) → yielded l.toArray a.tmps j = some c := fun {j d b} hg hj c hc' => by
        have h1 := hinv.tm d
        rw [sameLook d (looksAt_guard hg hj), hc'] at h1
        simp only [rep] at h1
        exact yielded_of hj h1
      have oth : ∀ j tr, T[j]? = some tr → Lf listed j = true → j ≠ i := fun j tr _ hL e => by subst e; rw [hLi] at hL; cases hL
      have operandsOk : ∀ x ∈ o2.op.operands, rep g w (ev (stS (fun j => decide (j < i)) T 0 s).tm x) (a.eval x) := fun x hx => by
        have := rep_ev hinv.tm x
        rwa [ev_same (tm' := (stS (fun j => decide (j < i)) T 0 s).tm) fun u hu => by subst hu; exact sameLook u (looksAt_op hx)] at this
      rcases hrun with ⟨hq, ⟨hf, hnm⟩, hg⟩ | ⟨hv, hnb, hno, j, dd, b, hg, hj, hb⟩ | ⟨n0, cs0, hqi, hv, hnb, hno⟩ | ⟨hv, hnb, hno, j, dd, b, hg, hj, hb⟩
      · have hw : Region.wanted o2 (yielded l.toArray a.tmps) = true := by
          rcases hg with hg | ⟨j, dd, b, hg, hj, hb⟩
          · simp [Region.wanted, hg]
          · simp [Region.wanted, hg, hguard hg hj b hb]
        rw [hw]
        rw [if_pos rfl]
        have hfresh : (∀ p ∈ t.nb, ∀ q ∈ (stS (Lf listed) T 0 s).bl, p.1 ≠ q.1) ∧ ∀ k ∈ t.no, k ∉ (stS (Lf listed) T 0 s).ow := by
          obtain ⟨f1, f2⟩ := freshB_spec hf
          · refine ⟨fun p hp q hq' => ?_, fun k hk hk' => ?_⟩
            · rcases (mem_bl_stS T 0 s).1 hq' with hq' | ⟨j, tr, h1, h2, h3⟩
              · exact f1 p hp q (inS0 i q hq')
              · rw [Nat.zero_add] at h2
                rcases Nat.lt_trichotomy j i with h4 | h4 | h4
                · exact f1 p hp q (inS i t ht j tr h4 h1 q h3)
                · exact absurd h4 (oth j tr h1 h2)
                · obtain ⟨hjn, oj, hoj, hjd⟩ := hTd j tr h1
                  obtain ⟨oj', t', k1, k2, k3⟩ := hopt j hjn
                  have : oj' = oj := Option.some.inj (k1.symm.trans hoj)
                  subst this
                  rcases (hstep j oj' tr k2 h1).2 with ⟨hf', _⟩ | ⟨n2, cs2, e3, _, _, hop2, _⟩
                  · exact fun e => (freshB_spec hf').1 q h3 p (inS j tr h1 i t h4 ht p hp) e.symm
                  · intro e
                    rw [e3] at h3
                    simp only [List.mem_singleton] at h3
                    have e5 : o2.dst = some n2 := by rw [hnm p hp, e, h3]
                    have := depJ j ((hord j oj' i o2 n2 hjn hin (by omega) hoj ho e5 (.inl (looksAt_op hop2))).1 h4)
                    rw [h2] at this; cases this
            · rcases (mem_ow_stS T 0 s).1 hk' with hk' | ⟨j, tr, h1, h2, h3⟩
              · exact f2 k hk ((mem_ow_stS T 0 s).2 (.inl hk'))
              · rw [Nat.zero_add] at h2
                rcases Nat.lt_trichotomy j i with h4 | h4 | h4
                · exact f2 k hk (inO i t ht j tr h4 h1 k h3)
                · exact absurd h4 (oth j tr h1 h2)
                · obtain ⟨hjn, oj, hoj, hjd⟩ := hTd j tr h1
                  obtain ⟨oj', t', k1, k2, k3⟩ := hopt j hjn
                  rcases (hstep j oj' tr k2 h1).2 with ⟨hf', _⟩ | ⟨n2, cs2, e3, e4, _, hop2, _⟩
                  · exact (freshB_spec hf').2 k h3 (inO j tr h1 i t h4 ht k hk)
                  · rw [e4] at h3; simp at h3
        refine wp_of_uponQ (hq g w a.eval (stS (Lf listed) T 0 s).bl (stS (Lf listed) T 0 s).ow hinv.mem (fun p hp => (mem_bl_stS T 0 s).2 (.inl hp)) hfresh.1 hfresh.2 operandsOk) fun y w' hKy => ?_
        obtain ⟨g', h1, h2, h3⟩ := hKy
        have := hinv.app (d := t.d) hdst' h1 h2 h3
        rw [hd] at this
        exact next g' _ w' (by rw [hd]; exact this)
      · have hw : Region.wanted o2 (yielded l.toArray a.tmps) = false := by
          simp [Region.wanted, hg, hguard hg hj b hb]
        rw [hw]
        have := hinv.app (d := t.d) (v := t.v) (y := undef) (nb := t.nb) (no := t.no) hdst' (Goes.refl g w) (by rw [hnb, hno]; exact hinv.mem) (by rw [hv]; simp [rep])
        rw [hd] at this
        exact ⟨fun _ _ => trivial, next g _ w (by rw [hd]; exact this)⟩
      · have hw : Region.wanted o2 (yielded l.toArray a.tmps) = true := by simp [Region.wanted, hqi.2.1]
        rw [hw]
        rw [if_pos rfl]
        have hin0 : initB n0 cs0.length (stS (fun j => decide (j < i)) T 0 s).bl = true := by
          rcases hnew with ⟨hf, hnm⟩ | ⟨n1, cs1, e1, _, _, _, hin1⟩
          · have := hnm (n0, cs0) (by rw [hnb]; simp)
            rw [hqi.1] at this; cases this
          · rw [hnb] at e1
            simp only [List.cons.injEq, Prod.mk.injEq, and_true] at e1
            obtain ⟨rfl, rfl⟩ := e1
            exact hin1
        obtain ⟨⟨c0, hc0⟩, hall0⟩ := initB_spec hin0
        have hopt0 : n0 ∈ o2.looksAt l.toArray := looksAt_op hqi.2.2.1
        have hnt : ∀ c : List AV, c.all (fun x => !isTop x) = true → c ≠ [] → c.all isTop = true → False := by
          intro c h1 h2 h3
          cases c with
          | nil => exact h2 rfl
          | cons x c =>
            simp only [List.all_cons, Bool.and_eq_true, Bool.not_eq_true'] at h1 h3
            rw [h3.1] at h1; cases h1.1
        refine wp_of_uponQ (hqi.2.2.2.2 g w a.eval (stS (Lf listed) T 0 s).bl (stS (Lf listed) T 0 s).ow hinv.mem ⟨c0, ?_⟩ (fun c hc => ?_) operandsOk) fun y w' hKy => ?_
        · rcases (mem_bl_stS T 0 s).1 hc0 with h1 | ⟨j, tr, h1, h2, h3⟩
          · exact (mem_bl_stS T 0 s).2 (.inl h1)
          · rw [Nat.zero_add] at h2
            have hji : j < i := of_decide_eq_true h2
            refine (mem_bl_stS T 0 s).2 (.inr ⟨j, tr, h1, ?_, h3⟩)
            rw [Nat.zero_add]
            obtain ⟨hjn, oj, hoj, hjd⟩ := hTd j tr h1
            obtain ⟨oj', t', k1, k2, k3⟩ := hopt j hjn
            have : oj' = oj := Option.some.inj (k1.symm.trans hoj)
            subst this
            rcases (hstep j oj' tr k2 h1).2 with ⟨_, hnm'⟩ | ⟨n2, cs2, e3, _, hnt2, _, _⟩
            · exact depI j ((hord i o2 j oj' n0 hin hjn (by omega) ho hoj (hnm' _ h3) (.inl hopt0)).1 hji)
            · rw [e3] at h3
              simp only [List.mem_singleton, Prod.mk.injEq] at h3
              obtain ⟨rfl, rfl⟩ := h3
              exact (hnt _ hnt2.1 hnt2.2 (hall0 _ hc0).2).elim
        · rcases (mem_bl_stS T 0 s).1 hc with h1 | ⟨j, tr, h1, h2, h3⟩
          · exact hall0 c (inS0 i _ h1)
          · rw [Nat.zero_add] at h2
            rcases Nat.lt_trichotomy j i with h4 | h4 | h4
            · exact hall0 c (inS i t ht j tr h4 h1 _ h3)
            · exact absurd h4 (oth j tr h1 h2)
            · obtain ⟨hjn, oj, hoj, hjd⟩ := hTd j tr h1
              obtain ⟨oj', t', k1, k2, k3⟩ := hopt j hjn
              rcases (hstep j oj' tr k2 h1).2 with ⟨hf', _⟩ | ⟨n2, cs2, e3, _, _, _, hin2⟩
              · exact absurd rfl ((freshB_spec hf').1 _ h3 (n0, cs0) (inS j tr h1 i t h4 ht _ (by rw [hnb]; simp)))
              · rw [e3] at h3
                simp only [List.mem_singleton, Prod.mk.injEq] at h3
                obtain ⟨rfl, rfl⟩ := h3
                have := (initB_spec hin2).2 cs0 (inS j tr h1 i t h4 ht _ (by rw [hnb]; simp))
                exact (hnt _ hqi.2.2.2.1.1 hqi.2.2.2.1.2 this.2).elim
        · obtain ⟨hy, g', h1, h2⟩ := hKy
          have := hinv.app (d := t.d) (v := t.v) (y := y) (nb := t.nb) (no := t.no) hdst' h1 (by rw [hnb, hno]; exact h2) (by
            have hdn : t.d = none := hd.trans hqi.1
            rw [hv, hy]; simp [rep])
          rw [hd] at this
          exact next g' _ w' (by rw [hd]; exact this)
      · have hw : Region.wanted o2 (yielded l.toArray a.tmps) = false := by
          have h1 := hinv.tm dd
          rw [sameLook dd (looksAt_guard hg hj), hb] at h1
          simp only [rep] at h1
          simp [Region.wanted, hg, yielded_un hj h1]
        rw [hw]
        have := hinv.app (d := t.d) (v := t.v) (y := undef) (nb := t.nb) (no := t.no) hdst' (Goes.refl g w) (by rw [hnb, hno]; exact hinv.mem) (by rw [hv]; simp [rep])
        rw [hd] at this
        exact ⟨fun _ _ => trivial, next g _ w (by rw [hd]; exact this)⟩
  refine wpIn_region_any hm ?_
  have inv0 : HeadInv .any l.toArray n (Array.replicate l.toArray.size false) :=
    ⟨by simp, fun j oj _ hl => (by rw [getD_replicate_false] at hl; cases hl), fun t _ ht => getD_in (by simpa using ht) (getD_replicate_false _ _)⟩
  have hL0 : Lf (Array.replicate l.toArray.size false) = fun _ => false := by funext i; exact getD_replicate_false _ _
  have := main n (Array.replicate l.toArray.size false) g0 a0 { w00 with drawn := w00.drawn + 1 } (by rw [hL0]; exact cnt_false n) inv0 ?_
  · rwa [show n + (l.toArray.size - n) = l.toArray.size by omega] at this
  · rw [hL0]
    have zero : ∀ (T : List Tr) (i : Nat) (s : St), stS (fun _ => false) T i s = s := by
      intro T
      induction T with
      | nil => intro i s; rfl
      | cons t T ih => intro i s; simp only [stS, cond_false]; exact ih _ s
    rw [zero]
    exact hi0.drew
theorem wkdraw {E : En} {id : Nat} {l hd tl : List Oper} {K : Exit → Act → World → Prop} {tm : List (Nat × AV)} {bl : List (Nat × List AV)} {ow : List Nat} (n : Nat) (hm : E.P.follows .mixedOrders = true) (hB : headB l.toArray n = true) (hT : tailB l.toArray n = true) (hs : splitO n l = some (hd, tl))
    (h : HW E l.toArray bl hd ⟨tm, bl, ow⟩ (WLK E l.toArray tl K)) : WK E (.region id l.toArray true) K ⟨tm, bl, ow⟩ := by
  obtain ⟨h1, h2⟩ := splitO_eq hs
  subst h1; subst h2
  exact WK_draw n hm hB hT h
end Go.Eng
