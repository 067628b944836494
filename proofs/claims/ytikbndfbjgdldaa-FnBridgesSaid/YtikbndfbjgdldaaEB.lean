/- The state of a walk as plain data, what it means of a frame and a world, and single operations that only read, reckon or make new blocks. No program in sight. -/
import Derived.Test.YtikbndfbjgdldaaEA
namespace Go.Eng
open Go

def look : List (Nat × AV) → Nat → AV
  | [], _ => .top
  | (k, v) :: r, t => bif Nat.beq k t then v else look r t
def cst : Value → AV
  | .agg a => .agg (a.toList.map AV.v)
  | x => .v x
def ev (tm : List (Nat × AV)) : Operand → AV
  | .tmp t => look tm t
  | .const x => cst x
  | .global _ => .top
  | .func f => .v (.func (.func f) #[] #[])

structure BelowM (B : Nat) (M : Nat → Prop) (w w' : World) : Prop where
  os : w'.os = w.os
  tape : w'.tape = w.tape
  output : w'.output = w.output
  size : w.heap.size ≤ w'.heap.size
  block : ∀ k, k < B → ¬ M k → w'.heap[k]? = w.heap[k]?

theorem BelowM.refl (B : Nat) (M : Nat → Prop) (w : World) : BelowM B M w w := ⟨rfl, rfl, rfl, Nat.le_refl _, fun _ _ _ => rfl⟩

/-- A call's surroundings: the program; the heap's size and the world when it began; the frame's size; blocks of the caller's that it may write; names of the caller's blocks that it may read. -/
structure En where
  P : Program
  B : Nat
  w0 : World
  nt : Nat
  M : Nat → Prop
  ron : List Nat
  I0 : Nat → Nat → Prop
  /-- names that stand for a known block all the way -/
  pin : Nat → Nat → Nat → Prop

structure Mem (E : En) (g : Gh) (bl : List (Nat × List AV)) (ow : List Nat) (w : World) : Prop where
  below : BelowM E.B E.M E.w0 w
  base : E.B ≤ w.heap.size
  cell : ∀ b o, g.I b o → (w.cell? ⟨b, o, none⟩).isSome = true
  mfr : ∀ n b, g.m n = some b → (n ∈ E.ron ∨ E.B ≤ b ∨ E.M b) ∧ b < w.heap.size
  ofr : ∀ n b, g.ow n → g.om n = some b → E.B ≤ b ∧ b < w.heap.size
  minj : ∀ n n' b, g.m n = some b → g.m n' = some b → n = n'
  oinj : ∀ n n' b, g.ow n → g.ow n' → g.om n = some b → g.om n' = some b → n = n'
  disj : ∀ n n' b, g.m n = some b → g.ow n' → g.om n' = some b → False
  blk : ∀ n cs, (n, cs) ∈ bl → ∃ b arr, g.m n = some b ∧ w.heap[b]? = some (.cells arr (g.mt n) (0, 0)) ∧ reps g w cs arr.toList ∧ ∀ o, ¬ g.I b o
  key : ∀ n b, g.m n = some b → ∃ cs, (n, cs) ∈ bl
  own : ∀ n, g.ow n → n ∈ ow
  inew : ∀ b o, g.I b o → E.I0 b o ∨ E.B ≤ b
  iold : ∀ b o, E.I0 b o → g.I b o
  pin : ∀ n b T, E.pin n b T → g.m n = some b ∧ g.mt n = T

theorem cell_lt {w : World} {b o : Nat} (h : (w.cell? ⟨b, o, none⟩).isSome = true) : b < w.heap.size := by
  unfold World.cell? at h
  simp only at h
  split at h
  · rename_i hb
    exact (Array.getElem?_eq_some_iff.1 hb).1
  · simp at h

theorem cell_of_heap {w : World} {b : Nat} {arr : Array Value} {T : TypeId} {fr : Nat × Nat} (h : w.heap[b]? = some (.cells arr T fr)) (o : Nat) : w.cell? ⟨b, o, none⟩ = arr[o]? := by
  simp [World.cell?, h]

theorem alloc_heap (w : World) (o : Obj) (k : Nat) (h : k < w.heap.size) : (w.alloc o).heap[k]? = w.heap[k]? := by
  show (w.heap.push o)[k]? = _
  rw [Array.getElem?_push, if_neg (by omega)]
theorem alloc_new (w : World) (o : Obj) : (w.alloc o).heap[w.heap.size]? = some o := by
  show (w.heap.push o)[w.heap.size]? = _
  simp
theorem alloc_size (w : World) (o : Obj) : (w.alloc o).heap.size = w.heap.size + 1 := by
  show (w.heap.push o).size = _
  simp

/-- A slice of the call's own stays while the heap keeps its block. -/
theorem ownsRow_of_heap {w w' : World} {base T e : Nat} {v : Value} {n : Nat} {xs : List Value} (h : w.ownsRow base T e v n xs) (hh : ∀ b, v.ownBlock = some b → w'.heap[b]? = w.heap[b]?) : w'.ownsRow base T e v n xs := by
  refine ⟨h.1, ?_⟩
  rcases h.2 with h2 | ⟨b, cap, cur, rfl, h3, h4, h5⟩
  · exact .inl h2
  · exact .inr ⟨b, cap, cur, rfl, h3, (hh b rfl).trans h4, h5⟩

theorem ownsRow_lt {w : World} {base T e : Nat} {v : Value} {n : Nat} {xs : List Value} (h : w.ownsRow base T e v n xs) {b : Nat} (hb : v.ownBlock = some b) : b < w.heap.size := by
  rcases h.2 with ⟨rfl, _⟩ | ⟨b', cap, cur, rfl, h3, h4, h5⟩
  · simp [Value.ownBlock] at hb
  · simp only [Value.ownBlock, Option.some.injEq] at hb
    subst hb
    exact (Array.getElem?_eq_some_iff.1 h4).1

theorem ownRep_goes {g g' : Gh} {w w' : World} (hI : ∀ b o, g.I b o → g'.I b o) (hk : Keeps g.I w w') (how : ∀ n, g.ow n → g'.ow n ∧ g'.om n = g.om n)
    (hh : ∀ n b, g.ow n → g.om n = some b → w'.heap[b]? = w.heap[b]?) (hI' : ∀ n b o, g.ow n → g.om n = some b → g'.I b o → g.I b o)
    {n T e : Nat} {rows : List (List AV)} {y : Value} (h : ownRep g w n T e rows y) : ownRep g' w' n T e rows y := by
  obtain ⟨h1, h2, xs, h3, h4, h5, h6⟩ := h
  refine ⟨(how n h1).1, h2.trans (how n h1).2.symm, xs, ownsRow_of_heap h3 (fun b hb => hh n b h1 (h2 ▸ hb)), dreps_mono hI hk h4, h5, fun b hb => ?_⟩
  rw [(how n h1).2] at hb
  exact ⟨fun o ho => hI _ _ ((h6 b hb).1 o ho), fun o ho hI2 => (h6 b hb).2 o ho (hI' n b o h1 hb hI2)⟩

/-- A new block of the call's own. -/
theorem Mem.newBlock {E : En} {g : Gh} {bl : List (Nat × List AV)} {ow : List Nat} {w : World} (h : Mem E g bl ow w) (n : Nat) (hn : ∀ q ∈ bl, n ≠ q.1) (cs : List AV) (arr : Array Value) (T : TypeId) (hr : reps g w cs arr.toList) :
    ∃ g', Goes g w g' (w.alloc (.cells arr T)) ∧ Mem E g' ((n, cs) :: bl) ow (w.alloc (.cells arr T)) ∧ g'.m n = some w.heap.size ∧ g'.mt n = T := by
  have hnone : g.m n = none := by
    cases hm : g.m n with
    | none => rfl
    | some b => obtain ⟨cs', hc⟩ := h.key n b hm; exact absurd rfl (hn _ hc)
  let g' : Gh := { g with m := fun k => if k = n then some w.heap.size else g.m k, mt := fun k => if k = n then T else g.mt k }
  have hm : ∀ k b, g'.m k = some b → (k = n ∧ b = w.heap.size) ∨ (k ≠ n ∧ g.m k = some b) := by
    intro k b hk
    by_cases e : k = n
    · simp only [g', e, if_true, Option.some.injEq] at hk; exact .inl ⟨e, hk.symm⟩
    · simp only [g', e, if_false] at hk; exact .inr ⟨e, hk⟩
  have hIlt : ∀ b o, g.I b o → b < w.heap.size := fun b o hb => cell_lt (h.cell b o hb)
  have keeps : Keeps g.I w (w.alloc (.cells arr T)) := fun b o hb => World.cell?_of_block (a := ⟨b, o, none⟩) (alloc_heap w _ b (hIlt b o hb))
  have goes : Goes g w g' (w.alloc (.cells arr T)) := by
    refine ⟨fun _ _ h => h, keeps, fun k b hk => ?_, fun k b hk => ?_, fun k T' e rows y hy => ?_⟩
    · have : k ≠ n := fun e => by rw [e, hnone] at hk; cases hk
      simp [g', this, hk]
    · have : k ≠ n := fun e => by rw [e, hnone] at hk; cases hk
      simp [g', this]
    · exact ownRep_goes (g := g) (g' := g') (fun _ _ h => h) keeps (fun k hk => ⟨hk, rfl⟩) (fun k b h1 h2 => alloc_heap w _ b (h.ofr k b h1 h2).2) (fun _ _ _ _ _ h => h) hy
  refine ⟨g', goes, ?_, by simp [g'], by simp [g']⟩
  refine { below := ⟨h.below.os, h.below.tape, h.below.output, Nat.le_trans h.below.size (by rw [alloc_size]; omega), fun k hk hM => (alloc_heap w _ k (Nat.lt_of_lt_of_le hk h.base)).trans (h.below.block k hk hM)⟩,
           base := by rw [alloc_size]; have := h.base; omega, cell := fun b o hb => by rw [keeps b o hb]; exact h.cell b o hb, mfr := ?_, ofr := ?_, minj := ?_, oinj := h.oinj, disj := ?_, blk := ?_, key := ?_, own := h.own, inew := h.inew, iold := h.iold, pin := fun n b T hp => ⟨goes.m n b (h.pin n b T hp).1, (goes.mt n b (h.pin n b T hp).1).trans (h.pin n b T hp).2⟩ }
  · intro k b hk
    rw [alloc_size]
    rcases hm k b hk with ⟨rfl, rfl⟩ | ⟨_, h2⟩
    · exact ⟨.inr (.inl h.base), by omega⟩
    · have := h.mfr k b h2; exact ⟨this.1, by omega⟩
  · intro k b h1 h2
    have := h.ofr k b h1 h2
    rw [alloc_size]; exact ⟨this.1, by omega⟩
  · intro k k' b h1 h2
    rcases hm k b h1 with ⟨rfl, rfl⟩ | ⟨_, h1'⟩ <;> rcases hm k' _ h2 with ⟨h3, h4⟩ | ⟨_, h2'⟩
    · exact h3.symm
    · have := (h.mfr k' _ h2').2; omega
    · subst h4; have := (h.mfr k _ h1').2; omega
    · exact h.minj k k' b h1' h2'
  · intro k k' b h1 h2 h3
    rcases hm k b h1 with ⟨rfl, rfl⟩ | ⟨_, h1'⟩
    · have := (h.ofr k' _ h2 h3).2; omega
    · exact h.disj k k' b h1' h2 h3
  · intro k cs' hk
    rcases List.mem_cons.1 hk with hk | hk
    · cases hk
      exact ⟨w.heap.size, arr, by simp [g'], by simp only [g', if_true]; exact alloc_new w _, reps_goes goes hr, fun o ho => by have := hIlt _ o ho; omega⟩
    · obtain ⟨b, arr', h1, h2, h3, h4⟩ := h.blk k cs' hk
      exact ⟨b, arr', goes.m k b h1, by rw [goes.mt k b h1]; exact (alloc_heap w _ b (h.mfr k b h1).2).trans h2, reps_goes goes h3, h4⟩
  · intro k b hk
    rcases hm k b hk with ⟨rfl, rfl⟩ | ⟨_, h2⟩
    · exact ⟨cs, by simp⟩
    · obtain ⟨cs', hc⟩ := h.key k b h2; exact ⟨cs', by simp [hc]⟩

/-- A new slice of the call's own: a block whose cells are never written again. -/
theorem Mem.newOwn {E : En} {g : Gh} {bl : List (Nat × List AV)} {ow : List Nat} {w : World} (h : Mem E g bl ow w) (n : Nat) (hn : n ∉ ow) (T e : Nat) (rows : List (List AV)) (hlen : ∀ r ∈ rows, r.length = e) (arr : Array Value)
    (hm : rows.length ≤ maxLen) (hr : dreps g.I w rows.flatten arr.toList) :
    ∃ g', Goes g w g' (w.alloc (.cells arr T)) ∧ Mem E g' bl (n :: ow) (w.alloc (.cells arr T)) ∧ ownRep g' (w.alloc (.cells arr T)) n T e rows (.slice (some ⟨w.heap.size, 0, none⟩) rows.length rows.length) := by
  have hno : ¬ g.ow n := fun hw => hn (h.own n hw)
  have hasz : arr.size = rows.length * e := by
    have := dreps_length hr
    rw [flatten_length hlen] at this
    simpa using this
  let g' : Gh := { g with I := fun b o => g.I b o ∨ (b = w.heap.size ∧ o < rows.length * e), ow := fun k => k = n ∨ g.ow k, om := fun k => if k = n then some w.heap.size else g.om k }
  have hIlt : ∀ b o, g.I b o → b < w.heap.size := fun b o hb => cell_lt (h.cell b o hb)
  have keeps : Keeps g.I w (w.alloc (.cells arr T)) := fun b o hb => World.cell?_of_block (a := ⟨b, o, none⟩) (alloc_heap w _ b (hIlt b o hb))
  have how : ∀ k, g.ow k → g'.ow k ∧ g'.om k = g.om k := fun k hk => ⟨.inr hk, by
    have : k ≠ n := fun e => hno (e ▸ hk)
    simp [g', this]⟩
  have homc : ∀ k b, g'.ow k → g'.om k = some b → (k = n ∧ b = w.heap.size) ∨ (g.ow k ∧ g.om k = some b) := by
    intro k b hk hb
    by_cases e : k = n
    · simp only [g', e, if_true, Option.some.injEq] at hb; exact .inl ⟨e, hb.symm⟩
    · simp only [g', e, if_false, false_or] at hb hk; exact .inr ⟨hk, hb⟩
  have goes : Goes g w g' (w.alloc (.cells arr T)) := by
    refine ⟨fun _ _ h => .inl h, keeps, fun k b hk => hk, fun _ _ _ => rfl, fun k T' e' rows' y hy => ?_⟩
    exact ownRep_goes (g := g) (g' := g') (fun _ _ h => .inl h) keeps how (fun k b h1 h2 => alloc_heap w _ b (h.ofr k b h1 h2).2)
      (fun k b o h1 h2 h3 => h3.resolve_right fun h4 => by have := (h.ofr k b h1 h2).2; omega) hy
  have hnew : ∀ j z, arr.toList[j]? = some z → (w.alloc (.cells arr T)).cell? ⟨w.heap.size, j, none⟩ = some z := fun j z hj => by
    rw [cell_of_heap (alloc_new w _)]; simpa using hj
  refine ⟨g', goes, ?_, .inl rfl, by simp [g', Value.ownBlock], arr.toList, ?_, dreps_mono goes.I keeps hr, hlen, fun b hb => ?_⟩
  · refine { below := ⟨h.below.os, h.below.tape, h.below.output, Nat.le_trans h.below.size (by rw [alloc_size]; omega), fun k hk hM => (alloc_heap w _ k (Nat.lt_of_lt_of_le hk h.base)).trans (h.below.block k hk hM)⟩,
             base := by rw [alloc_size]; have := h.base; omega, cell := ?_, mfr := ?_, ofr := ?_, minj := h.minj, oinj := ?_, disj := ?_, blk := ?_, key := h.key, own := ?_, inew := ?_, iold := fun b o hb => .inl (h.iold b o hb), pin := h.pin }
    · intro b o hb
      rcases hb with hb | ⟨rfl, ho⟩
      · rw [keeps b o hb]; exact h.cell b o hb
      · rw [cell_of_heap (alloc_new w _)]; simp [hasz, ho]
    · intro k b hk
      have := h.mfr k b hk; rw [alloc_size]; exact ⟨this.1, by omega⟩
    · intro k b h1 h2
      rw [alloc_size]
      rcases homc k b h1 h2 with ⟨_, rfl⟩ | ⟨h3, h4⟩
      · exact ⟨h.base, by omega⟩
      · have := h.ofr k b h3 h4; exact ⟨this.1, by omega⟩
    · intro k k' b h1 h1' h2 h2'
      rcases homc k b h1 h2 with ⟨rfl, rfl⟩ | ⟨h3, h4⟩ <;> rcases homc k' _ h1' h2' with ⟨h5, h6⟩ | ⟨h5, h6⟩
      · exact h5.symm
      · have := (h.ofr k' _ h5 h6).2; omega
      · subst h6; have := (h.ofr k _ h3 h4).2; omega
      · exact h.oinj k k' b h3 h5 h4 h6
    · intro k k' b h1 h2 h3
      rcases homc k' b h2 h3 with ⟨_, rfl⟩ | ⟨h4, h5⟩
      · have := (h.mfr k _ h1).2; omega
      · exact h.disj k k' b h1 h4 h5
    · intro k cs' hk
      obtain ⟨b, arr', h1, h2, h3, h4⟩ := h.blk k cs' hk
      have hb := (h.mfr k b h1).2
      exact ⟨b, arr', h1, (alloc_heap w _ b hb).trans h2, reps_goes goes h3, fun o ho => by
        rcases ho with ho | ⟨rfl, _⟩
        · exact h4 o ho
        · omega⟩
    · intro k hk
      rcases hk with rfl | hk
      · simp
      · simp [h.own k hk]
    · intro b o hb
      rcases hb with hb | ⟨rfl, _⟩
      · exact h.inew b o hb
      · exact .inr h.base
  · exact World.ownsRow_lit w arr rows.length (Nat.zero_le _) hm hasz
  · have : b = w.heap.size := by simpa [g'] using hb.symm
    subst this
    exact ⟨fun o ho => .inr ⟨rfl, ho⟩, fun o ho hI => by
      rcases hI with hI | ⟨_, hI⟩
      · have := hIlt _ o hI; omega
      · omega⟩

/-- The outcome of one operation that only reads, reckons, makes blocks, or calls. -/
def UponQ (P : Program) (K : Value → World → Prop) : Result Next → Prop
  | .ok (.value y) w' => K y w'
  | .ok .skip w' => K undef w'
  | .ok (.enter f args) w' => Calls P f args w' fun e w'' => ∃ y, e = .returned y ∧ K y w''
  | _ => False

theorem wp_of_uponQ {P : Program} {o : Oper} {a : Act} {w : World} {K : Value → World → Prop} {next : Act → World → Prop} {Q : Exit → Act → World → Prop}
    (h : UponQ P K ((execOp a.eval o).run P w)) (hK : ∀ y w', K y w' → next (a.put o.dst y) w') : o.wp P a w next Q := by
  unfold Oper.wp
  generalize (execOp a.eval o).run P w = r at *
  cases r with
  | ok n w' =>
    cases n <;> simp only [UponQ] at h <;> simp only [Oper.upon]
    case value y => exact hK _ _ h
    case skip => exact hK _ _ h
    case enter f args => exact h.mono fun e w'' ⟨y, he, hy⟩ => by subst he; exact hK _ _ hy
  | halt x w' => simp only [UponQ] at h

/-- ONE OPERATION THAT CHANGES NOTHING THAT WAS THERE: from values that read so it gives one that reads as 'v', new blocks 'nb', new slices of the call's own 'no'. -/
def QV (E : En) (bl : List (Nat × List AV)) (tm : List (Nat × AV)) (o : Oper) (v : AV) (nb : List (Nat × List AV)) (no : List Nat) : Prop :=
  ∀ (g : Gh) (w : World) (ρ : Operand → Value) (bl' : List (Nat × List AV)) (ow' : List Nat), Mem E g bl' ow' w → (∀ p ∈ bl, p ∈ bl') → (∀ p ∈ nb, ∀ q ∈ bl', p.1 ≠ q.1) → (∀ n ∈ no, n ∉ ow') →
    (∀ x ∈ o.op.operands, rep g w (ev tm x) (ρ x)) →
    UponQ E.P (fun y w' => ∃ g', Goes g w g' w' ∧ Mem E g' (nb ++ bl') (no ++ ow') w' ∧ rep g' w' v y) ((execOp ρ o).run E.P w)

theorem QV_pure {E : En} {bl : List (Nat × List AV)} {tm : List (Nat × AV)} {o : Oper} {v : AV}
    (h : ∀ (g : Gh) (w : World) (ρ : Operand → Value), (∀ x ∈ o.op.operands, rep g w (ev tm x) (ρ x)) → ∃ y, (execOp ρ o).run E.P w = .ok (.value y) w ∧ rep g w v y) : QV E bl tm o v [] [] := by
  intro g w ρ bl' ow' hm _ _ _ hop
  obtain ⟨y, hy, hr⟩ := h g w ρ hop
  rw [hy]
  exact ⟨g, Goes.refl g w, hm, hr⟩

theorem rep_cst {g : Gh} {w : World} (x : Value) : rep g w (cst x) x := by
  cases x <;> simp only [cst, rep]
  case agg a =>
    refine ⟨a, rfl, ?_⟩
    have : ∀ l : List Value, reps g w (l.map AV.v) l := by
      intro l
      induction l with
      | nil => simp [reps]
      | cons x l ih => simp only [List.map_cons, reps]; exact ⟨x, l, rfl, by simp [rep], ih⟩
    exact this _
theorem rep_ev {g : Gh} {w : World} {tm : List (Nat × AV)} {a : Act} (h : ∀ t, rep g w (look tm t) (a.tmps.getD t undef)) (x : Operand) : rep g w (ev tm x) (a.eval x) := by
  cases x with
  | tmp t => exact h t
  | const x => exact rep_cst x
  | global n => simp [ev, rep]
  | func f => simp only [ev, rep, Act.eval]
end Go.Eng
