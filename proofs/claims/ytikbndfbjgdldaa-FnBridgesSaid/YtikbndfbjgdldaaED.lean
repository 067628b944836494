/- Statements: a list of operations in the order of the text; a statement that leaves its order open; the code around them. No program in sight. -/
import Derived.Test.YtikbndfbjgdldaaEC
namespace Go.Eng
open Go

structure St where
  tm : List (Nat × AV)
  bl : List (Nat × List AV)
  ow : List Nat

structure Inv (E : En) (g : Gh) (s : St) (a : Act) (w : World) : Prop where
  mem : Mem E g s.bl s.ow w
  tm : ∀ t, rep g w (look s.tm t) (a.tmps.getD t undef)
  de : a.defers = []
  sz : a.tmps.size = E.nt

def post (E : En) (Q : Exit → St → Prop) : Exit → Act → World → Prop := fun e a w => ∃ g s, Q e s ∧ Inv E g s a w

def St.app (s : St) (d : Option Tmp) (v : AV) (nb : List (Nat × List AV)) (no : List Nat) : St :=
  ⟨match d with | some d => (d, v) :: s.tm | none => s.tm, nb ++ s.bl, no ++ s.ow⟩

theorem look_put {g : Gh} {w : World} {E : En} {a : Act} {s : St} {d : Option Tmp} {v : AV} {y : Value} (nb : List (Nat × List AV)) (no : List Nat) (hd : ∀ k, d = some k → k < E.nt) (hsz : a.tmps.size = E.nt)
    (ht : ∀ t, rep g w (look s.tm t) (a.tmps.getD t undef)) (hv : rep g w v y) : ∀ t, rep g w (look (s.app d v nb no).tm t) ((a.put d y).tmps.getD t undef) := by
  intro t
  cases d with
  | none => exact ht t
  | some d =>
    have hdl : d < a.tmps.size := by rw [hsz]; exact hd d rfl
    simp only [St.app, look, Act.put]
    cases hb : Nat.beq d t
    · have hne : d ≠ t := fun e => by subst e; simp at hb
      simp only [cond_false]
      have : (a.tmps.setIfInBounds d y).getD t undef = a.tmps.getD t undef := by
        simp [Array.getElem?_setIfInBounds_ne hne]
      rw [this]; exact ht t
    · have he : d = t := Nat.eq_of_beq_eq_true hb
      subst he
      simp only [cond_true]
      have : (a.tmps.setIfInBounds d y).getD d undef = y := by simp [hdl]
      rw [this]; exact hv

theorem Inv.app {E : En} {g g' : Gh} {s : St} {a : Act} {w w' : World} (h : Inv E g s a w) {d : Option Tmp} {v : AV} {y : Value} {nb : List (Nat × List AV)} {no : List Nat} (hd : ∀ k, d = some k → k < E.nt)
    (hg : Goes g w g' w') (hm : Mem E g' (nb ++ s.bl) (no ++ s.ow) w') (hv : rep g' w' v y) : Inv E g' (s.app d v nb no) (a.put d y) w' :=
  ⟨hm, look_put nb no hd h.sz (fun t => rep_goes hg (h.tm t)) hv, by cases d <;> exact h.de, by cases d <;> simp [Act.put, h.sz]⟩

/-- In the order of the text. -/
def WL (E : En) (ops : Array Oper) (l : List Oper) (Q : Exit → St → Prop) (s : St) : Prop := ∀ g a w, Inv E g s a w → wpList E.P ops (post E Q) l a w
def W (E : En) (c : Code) (Q : Exit → St → Prop) (s : St) : Prop := ∀ g a w, Inv E g s a w → c.wp E.P (post E Q) a w

theorem WL_nil {E : En} {ops : Array Oper} {Q : Exit → St → Prop} {s : St} (h : Q .normal s) : WL E ops [] Q s := fun g _ _ hi => ⟨g, s, h, hi⟩

/-- A step of a list: what one operation does to a state. -/
def TV (E : En) (o : Oper) (s s' : St) : Prop := ∀ g a w, Inv E g s a w → ∀ (next : Act → World → Prop) (Q : Exit → Act → World → Prop), (∀ g' a' w', Inv E g' s' a' w' → next a' w') → o.wp E.P a w next Q

def freshB (nb : List (Nat × List AV)) (no : List Nat) (s : St) : Bool :=
  nb.all (fun p => s.bl.all fun q => !(Nat.beq p.1 q.1)) && no.all (fun n => s.ow.all fun k => !(Nat.beq n k)) && Nat.ble nb.length 1 && Nat.ble no.length 1
theorem freshB_spec {nb : List (Nat × List AV)} {no : List Nat} {s : St} (h : freshB nb no s = true) : (∀ p ∈ nb, ∀ q ∈ s.bl, p.1 ≠ q.1) ∧ ∀ n ∈ no, n ∉ s.ow := by
  simp only [freshB, Bool.and_eq_true, List.all_eq_true, Bool.not_eq_true'] at h
  refine ⟨fun p hp q hq e => ?_, fun n hn hk => ?_⟩
  · have := h.1.1.1 p hp q hq
    rw [e] at this; simp at this
  · have := h.1.1.2 n hn n hk
    simp at this
def dstB (nt : Nat) (o : Oper) : Bool := match o.dst with | some d => Nat.blt d nt | none => true
theorem dstB_spec {nt : Nat} {o : Oper} (h : dstB nt o = true) : ∀ k, o.dst = some k → k < nt := fun k hk => by
  simp only [dstB, hk] at h
  exact Nat.le_of_ble_eq_true h

theorem TV_of_QV {E : En} {o : Oper} {s : St} {v : AV} {nb : List (Nat × List AV)} {no : List Nat} (h : QV E s.bl s.tm o v nb no) (hf : freshB nb no s = true) (hd : dstB E.nt o = true) : TV E o s (s.app o.dst v nb no) := by
  intro g a w hi next Q hn
  obtain ⟨f1, f2⟩ := freshB_spec hf
  refine wp_of_uponQ (h g w a.eval s.bl s.ow hi.mem (fun p hp => hp) f1 f2 (fun x _ => rep_ev hi.tm x)) fun y w' hK => ?_
  obtain ⟨g', h1, h2, h3⟩ := hK
  exact hn _ _ _ (hi.app (dstB_spec hd) h1 h2 h3)

theorem WL_t {E : En} {ops : Array Oper} {o : Oper} {rest : List Oper} {Q : Exit → St → Prop} {s s' : St} (hg : o.guard = none) (h : TV E o s s') (hk : WL E ops rest Q s') : WL E ops (o :: rest) Q s := by
  intro g a w hi
  unfold wpList
  have : Region.wanted o (yielded ops a.tmps) = true := by simp [Region.wanted, hg]
  rw [this]
  exact .inl (h g a w hi _ _ fun g' a' w' hi' => hk g' a' w' hi')
theorem WL_q {E : En} {ops : Array Oper} {o : Oper} {rest : List Oper} {Q : Exit → St → Prop} {s : St} {v : AV} {nb : List (Nat × List AV)} {no : List Nat} (h : QV E s.bl s.tm o v nb no) (hg : o.guard = none) (hd : dstB E.nt o = true) (hf : freshB nb no s = true)
    (hk : WL E ops rest Q (s.app o.dst v nb no)) : WL E ops (o :: rest) Q s := WL_t hg (TV_of_QV h hf hd) hk

theorem yielded_of {ops : Array Oper} {tmps : Array Value} {j d : Nat} {b : Bool} (hj : (ops[j]?).bind (·.dst) = some d) (h : tmps.getD d undef = .bool b) : yielded ops tmps j = some b := by
  unfold yielded
  rw [hj]
  cases hd : tmps[d]? with
  | none => simp [hd, undef] at h
  | some y => simp [hd] at h; subst h; simp [hd]

theorem yielded_un {ops : Array Oper} {tmps : Array Value} {j d : Nat} (hj : (ops[j]?).bind (·.dst) = some d) (h : tmps.getD d undef = undef) : yielded ops tmps j = none := by
  unfold yielded
  rw [hj]
  cases hd : tmps[d]? with
  | none => simp [hd]
  | some y => simp [hd] at h; subst h; simp [hd, undef]
theorem WL_gu {E : En} {ops : Array Oper} {o : Oper} {rest : List Oper} {Q : Exit → St → Prop} {s : St} {j d : Nat} {b : Bool} (hg : o.guard = some (j, b)) (hj : (ops[j]?).bind (·.dst) = some d) (hb : look s.tm d = .v undef)
    (hd : dstB E.nt o = true) (hk : WL E ops rest Q (s.app o.dst (.v undef) [] [])) : WL E ops (o :: rest) Q s := by
  intro g a w hi
  unfold wpList
  have h1 := hi.tm d
  rw [hb] at h1
  simp only [rep] at h1
  have : Region.wanted o (yielded ops a.tmps) = false := by simp [Region.wanted, hg, yielded_un hj h1]
  rw [this]
  exact hk g _ w (hi.app (dstB_spec hd) (Goes.refl g w) hi.mem (by simp [rep]))
theorem WL_gy {E : En} {ops : Array Oper} {o : Oper} {rest : List Oper} {Q : Exit → St → Prop} {s : St} {v : AV} {nb : List (Nat × List AV)} {no : List Nat} {j d : Nat} {b : Bool} (h : QV E s.bl s.tm o v nb no) (hg : o.guard = some (j, b)) (hj : (ops[j]?).bind (·.dst) = some d) (hb : look s.tm d = .v (.bool b))
    (hd : dstB E.nt o = true) (hf : freshB nb no s = true) (hk : WL E ops rest Q (s.app o.dst v nb no)) : WL E ops (o :: rest) Q s := by
  intro g a w hi
  unfold wpList
  have h1 := hi.tm d
  rw [hb] at h1
  simp only [rep] at h1
  have : Region.wanted o (yielded ops a.tmps) = true := by simp [Region.wanted, hg, yielded_of hj h1]
  rw [this]
  exact .inl (TV_of_QV h hf hd g a w hi _ _ fun g' a' w' hi' => hk g' a' w' hi')
theorem WL_gn {E : En} {ops : Array Oper} {o : Oper} {rest : List Oper} {Q : Exit → St → Prop} {s : St} {j d : Nat} {b c : Bool} (hg : o.guard = some (j, c)) (hj : (ops[j]?).bind (·.dst) = some d) (hb : look s.tm d = .v (.bool b)) (hc : c = !b)
    (hd : dstB E.nt o = true) (hk : WL E ops rest Q (s.app o.dst (.v undef) [] [])) : WL E ops (o :: rest) Q s := by
  intro g a w hi
  unfold wpList
  have h1 := hi.tm d
  rw [hb] at h1
  simp only [rep] at h1
  have : Region.wanted o (yielded ops a.tmps) = false := by subst hc; simp [Region.wanted, hg, yielded_of hj h1]
  rw [this]
  exact hk g _ w (hi.app (dstB_spec hd) (Goes.refl g w) hi.mem (by simp [rep]))

theorem W_region {E : En} {id : Nat} {l : List Oper} {Q : Exit → St → Prop} {s : St} (h : WL E l.toArray l Q s) : W E (.region id l.toArray false) Q s :=
  fun g a w hi => wp_region_list (by simpa using h g a w hi)

theorem Mem.drew {E : En} {g : Gh} {bl : List (Nat × List AV)} {ow : List Nat} {w : World} (h : Mem E g bl ow w) : Mem E g bl ow w.drew ∧ Goes g w g w.drew := by
  have hg : Goes g w g w.drew := ⟨fun _ _ h => h, fun _ _ _ => rfl, fun _ _ h => h, fun _ _ _ => rfl, fun n T e rows y hy =>
    ownRep_goes (g := g) (g' := g) (w := w) (w' := w.drew) (fun _ _ h => h) (fun _ _ _ => rfl) (fun _ h => ⟨h, rfl⟩) (fun _ _ _ _ => rfl) (fun _ _ _ _ _ h => h) hy⟩
  exact ⟨⟨⟨h.below.os, h.below.tape, h.below.output, h.below.size, h.below.block⟩, h.base, h.cell, h.mfr, h.ofr, h.minj, h.oinj, h.disj,
    fun n cs hn => let ⟨b, arr, h1, h2, h3, h4⟩ := h.blk n cs hn; ⟨b, arr, h1, h2, reps_goes hg h3, h4⟩, h.key, h.own, h.inew, h.iold, h.pin⟩, hg⟩
theorem Inv.drew {E : En} {g : Gh} {s : St} {a : Act} {w : World} (h : Inv E g s a w) : Inv E g s a w.drew :=
  ⟨h.mem.drew.1, fun t => rep_goes h.mem.drew.2 (h.tm t), h.de, h.sz⟩

/-! ### A statement that leaves its order open -/

/-- What one operation of the head has given. -/
structure Tr where
  d : Option Tmp
  v : AV
  nb : List (Nat × List AV)
  no : List Nat

/-- The state when those that L tells have been carried out. -/
def stS (L : Nat → Bool) : List Tr → Nat → St → St
  | [], _, s => s
  | t :: ts, i, s => stS L ts (i + 1) (bif L i then s.app t.d t.v t.nb t.no else s)

def isTop : AV → Bool
  | .top => true
  | _ => false
/-- A new variable is given its first value: its block, unread so far, then reads as 'cs'. -/
def QI (E : En) (tm : List (Nat × AV)) (o : Oper) (n : Nat) (cs : List AV) : Prop :=
  o.dst = none ∧ o.guard = none ∧ Operand.tmp n ∈ o.op.operands ∧ (cs.all (fun x => !isTop x) = true ∧ cs ≠ []) ∧
  ∀ (g : Gh) (w : World) (ρ : Operand → Value) (bl' : List (Nat × List AV)) (ow' : List Nat), Mem E g bl' ow' w → (∃ c, (n, c) ∈ bl') → (∀ c, (n, c) ∈ bl' → c.length = cs.length ∧ c.all isTop = true) →
    (∀ x ∈ o.op.operands, rep g w (ev tm x) (ρ x)) → UponQ E.P (fun y w' => y = undef ∧ ∃ g', Goes g w g' w' ∧ Mem E g' ((n, cs) :: bl') ow' w') ((execOp ρ o).run E.P w)
def initB (n k : Nat) (bl : List (Nat × List AV)) : Bool := bl.any (fun q => Nat.beq q.1 n) && bl.all fun q => bif Nat.beq q.1 n then Nat.beq q.2.length k && q.2.all isTop else true
theorem initB_spec {n k : Nat} {bl : List (Nat × List AV)} (h : initB n k bl = true) : (∃ c, (n, c) ∈ bl) ∧ ∀ c, (n, c) ∈ bl → c.length = k ∧ c.all isTop = true := by
  simp only [initB, Bool.and_eq_true] at h
  obtain ⟨h1, h2⟩ := h
  obtain ⟨q, hq, hb⟩ := List.any_eq_true.1 h1
  have := Nat.eq_of_beq_eq_true hb
  refine ⟨⟨q.2, by rw [← this]; exact hq⟩, fun c hc => ?_⟩
  have h3 := List.all_eq_true.1 h2 _ hc
  simp only [Nat.beq_refl, cond_true, Bool.and_eq_true] at h3
  exact ⟨Nat.eq_of_beq_eq_true h3.1, h3.2⟩
def namesB (nb : List (Nat × List AV)) (o : Oper) : Bool := nb.all fun p => match o.dst with | some d => Nat.beq d p.1 | none => false
theorem namesB_spec {nb : List (Nat × List AV)} {o : Oper} (h : namesB nb o = true) : ∀ p ∈ nb, o.dst = some p.1 := fun p hp => by
  have h1 := List.all_eq_true.1 h p hp
  cases hd : o.dst with
  | none => simp [hd] at h1
  | some d => simp only [hd] at h1; rw [Nat.eq_of_beq_eq_true h1]

/-- The head in the order of the text, operation after operation. -/
def HW (E : En) (ops : Array Oper) (bl : List (Nat × List AV)) : List Oper → St → (St → Prop) → Prop
  | [], s, K => K s
  | o :: rest, s, K =>
    (∃ v nb no, QV E bl s.tm o v nb no ∧ dstB E.nt o = true ∧ (freshB nb no s = true ∧ namesB nb o = true) ∧
      (o.guard = none ∨ ∃ j d b, o.guard = some (j, b) ∧ (ops[j]?).bind (·.dst) = some d ∧ look s.tm d = .v (.bool b)) ∧ HW E ops bl rest (s.app o.dst v nb no) K) ∨
    (∃ j d b, o.guard = some (j, !b) ∧ (ops[j]?).bind (·.dst) = some d ∧ look s.tm d = .v (.bool b) ∧ dstB E.nt o = true ∧ HW E ops bl rest (s.app o.dst (.v undef) [] []) K) ∨
    (∃ n cs, QI E s.tm o n cs ∧ initB n cs.length s.bl = true ∧ HW E ops bl rest (s.app none (.v undef) [(n, cs)] []) K) ∨
    (∃ j d b, o.guard = some (j, b) ∧ (ops[j]?).bind (·.dst) = some d ∧ look s.tm d = .v undef ∧ dstB E.nt o = true ∧ HW E ops bl rest (s.app o.dst (.v undef) [] []) K)

theorem HW_nil {E : En} {ops : Array Oper} {bl : List (Nat × List AV)} {s : St} {K : St → Prop} (h : K s) : HW E ops bl [] s K := h
theorem HW_q {E : En} {ops : Array Oper} {bl : List (Nat × List AV)} {o : Oper} {rest : List Oper} {K : St → Prop} {s : St} {v : AV} {nb : List (Nat × List AV)} {no : List Nat} (h : QV E bl s.tm o v nb no) (hg : o.guard = none) (hd : dstB E.nt o = true) (hf : freshB nb no s = true) (hn : namesB nb o = true)
    (hk : HW E ops bl rest (s.app o.dst v nb no) K) : HW E ops bl (o :: rest) s K := .inl ⟨v, nb, no, h, hd, ⟨hf, hn⟩, .inl hg, hk⟩
theorem HW_gy {E : En} {ops : Array Oper} {bl : List (Nat × List AV)} {o : Oper} {rest : List Oper} {K : St → Prop} {s : St} {v : AV} {nb : List (Nat × List AV)} {no : List Nat} {j d : Nat} {b : Bool} (h : QV E bl s.tm o v nb no) (hg : o.guard = some (j, b)) (hj : (ops[j]?).bind (·.dst) = some d) (hb : look s.tm d = .v (.bool b)) (hd : dstB E.nt o = true) (hf : freshB nb no s = true) (hn : namesB nb o = true)
    (hk : HW E ops bl rest (s.app o.dst v nb no) K) : HW E ops bl (o :: rest) s K := .inl ⟨v, nb, no, h, hd, ⟨hf, hn⟩, .inr ⟨j, d, b, hg, hj, hb⟩, hk⟩
theorem HW_gn {E : En} {ops : Array Oper} {bl : List (Nat × List AV)} {o : Oper} {rest : List Oper} {K : St → Prop} {s : St} {j d : Nat} {b c : Bool} (hg : o.guard = some (j, c)) (hj : (ops[j]?).bind (·.dst) = some d) (hb : look s.tm d = .v (.bool b)) (hc : c = !b) (hd : dstB E.nt o = true)
    (hk : HW E ops bl rest (s.app o.dst (.v undef) [] []) K) : HW E ops bl (o :: rest) s K := .inr (.inl ⟨j, d, b, hc ▸ hg, hj, hb, hd, hk⟩)
theorem HW_i {E : En} {ops : Array Oper} {bl : List (Nat × List AV)} {o : Oper} {rest : List Oper} {K : St → Prop} {s : St} {n : Nat} {cs : List AV} (h : QI E s.tm o n cs) (hi : initB n cs.length s.bl = true) (hk : HW E ops bl rest (s.app none (.v undef) [(n, cs)] []) K) : HW E ops bl (o :: rest) s K := .inr (.inr (.inl ⟨n, cs, h, hi, hk⟩))
theorem HW_gu {E : En} {ops : Array Oper} {bl : List (Nat × List AV)} {o : Oper} {rest : List Oper} {K : St → Prop} {s : St} {j d : Nat} {b : Bool} (hg : o.guard = some (j, b)) (hj : (ops[j]?).bind (·.dst) = some d) (hb : look s.tm d = .v undef) (hd : dstB E.nt o = true)
    (hk : HW E ops bl rest (s.app o.dst (.v undef) [] []) K) : HW E ops bl (o :: rest) s K := .inr (.inr (.inr ⟨j, d, b, hg, hj, hb, hd, hk⟩))

/-- Operation o, in a state where what it looks at is as it was in the text's order, gives what it gave there. -/
structure StepOk (E : En) (ops : Array Oper) (bl : List (Nat × List AV)) (s : St) (o : Oper) (t : Tr) : Prop where
  d : t.d = o.dst
  dst : dstB E.nt o = true
  run : (QV E bl s.tm o t.v t.nb t.no ∧ (freshB t.nb t.no s = true ∧ ∀ p ∈ t.nb, o.dst = some p.1) ∧ (o.guard = none ∨ ∃ j d b, o.guard = some (j, b) ∧ (ops[j]?).bind (·.dst) = some d ∧ look s.tm d = .v (.bool b))) ∨
    (t.v = .v undef ∧ t.nb = [] ∧ t.no = [] ∧ ∃ j d b, o.guard = some (j, !b) ∧ (ops[j]?).bind (·.dst) = some d ∧ look s.tm d = .v (.bool b)) ∨
    (∃ n cs, QI E s.tm o n cs ∧ t.v = .v undef ∧ t.nb = [(n, cs)] ∧ t.no = []) ∨
    (t.v = .v undef ∧ t.nb = [] ∧ t.no = [] ∧ ∃ j d b, o.guard = some (j, b) ∧ (ops[j]?).bind (·.dst) = some d ∧ look s.tm d = .v undef)
/-- The names of what an operation makes are new, and its own slot's; or it gives a new variable its first value. -/
def NewOk (o : Oper) (t : Tr) (s : St) : Prop := (freshB t.nb t.no s = true ∧ ∀ p ∈ t.nb, o.dst = some p.1) ∨ ∃ n cs, t.nb = [(n, cs)] ∧ t.no = [] ∧ (cs.all (fun x => !isTop x) = true ∧ cs ≠ []) ∧ Operand.tmp n ∈ o.op.operands ∧ initB n cs.length s.bl = true

theorem HW_trace {E : En} {ops : Array Oper} {bl : List (Nat × List AV)} {K : St → Prop} : ∀ (l : List Oper) (s : St), HW E ops bl l s K →
    ∃ T : List Tr, T.length = l.length ∧ K (stS (fun _ => true) T 0 s) ∧
      (∀ i o t, l[i]? = some o → T[i]? = some t → StepOk E ops bl (stS (fun j => decide (j < i)) T 0 s) o t ∧ NewOk o t (stS (fun j => decide (j < i)) T 0 s))
  | [], s, h => ⟨[], rfl, h, fun i o t hi => by simp at hi⟩
  | o :: rest, s, h => by
    have shift : ∀ (L : Nat → Bool) (T : List Tr) (i : Nat) (s : St), stS L T (i + 1) s = stS (fun j => L (j + 1)) T i s := by
      intro L T
      induction T with
      | nil => intro i s; rfl
      | cons t T ih => intro i s; simp only [stS]; exact ih (i + 1) _
    have zero : ∀ (T : List Tr) (i : Nat) (s : St), stS (fun _ => false) T i s = s := by
      intro T
      induction T with
      | nil => intro i s; rfl
      | cons t T ih => intro i s; simp only [stS, cond_false]; exact ih _ s
    have go : ∀ (t : Tr), StepOk E ops bl s o t → NewOk o t s → HW E ops bl rest (s.app t.d t.v t.nb t.no) K →
        ∃ T : List Tr, T.length = (o :: rest).length ∧ K (stS (fun _ => true) T 0 s) ∧
      (∀ i o' t, (o :: rest)[i]? = some o' → T[i]? = some t → StepOk E ops bl (stS (fun j => decide (j < i)) T 0 s) o' t ∧ NewOk o' t (stS (fun j => decide (j < i)) T 0 s)) := by
      intro t hs hfr hk
      obtain ⟨T, h1, h2, h3⟩ := HW_trace rest _ hk
      refine ⟨t :: T, by simp [h1], ?_, fun i o' t' hi ht => ?_⟩
      · simp only [stS, cond_true]; rw [shift]; exact h2
      · cases i with
        | zero =>
          simp only [List.getElem?_cons_zero, Option.some.injEq] at hi ht
          subst hi; subst ht
          have e : stS (fun j => decide (j < 0)) (t :: T) 0 s = s := by
            simp only [stS, Nat.not_lt_zero, decide_false, cond_false]; exact zero _ _ _
          rw [e]; exact ⟨hs, hfr⟩
        | succ i =>
          have := h3 i o' t' (by simpa using hi) (by simpa using ht)
          simp only [stS, Nat.zero_lt_succ, decide_true, cond_true]
          rw [shift]
          simpa [Nat.add_lt_add_iff_right] using this
    rcases h with ⟨v, nb, no, h1, h2, h3, h4, h5⟩ | ⟨j, d, b, h1, h2, h3, h4, h5⟩ | ⟨n, cs, h1, h2, h3⟩ | ⟨j, d, b, h1, h2, h3, h4, h5⟩
    · exact go ⟨o.dst, v, nb, no⟩ ⟨rfl, h2, .inl ⟨h1, ⟨h3.1, namesB_spec h3.2⟩, h4⟩⟩ (.inl ⟨h3.1, namesB_spec h3.2⟩) h5
    · exact go ⟨o.dst, .v undef, [], []⟩ ⟨rfl, h4, .inr (.inl ⟨rfl, rfl, rfl, j, d, b, h1, h2, h3⟩)⟩ (.inl ⟨by simp [freshB], by simp⟩) h5
    · exact go ⟨none, .v undef, [(n, cs)], []⟩ ⟨h1.1.symm, by simp [dstB, h1.1], .inr (.inr (.inl ⟨n, cs, h1, rfl, rfl, rfl⟩))⟩ (.inr ⟨n, cs, rfl, rfl, h1.2.2.2.1, h1.2.2.1, h2⟩) h3
    · exact go ⟨o.dst, .v undef, [], []⟩ ⟨rfl, h4, .inr (.inr (.inr ⟨rfl, rfl, rfl, j, d, b, h1, h2, h3⟩))⟩ (.inl ⟨by simp [freshB], by simp⟩) h5

theorem look_stS {L L' : Nat → Bool} {t : Nat} : ∀ (T : List Tr) (i : Nat) (s s' : St), look s.tm t = look s'.tm t → (∀ j tr, T[j]? = some tr → tr.d = some t → L (i + j) = L' (i + j)) → look (stS L T i s).tm t = look (stS L' T i s').tm t
  | [], _, _, _, h, _ => h
  | tr :: T, i, s, s', h, hL => by
    simp only [stS]
    refine look_stS T (i + 1) _ _ ?_ fun j tr' hj hd => by
      have := hL (j + 1) tr' (by simpa using hj) hd
      rwa [show i + (j + 1) = i + 1 + j by omega] at this
    by_cases hd : tr.d = some t
    · have := hL 0 tr rfl hd
      rw [Nat.add_zero] at this
      rw [this]
      cases L' i
      · exact h
      · simp only [cond_true, St.app, hd, look]; simp
    · have key : ∀ s : St, look (bif L i then s.app tr.d tr.v tr.nb tr.no else s).tm t = look s.tm t := fun s => by
        cases L i
        · rfl
        · simp only [cond_true, St.app]
          cases hdd : tr.d with
          | none => rfl
          | some k =>
            have : k ≠ t := fun e => hd (by rw [hdd, e])
            simp only [look]
            cases hb : Nat.beq k t
            · rfl
            · exact absurd (Nat.eq_of_beq_eq_true hb) this
      have key' : ∀ s : St, look (bif L' i then s.app tr.d tr.v tr.nb tr.no else s).tm t = look s.tm t := fun s => by
        cases L' i
        · rfl
        · simp only [cond_true, St.app]
          cases hdd : tr.d with
          | none => rfl
          | some k =>
            have : k ≠ t := fun e => hd (by rw [hdd, e])
            simp only [look]
            cases hb : Nat.beq k t
            · rfl
            · exact absurd (Nat.eq_of_beq_eq_true hb) this
      rw [key, key']; exact h
theorem look_last {L : Nat → Bool} {t : Nat} {v : AV} : ∀ (T : List Tr) (i k : Nat) (s : St) (tr : Tr), T[k]? = some tr → tr.d = some t → tr.v = v → L (i + k) = true → (∀ j tr', T[j]? = some tr' → k < j → tr'.d = some t → L (i + j) = false) → look (stS L T i s).tm t = v
  | [], _, _, _, _, h, _, _, _, _ => by simp at h
  | tr0 :: T, i, 0, s, tr, h, hd, hv, hL, hn => by
    simp only [List.getElem?_cons_zero, Option.some.injEq] at h
    subst h
    simp only [stS]
    rw [Nat.add_zero] at hL
    rw [hL]
    have := look_stS (L := L) (L' := fun _ => false) (t := t) T (i + 1) (s.app tr0.d tr0.v tr0.nb tr0.no) (s.app tr0.d tr0.v tr0.nb tr0.no) rfl fun j tr' hj hd' => by
      have := hn (j + 1) tr' (by simpa using hj) (by omega) hd'
      rwa [show i + (j + 1) = i + 1 + j by omega] at this
    rw [cond_true, this]
    have zero : ∀ (T : List Tr) (i : Nat) (s : St), stS (fun _ => false) T i s = s := by
      intro T
      induction T with
      | nil => intro i s; rfl
      | cons t T ih => intro i s; simp only [stS, cond_false]; exact ih _ s
    rw [zero]
    simp [St.app, hd, look, hv]
  | tr0 :: T, i, k + 1, s, tr, h, hd, hv, hL, hn => by
    simp only [stS]
    refine look_last T (i + 1) k _ tr (by simpa using h) hd hv (by rwa [show i + (k + 1) = i + 1 + k by omega] at hL) fun j tr' hj hkj hd' => ?_
    have := hn (j + 1) tr' (by simpa using hj) (by omega) hd'
    rwa [show i + (j + 1) = i + 1 + j by omega] at this
theorem mem_bl_stS {L : Nat → Bool} {p : Nat × List AV} : ∀ (T : List Tr) (i : Nat) (s : St), p ∈ (stS L T i s).bl ↔ p ∈ s.bl ∨ ∃ j tr, T[j]? = some tr ∧ L (i + j) = true ∧ p ∈ tr.nb
  | [], i, s => by simp [stS]
  | tr :: T, i, s => by
    simp only [stS, mem_bl_stS T]
    constructor
    · rintro (h | ⟨j, tr', h1, h2, h3⟩)
      · cases hL : L i
        · rw [hL] at h; exact .inl h
        · rw [hL] at h
          simp only [cond_true, St.app, List.mem_append] at h
          rcases h with h | h
          · exact .inr ⟨0, tr, rfl, by simpa using hL, h⟩
          · exact .inl h
      · exact .inr ⟨j + 1, tr', by simpa using h1, by rwa [show i + (j + 1) = i + 1 + j by omega], h3⟩
    · rintro (h | ⟨j, tr', h1, h2, h3⟩)
      · refine .inl ?_
        cases L i
        · exact h
        · simp [St.app, h]
      · cases j with
        | zero =>
          simp only [List.getElem?_cons_zero, Option.some.injEq] at h1
          subst h1
          rw [Nat.add_zero] at h2
          refine .inl ?_
          rw [h2]; simp [St.app, h3]
        | succ j => exact .inr ⟨j, tr', by simpa using h1, by rwa [show i + (j + 1) = i + 1 + j by omega] at h2, h3⟩
theorem mem_ow_stS {L : Nat → Bool} {p : Nat} : ∀ (T : List Tr) (i : Nat) (s : St), p ∈ (stS L T i s).ow ↔ p ∈ s.ow ∨ ∃ j tr, T[j]? = some tr ∧ L (i + j) = true ∧ p ∈ tr.no
  | [], i, s => by simp [stS]
  | tr :: T, i, s => by
    simp only [stS, mem_ow_stS T]
    constructor
    · rintro (h | ⟨j, tr', h1, h2, h3⟩)
      · cases hL : L i
        · rw [hL] at h; exact .inl h
        · rw [hL] at h
          simp only [cond_true, St.app, List.mem_append] at h
          rcases h with h | h
          · exact .inr ⟨0, tr, rfl, by simpa using hL, h⟩
          · exact .inl h
      · exact .inr ⟨j + 1, tr', by simpa using h1, by rwa [show i + (j + 1) = i + 1 + j by omega], h3⟩
    · rintro (h | ⟨j, tr', h1, h2, h3⟩)
      · refine .inl ?_
        cases L i
        · exact h
        · simp [St.app, h]
      · cases j with
        | zero =>
          simp only [List.getElem?_cons_zero, Option.some.injEq] at h1
          subst h1
          rw [Nat.add_zero] at h2
          refine .inl ?_
          rw [h2]; simp [St.app, h3]
        | succ j => exact .inr ⟨j, tr', by simpa using h1, by rwa [show i + (j + 1) = i + 1 + j by omega] at h2, h3⟩

/-- The same facts, listed otherwise. -/
theorem Mem.same {E : En} {g : Gh} {bl bl' : List (Nat × List AV)} {ow ow' : List Nat} {w : World} (h : Mem E g bl ow w) (hb : ∀ p, p ∈ bl ↔ p ∈ bl') (ho : ∀ n, n ∈ ow → n ∈ ow') : Mem E g bl' ow' w :=
  { h with blk := fun n cs hn => h.blk n cs ((hb _).2 hn), key := fun n b hb' => let ⟨cs, hc⟩ := h.key n b hb'; ⟨cs, (hb _).1 hc⟩, own := fun n hn => ho n (h.own n hn) }

/-- Which operations must come before which. -/
def depRow (ops : Array Oper) (tab : List (List Nat)) (k : Nat) : List Nat :=
  match ops[k]? with
  | some o => (o.after.toList.flatMap fun e => bif Region.binds .any e then e.on :: tab.getD e.on [] else []).eraseDups
  | none => []
def depTab (ops : Array Oper) : Nat → List (List Nat)
  | 0 => []
  | k + 1 => let t := depTab ops k; t ++ [depRow ops t k]
theorem depTab_length (ops : Array Oper) : ∀ k, (depTab ops k).length = k
  | 0 => rfl
  | k + 1 => by simp [depTab, depTab_length ops k]
theorem depTab_closed {ops : Array Oper} {L : Nat → Bool} (hL : ∀ i o, ops[i]? = some o → L i = true → ∀ e ∈ o.after, Region.binds .any e = true → L e.on = true) :
    ∀ (k i : Nat), (∀ o, ops[i]? = some o → ∀ e ∈ o.after, Region.binds .any e = true → L e.on = true) → ∀ j ∈ (depTab ops k).getD i [], L j = true
  | 0, i, _, j, hj => by simp [depTab] at hj
  | k + 1, i, hi, j, hj => by
    simp only [depTab] at hj
    rcases Nat.lt_trichotomy i k with h | h | h
    · rw [List.getD_eq_getElem?_getD, List.getElem?_append_left (by rw [depTab_length]; exact h), ← List.getD_eq_getElem?_getD] at hj
      exact depTab_closed hL k i hi j hj
    · subst h
      rw [List.getD_eq_getElem?_getD, List.getElem?_append_right (by rw [depTab_length]; exact Nat.le_refl _), depTab_length, Nat.sub_self] at hj
      simp only [List.getElem?_cons_zero, Option.getD_some, depRow] at hj
      split at hj
      · rename_i o ho
        rw [List.mem_eraseDups, List.mem_flatMap] at hj
        obtain ⟨e, he, hj⟩ := hj
        cases hb : Region.binds .any e
        · rw [hb] at hj; simp at hj
        · rw [hb] at hj
          have h1 := hi o ho e (by simpa using he) hb
          simp only [cond_true, List.mem_cons] at hj
          rcases hj with rfl | hj
          · exact h1
          · exact depTab_closed hL i e.on (fun o' ho' => hL e.on o' ho' h1) j hj
      · simp at hj
    · rw [List.getD_eq_getElem?_getD, List.getElem?_eq_none (by rw [List.length_append, depTab_length]; simp; omega)] at hj
      simp at hj

/-- The static look at a statement with n operations ahead of the tail: edges lead back; whoever names a slot that another one fills is ordered against it. -/
def headB (ops : Array Oper) (n : Nat) : Bool :=
  let tab := depTab ops n
  Nat.ble n ops.size &&
  (List.range n).all fun i => match ops[i]? with
    | none => false
    | some o => o.after.all (fun e => bif Region.binds .any e then Nat.blt e.on i else true) &&
      (List.range n).all fun j => match ops[j]? with
        | none => false
        | some oj => match oj.dst with
          | none => true
          | some t => (bif Nat.beq i j then true else bif ((o.looksAt ops).contains t || o.dst == some t) then (bif Nat.blt j i then (tab.getD i []).contains j else (tab.getD j []).contains i) else true)
def tailB (ops : Array Oper) (n : Nat) : Bool :=
  (bif Nat.blt n ops.size then Region.sinkB .any ops n && Region.chainB .any ops n else true) &&
  Region.seqB .any ops (ops.size - n) n ((List.range ops.size).map fun i => Nat.blt i n).toArray

theorem headB_spec {ops : Array Oper} {n : Nat} (h : headB ops n = true) : n ≤ ops.size ∧
    (∀ i o, i < n → ops[i]? = some o → ∀ e ∈ o.after, Region.binds .any e = true → e.on < i) ∧
    (∀ i o j oj t, i < n → j < n → i ≠ j → ops[i]? = some o → ops[j]? = some oj → oj.dst = some t → (t ∈ o.looksAt ops ∨ o.dst = some t) → (j < i → j ∈ (depTab ops n).getD i []) ∧ (i < j → i ∈ (depTab ops n).getD j [])) := by
  simp only [headB, Bool.and_eq_true, List.all_eq_true, List.mem_range] at h
  refine ⟨Nat.le_of_ble_eq_true h.1, fun i o hi ho e he hb => ?_, fun i o j oj t hi hj hne ho hoj ht hl => ?_⟩
  · have := h.2 i hi
    rw [ho] at this
    simp only [Bool.and_eq_true, Array.all_eq_true_iff_forall_mem] at this
    have h2 := this.1 e he
    rw [hb] at h2
    exact Nat.le_of_ble_eq_true h2
  · have := h.2 i hi
    rw [ho] at this
    simp only [Bool.and_eq_true, List.all_eq_true, List.mem_range] at this
    have h2 := this.2 j hj
    rw [hoj] at h2
    simp only [ht] at h2
    have hb : Nat.beq i j = false := by
      cases h3 : Nat.beq i j
      · rfl
      · exact absurd (Nat.eq_of_beq_eq_true h3) hne
    have hc : ((o.looksAt ops).contains t || o.dst == some t) = true := by
      rcases hl with hl | hl
      · simp [hl]
      · simp [hl]
    rw [hb, hc] at h2
    simp only [cond_false, cond_true] at h2
    constructor
    · intro hji
      have h4 : Nat.blt j i = true := Nat.ble_eq_true_of_le hji
      rw [h4] at h2
      simpa using h2
    · intro hij
      have h4 : Nat.blt j i = false := by
        cases h5 : Nat.blt j i
        · rfl
        · have := Nat.le_of_ble_eq_true h5; omega
      rw [h4] at h2
      simpa using h2

def cnt : Nat → (Nat → Bool) → Nat
  | 0, _ => 0
  | n + 1, L => cnt n L + (bif L n then 0 else 1)
theorem cnt_set {L L' : Nat → Bool} {i : Nat} (hi : L i = false) (hi' : L' i = true) (hL : ∀ j, j ≠ i → L' j = L j) : ∀ n, cnt n L = cnt n L' + (if i < n then 1 else 0)
  | 0 => by simp [cnt]
  | n + 1 => by
    simp only [cnt, cnt_set hi hi' hL n]
    by_cases h : n = i
    · subst h; rw [hi, hi']; simp
    · rw [hL n h]
      by_cases h2 : i < n
      · rw [if_pos h2, if_pos (by omega)]; omega
      · rw [if_neg h2, if_neg (by omega)]; omega
theorem cnt_zero {L : Nat → Bool} : ∀ {n : Nat}, cnt n L = 0 → ∀ i, i < n → L i = true
  | 0, _, i, hi => by omega
  | n + 1, h, i, hi => by
    simp only [cnt] at h
    by_cases e : i = n
    · subst e
      cases hL : L i
      · rw [hL] at h; simp at h
      · rfl
    · exact cnt_zero (n := n) (by omega) i (by omega)
theorem cnt_pos {L : Nat → Bool} : ∀ {n : Nat}, 0 < cnt n L → ∃ i, i < n ∧ L i = false ∧ ∀ j, j < i → L j = true
  | 0, h => by simp [cnt] at h
  | n + 1, h => by
    by_cases h0 : 0 < cnt n L
    · obtain ⟨i, h1, h2, h3⟩ := cnt_pos h0
      exact ⟨i, by omega, h2, h3⟩
    · have hz : cnt n L = 0 := by omega
      simp only [cnt] at h
      refine ⟨n, by omega, ?_, cnt_zero hz⟩
      cases hL : L n
      · rfl
      · rw [hL] at h; simp at h; omega
theorem cnt_false : ∀ n, cnt n (fun _ => false) = n
  | 0 => rfl
  | n + 1 => by simp [cnt, cnt_false n]

theorem looksAt_op {ops : Array Oper} {o : Oper} {t : Nat} (h : Operand.tmp t ∈ o.op.operands) : t ∈ o.looksAt ops := by
  simp only [Oper.looksAt, List.mem_append, List.mem_filterMap]
  exact .inl ⟨.tmp t, by simpa using h, rfl⟩
theorem looksAt_guard {ops : Array Oper} {o : Oper} {j t : Nat} {b : Bool} (hg : o.guard = some (j, b)) (hj : (ops[j]?).bind (·.dst) = some t) : t ∈ o.looksAt ops := by
  simp only [Oper.looksAt, List.mem_append, hg, hj]
  exact .inr (by simp)

theorem ev_same {tm tm' : List (Nat × AV)} {x : Operand} (h : ∀ t, x = .tmp t → look tm t = look tm' t) : ev tm x = ev tm' x := by
  cases x with
  | tmp t => exact h t rfl
  | _ => rfl

theorem W_draw {E : En} {id : Nat} {l : List Oper} {Q : Exit → St → Prop} {s : St} (n : Nat) (hm : E.P.follows .mixedOrders = true) (hB : headB l.toArray n = true) (hT : tailB l.toArray n = true)
    (h : HW E l.toArray s.bl (l.take n) s (fun s' => WL E l.toArray (l.drop n) Q s')) : W E (.region id l.toArray true) Q s := by
  intro g0 a0 w00 hi0
  obtain ⟨T, hTl, hK, hstep⟩ := HW_trace _ _ h
  obtain ⟨hn, hback, hord⟩ := headB_spec hB
  have hn' : n ≤ l.length := by simpa using hn
  have hTn : T.length = n := by rw [hTl]; simp; omega
  simp only [tailB, Bool.and_eq_true] at hT
  obtain ⟨hT1, hT2⟩ := hT
  have hopt : ∀ i, i < n → ∃ o t, l.toArray[i]? = some o ∧ (l.take n)[i]? = some o ∧ T[i]? = some t := fun i hi => by
    have h1 : i < l.length := by omega
    refine ⟨l[i], T[i]'(by omega), by simp [h1], by simp [hi, h1], by simp [hTn, hi]⟩
  have inS : ∀ (i : Nat) (t : Tr), T[i]? = some t → ∀ (j : Nat) (t' : Tr), j < i → T[j]? = some t' → ∀ q ∈ t'.nb, q ∈ (stS (fun j => decide (j < i)) T 0 s).bl := fun i t _ j t' hj ht' q hq => (mem_bl_stS T 0 s).2 (.inr ⟨j, t', ht', by simpa using hj, hq⟩)
  have inS0 : ∀ (i : Nat) q, q ∈ s.bl → q ∈ (stS (fun j => decide (j < i)) T 0 s).bl := fun i q hq => (mem_bl_stS T 0 s).2 (.inl hq)
  have inO : ∀ (i : Nat) (t : Tr), T[i]? = some t → ∀ (j : Nat) (t' : Tr), j < i → T[j]? = some t' → ∀ k ∈ t'.no, k ∈ (stS (fun j => decide (j < i)) T 0 s).ow := fun i t _ j t' hj ht' k hk => (mem_ow_stS T 0 s).2 (.inr ⟨j, t', ht', by simpa using hj, hk⟩)
  let Lf : Array Bool → Nat → Bool := fun listed i => listed.getD i false
  have tailNot : ∀ listed, HeadInv .any l.toArray n listed → 0 < cnt n (Lf listed) → ∀ i ∈ Region.ready .any l.toArray listed, i < n := by
    intro listed inv hc i hi
    rcases Nat.lt_or_ge i n with h1 | h1
    · exact h1
    · exfalso
      have hlt : i < l.toArray.size := by
        obtain ⟨_, o, ho, _⟩ := mem_ready.1 hi
        exact (Array.getElem?_eq_some_iff.1 ho).1
      have hns : n < l.toArray.size := by omega
      have hb : Nat.blt n l.toArray.size = true := Nat.ble_eq_true_of_le hns
      rw [hb] at hT1
      simp only [cond_true, Bool.and_eq_true] at hT1
      obtain ⟨k, hk1, hk2, _⟩ := cnt_pos hc
      have hk3 : listed.getD k true = false := getD_in (by rw [inv.size]; omega) hk2
      exact tail_waits hT1.1 hT1.2 hns inv _ k rfl hk1 hk3 i h1 hi
  have progress : ∀ listed, HeadInv .any l.toArray n listed → 0 < cnt n (Lf listed) → Region.ready .any l.toArray listed ≠ [] := by
    intro listed inv hc he
    obtain ⟨k, hk1, hk2, hk3⟩ := cnt_pos hc
    have : k ∈ Region.ready .any l.toArray listed := by
      obtain ⟨o, t, h1, _, _⟩ := hopt k hk1
      exact mem_ready.2 ⟨getD_in (by rw [inv.size]; omega) hk2, o, h1, fun e he hb => hk3 _ (hback k o hk1 h1 e he hb)⟩
    rw [he] at this
    cases this
  have main : ∀ (f : Nat) (listed : Array Bool) (g : Gh) (a : Act) (w : World), cnt n (Lf listed) = f → HeadInv .any l.toArray n listed → Inv E g (stS (Lf listed) T 0 s) a w → wpAny E.P .any l.toArray (post E Q) (f + (l.toArray.size - n)) listed a w := by
    intro f
    induction f with
    | zero =>
      intro listed g a w hc inv hinv
      have hall := cnt_zero hc
      have hst : stS (Lf listed) T 0 s = stS (fun _ => true) T 0 s := by
        have : ∀ (T : List Tr) (i : Nat) (s : St), (∀ j, j < T.length → Lf listed (i + j) = true) → stS (Lf listed) T i s = stS (fun _ => true) T i s := by
          intro T
          induction T with
          | nil => intro i s _; rfl
          | cons t T ih =>
            intro i s hL
            simp only [stS]
            rw [show Lf listed i = true by simpa using hL 0 (by simp)]
            exact ih (i + 1) _ fun j hj => by have := hL (j + 1) (by simp; omega); rwa [show i + (j + 1) = i + 1 + j by omega] at this
        exact this T 0 s fun j hj => by rw [Nat.zero_add]; exact hall j (by omega)
      rw [hst] at hinv
      have hli : listed = ((List.range l.toArray.size).map fun i => Nat.blt i n).toArray := by
        apply Array.ext
        · simp [inv.size]
        · intro i h1 h2
          have h3 : i < l.toArray.size := by rw [← inv.size]; exact h1
          simp only [List.getElem_toArray, List.getElem_map, List.getElem_range]
          rcases Nat.lt_or_ge i n with h4 | h4
          · have h5 := hall i h4
            simp only [Lf, Array.getD_eq_getD_getElem?, Array.getElem?_eq_getElem h1, Option.getD_some] at h5
            rw [h5]
            exact (Nat.ble_eq_true_of_le h4).symm
          · have h5 := inv.tail i h4 h3
            simp only [Array.getD_eq_getD_getElem?, Array.getElem?_eq_getElem h1, Option.getD_some] at h5
            rw [h5]
            cases h6 : Nat.blt i n
            · rfl
            · have := Nat.le_of_ble_eq_true h6; omega
      have hdl : (l.drop n).length = l.toArray.size - n := by simp
      have := wpAny_of_seq (P := E.P) (md := .any) (Q' := post E Q) (l.drop n) n listed a w (fun j => by simp [List.getElem?_drop]) (by rw [hdl, hli]; exact hT2) (hK g a w hinv)
      rw [hdl] at this
      rw [Nat.zero_add]; exact this
    | succ f ih =>
      intro listed g a w hc inv hinv
      rw [show f + 1 + (l.toArray.size - n) = (f + (l.toArray.size - n)) + 1 by omega]
      have hpos : 0 < cnt n (Lf listed) := by omega
      refine ⟨fun he => absurd he (progress listed inv hpos), fun i hi => ?_⟩
      have hin := tailNot listed inv hpos i hi
      obtain ⟨o, t, ho, ho', ht⟩ := hopt i hin
      obtain ⟨hun, o2, ho2, hdeps⟩ := mem_ready.1 hi
      have : o2 = o := Option.some.inj (ho2.symm.trans ho)
      subst this
      have hLi : Lf listed i = false := getD_both hun
      obtain ⟨⟨hd, hdst, hrun⟩, hnew⟩ := hstep i o2 t ho' ht
      have closed : ∀ k ok, l.toArray[k]? = some ok → Lf listed k = true → ∀ e ∈ ok.after, Region.binds .any e = true → Lf listed e.on = true := fun k ok hk hl e he hb => inv.closed k ok hk hl e he hb
      have depI : ∀ j ∈ (depTab l.toArray n).getD i [], Lf listed j = true := depTab_closed closed n i fun o' ho' e he hb => by
        have : o' = o2 := Option.some.inj (ho'.symm.trans ho)
        subst this
        exact hdeps e he hb
      have depJ : ∀ j, i ∈ (depTab l.toArray n).getD j [] → Lf listed j = false := fun j hj => by
        cases hLj : Lf listed j
        · rfl
        · have := depTab_closed closed n j (fun o' ho' => closed j o' ho' hLj) i hj
          rw [hLi] at this; cases this
      have hTd : ∀ j tr, T[j]? = some tr → j < n ∧ ∃ oj, l.toArray[j]? = some oj ∧ tr.d = oj.dst := fun j tr hj => by
        have hjn : j < n := by rw [← hTn]; exact (List.getElem?_eq_some_iff.1 hj).1
        obtain ⟨oj, t', h1, h2, h3⟩ := hopt j hjn
        exact ⟨hjn, oj, h1, (hstep j oj tr h2 hj).1.d⟩
      have sameLook : ∀ u, u ∈ o2.looksAt l.toArray → look (stS (Lf listed) T 0 s).tm u = look (stS (fun j => decide (j < i)) T 0 s).tm u := fun u hu =>
        look_stS T 0 s s rfl fun j tr hj hdu => by
          rw [Nat.zero_add]
          obtain ⟨hjn, oj, hoj, hjd⟩ := hTd j tr hj
          rcases Nat.lt_trichotomy j i with h1 | h1 | h1
          · rw [decide_eq_true h1]
            exact depI j ((hord i o2 j oj u hin hjn (by omega) ho hoj (hjd ▸ hdu) (.inl hu)).1 h1)
          · subst h1; rw [hLi]; simp
          · rw [decide_eq_false (by omega)]
            exact depJ j ((hord i o2 j oj u hin hjn (by omega) ho hoj (hjd ▸ hdu) (.inl hu)).2 h1)
      have hLset : ∀ j, Lf (listed.setIfInBounds i true) j = (decide (j = i) || Lf listed j) := fun j => by
        by_cases e : j = i
        · subst e
          have hlt : j < listed.size := by rw [inv.size]; exact (Array.getElem?_eq_some_iff.1 ho).1
          simp [Lf, hlt]
        · simp only [e, decide_false, Bool.false_or, Lf]
          exact getD_set_ne false (Ne.symm e)
      have hcnt : cnt n (Lf (listed.setIfInBounds i true)) = f := by
        have := cnt_set (L := Lf listed) (L' := Lf (listed.setIfInBounds i true)) (i := i) hLi (by rw [hLset]; simp) (fun j hj => by rw [hLset]; simp [hj]) n
        rw [if_pos hin] at this
        omega
      -- what holds behind the step
      have next : ∀ (g' : Gh) (a' : Act) (w' : World), Inv E g' ((stS (Lf listed) T 0 s).app t.d t.v t.nb t.no) a' w' → wpAny E.P .any l.toArray (post E Q) (f + (l.toArray.size - n)) (listed.setIfInBounds i true) a' w' := by
        intro g' a' w' hinv'
        refine ih _ g' a' w' hcnt (inv.set hi hin) ⟨hinv'.mem.same (fun p => ?_) (fun k hk => ?_), fun u => ?_, hinv'.de, hinv'.sz⟩
        · simp only [St.app, List.mem_append, mem_bl_stS, hLset, Nat.zero_add]
          constructor
          · rintro (hp | hp | ⟨j, tr, h1, h2, h3⟩)
            · exact .inr ⟨i, t, ht, by simp, hp⟩
            · exact .inl hp
            · exact .inr ⟨j, tr, h1, by simp [h2], h3⟩
          · rintro (hp | ⟨j, tr, h1, h2, h3⟩)
            · exact .inr (.inl hp)
            · by_cases e : j = i
              · subst e
                rw [ht] at h1; cases h1; exact .inl h3
              · exact .inr (.inr ⟨j, tr, h1, by simpa [e] using h2, h3⟩)
        · simp only [St.app, List.mem_append, mem_ow_stS, hLset, Nat.zero_add] at hk ⊢
          rcases hk with hp | hp | ⟨j, tr, h1, h2, h3⟩
          · exact .inr ⟨i, t, ht, by simp, hp⟩
          · exact .inl hp
          · exact .inr ⟨j, tr, h1, by simp [h2], h3⟩
        · have hu := hinv'.tm u
          have heq : look (stS (Lf (listed.setIfInBounds i true)) T 0 s).tm u = look ((stS (Lf listed) T 0 s).app t.d t.v t.nb t.no).tm u := by
            by_cases hdu : t.d = some u
            · have h1 : look ((stS (Lf listed) T 0 s).app t.d t.v t.nb t.no).tm u = t.v := by simp [St.app, hdu, look]
              rw [h1]
              refine look_last T 0 i s t ht hdu rfl (by rw [Nat.zero_add, hLset]; simp) fun j tr hj hij hdj => ?_
              rw [Nat.zero_add, hLset]
              obtain ⟨hjn, oj, hoj, hjd⟩ := hTd j tr hj
              have := depJ j ((hord i o2 j oj u hin hjn (by omega) ho hoj (hjd ▸ hdj) (.inr (hd ▸ hdu))).2 hij)
              rw [this]
              simp; omega
            · have h1 : look ((stS (Lf listed) T 0 s).app t.d t.v t.nb t.no).tm u = look (stS (Lf listed) T 0 s).tm u := by
                simp only [St.app]
                cases hdd : t.d with
                | none => rfl
                | some k =>
                  have : k ≠ u := fun e => hdu (by rw [hdd, e])
                  simp only [look]
                  cases hb : Nat.beq k u
                  · rfl
                  · exact absurd (Nat.eq_of_beq_eq_true hb) this
              rw [h1]
              refine look_stS T 0 s s rfl fun j tr hj hdj => ?_
              rw [Nat.zero_add, hLset]
              have : j ≠ i := fun e => by subst e; rw [ht] at hj; cases hj; exact hdu hdj
              simp [this]
          rw [heq]; exact hu
      have hdst' : ∀ k, t.d = some k → k < E.nt := fun k hk => dstB_spec hdst k (hd ▸ hk)
      unfold wpOp
      simp only [ho]
      have hguard : ∀ {j d b}, o2.guard = some (j, b) → (l.toArray[j]?).bind (·.dst) = some d → ∀ c, look (stS (fun j => decide (j < i)) T 0 s).tm d = .v (.bool c) → yielded l.toArray a.tmps j = some c := fun {j d b} hg hj c hc' => by
        have h1 := hinv.tm d
        rw [sameLook d (looksAt_guard hg hj), hc'] at h1
        simp only [rep] at h1
        exact yielded_of hj h1
      have oth : ∀ j tr, T[j]? = some tr → Lf listed j = true → j ≠ i := fun j tr _ hL e => by subst e; rw [hLi] at hL; cases hL
      have operandsOk : ∀ x ∈ o2.op.operands, rep g w (ev (stS (fun j => decide (j < i)) T 0 s).tm x) (a.eval x) := fun x hx => by
        have := rep_ev hinv.tm x
        rwa [ev_same (tm' := (stS (fun j => decide (j < i)) T 0 s).tm) fun u hu => by subst hu; exact sameLook u (looksAt_op hx)] at this
      rcases hrun with ⟨hq, ⟨hf, hnm⟩, hg⟩ | ⟨hv, hnb, hno, j, dd, b, hg, hj, hb⟩ | ⟨n0, cs0, hqi, hv, hnb, hno⟩ | ⟨hv, hnb, hno, j, dd, b, hg, hj, hb⟩
      · have hw : Region.wanted o2 (yielded l.toArray a.tmps) = true := by
          rcases hg with hg | ⟨j, dd, b, hg, hj, hb⟩
          · simp [Region.wanted, hg]
          · simp [Region.wanted, hg, hguard hg hj b hb]
        rw [hw]
        refine .inl ?_
        have hfresh : (∀ p ∈ t.nb, ∀ q ∈ (stS (Lf listed) T 0 s).bl, p.1 ≠ q.1) ∧ ∀ k ∈ t.no, k ∉ (stS (Lf listed) T 0 s).ow := by
          obtain ⟨f1, f2⟩ := freshB_spec hf
          · refine ⟨fun p hp q hq' => ?_, fun k hk hk' => ?_⟩
            · rcases (mem_bl_stS T 0 s).1 hq' with hq' | ⟨j, tr, h1, h2, h3⟩
              · exact f1 p hp q (inS0 i q hq')
              · rw [Nat.zero_add] at h2
                rcases Nat.lt_trichotomy j i with h4 | h4 | h4
                · exact f1 p hp q (inS i t ht j tr h4 h1 q h3)
                · exact absurd h4 (oth j tr h1 h2)
                · obtain ⟨hjn, oj, hoj, hjd⟩ := hTd j tr h1
                  obtain ⟨oj', t', k1, k2, k3⟩ := hopt j hjn
                  have : oj' = oj := Option.some.inj (k1.symm.trans hoj)
                  subst this
                  rcases (hstep j oj' tr k2 h1).2 with ⟨hf', _⟩ | ⟨n2, cs2, e3, _, _, hop2, _⟩
                  · exact fun e => (freshB_spec hf').1 q h3 p (inS j tr h1 i t h4 ht p hp) e.symm
                  · intro e
                    rw [e3] at h3
                    simp only [List.mem_singleton] at h3
                    have e5 : o2.dst = some n2 := by rw [hnm p hp, e, h3]
                    have := depJ j ((hord j oj' i o2 n2 hjn hin (by omega) hoj ho e5 (.inl (looksAt_op hop2))).1 h4)
                    rw [h2] at this; cases this
            · rcases (mem_ow_stS T 0 s).1 hk' with hk' | ⟨j, tr, h1, h2, h3⟩
              · exact f2 k hk ((mem_ow_stS T 0 s).2 (.inl hk'))
              · rw [Nat.zero_add] at h2
                rcases Nat.lt_trichotomy j i with h4 | h4 | h4
                · exact f2 k hk (inO i t ht j tr h4 h1 k h3)
                · exact absurd h4 (oth j tr h1 h2)
                · obtain ⟨hjn, oj, hoj, hjd⟩ := hTd j tr h1
                  obtain ⟨oj', t', k1, k2, k3⟩ := hopt j hjn
                  rcases (hstep j oj' tr k2 h1).2 with ⟨hf', _⟩ | ⟨n2, cs2, e3, e4, _, hop2, _⟩
                  · exact (freshB_spec hf').2 k h3 (inO j tr h1 i t h4 ht k hk)
                  · rw [e4] at h3; simp at h3
        refine wp_of_uponQ (hq g w a.eval (stS (Lf listed) T 0 s).bl (stS (Lf listed) T 0 s).ow hinv.mem (fun p hp => (mem_bl_stS T 0 s).2 (.inl hp)) hfresh.1 hfresh.2 operandsOk) fun y w' hKy => ?_
        obtain ⟨g', h1, h2, h3⟩ := hKy
        have := hinv.app (d := t.d) hdst' h1 h2 h3
        rw [hd] at this
        exact next g' _ w' (by rw [hd]; exact this)
      · have hw : Region.wanted o2 (yielded l.toArray a.tmps) = false := by
          simp [Region.wanted, hg, hguard hg hj b hb]
        rw [hw]
        have := hinv.app (d := t.d) (v := t.v) (y := undef) (nb := t.nb) (no := t.no) hdst' (Goes.refl g w) (by rw [hnb, hno]; exact hinv.mem) (by rw [hv]; simp [rep])
        rw [hd] at this
        exact next g _ w (by rw [hd]; exact this)
      · have hw : Region.wanted o2 (yielded l.toArray a.tmps) = true := by simp [Region.wanted, hqi.2.1]
        rw [hw]
        refine .inl ?_
        have hin0 : initB n0 cs0.length (stS (fun j => decide (j < i)) T 0 s).bl = true := by
          rcases hnew with ⟨hf, hnm⟩ | ⟨n1, cs1, e1, _, _, _, hin1⟩
          · have := hnm (n0, cs0) (by rw [hnb]; simp)
            rw [hqi.1] at this; cases this
          · rw [hnb] at e1
            simp only [List.cons.injEq, Prod.mk.injEq, and_true] at e1
            obtain ⟨rfl, rfl⟩ := e1
            exact hin1
        obtain ⟨⟨c0, hc0⟩, hall0⟩ := initB_spec hin0
        have hopt0 : n0 ∈ o2.looksAt l.toArray := looksAt_op hqi.2.2.1
        have hnt : ∀ c : List AV, c.all (fun x => !isTop x) = true → c ≠ [] → c.all isTop = true → False := by
          intro c h1 h2 h3
          cases c with
          | nil => exact h2 rfl
          | cons x c =>
            simp only [List.all_cons, Bool.and_eq_true, Bool.not_eq_true'] at h1 h3
            rw [h3.1] at h1; cases h1.1
        refine wp_of_uponQ (hqi.2.2.2.2 g w a.eval (stS (Lf listed) T 0 s).bl (stS (Lf listed) T 0 s).ow hinv.mem ⟨c0, ?_⟩ (fun c hc => ?_) operandsOk) fun y w' hKy => ?_
        · rcases (mem_bl_stS T 0 s).1 hc0 with h1 | ⟨j, tr, h1, h2, h3⟩
          · exact (mem_bl_stS T 0 s).2 (.inl h1)
          · rw [Nat.zero_add] at h2
            have hji : j < i := of_decide_eq_true h2
            refine (mem_bl_stS T 0 s).2 (.inr ⟨j, tr, h1, ?_, h3⟩)
            rw [Nat.zero_add]
            obtain ⟨hjn, oj, hoj, hjd⟩ := hTd j tr h1
            obtain ⟨oj', t', k1, k2, k3⟩ := hopt j hjn
            have : oj' = oj := Option.some.inj (k1.symm.trans hoj)
            subst this
            rcases (hstep j oj' tr k2 h1).2 with ⟨_, hnm'⟩ | ⟨n2, cs2, e3, _, hnt2, _, _⟩
            · exact depI j ((hord i o2 j oj' n0 hin hjn (by omega) ho hoj (hnm' _ h3) (.inl hopt0)).1 hji)
            · rw [e3] at h3
              simp only [List.mem_singleton, Prod.mk.injEq] at h3
              obtain ⟨rfl, rfl⟩ := h3
              exact (hnt _ hnt2.1 hnt2.2 (hall0 _ hc0).2).elim
        · rcases (mem_bl_stS T 0 s).1 hc with h1 | ⟨j, tr, h1, h2, h3⟩
          · exact hall0 c (inS0 i _ h1)
          · rw [Nat.zero_add] at h2
            rcases Nat.lt_trichotomy j i with h4 | h4 | h4
            · exact hall0 c (inS i t ht j tr h4 h1 _ h3)
            · exact absurd h4 (oth j tr h1 h2)
            · obtain ⟨hjn, oj, hoj, hjd⟩ := hTd j tr h1
              obtain ⟨oj', t', k1, k2, k3⟩ := hopt j hjn
              rcases (hstep j oj' tr k2 h1).2 with ⟨hf', _⟩ | ⟨n2, cs2, e3, _, _, _, hin2⟩
              · exact absurd rfl ((freshB_spec hf').1 _ h3 (n0, cs0) (inS j tr h1 i t h4 ht _ (by rw [hnb]; simp)))
              · rw [e3] at h3
                simp only [List.mem_singleton, Prod.mk.injEq] at h3
                obtain ⟨rfl, rfl⟩ := h3
                have := (initB_spec hin2).2 cs0 (inS j tr h1 i t h4 ht _ (by rw [hnb]; simp))
                exact (hnt _ hqi.2.2.2.1.1 hqi.2.2.2.1.2 this.2).elim
        · obtain ⟨hy, g', h1, h2⟩ := hKy
          have := hinv.app (d := t.d) (v := t.v) (y := y) (nb := t.nb) (no := t.no) hdst' h1 (by rw [hnb, hno]; exact h2) (by
            have hdn : t.d = none := hd.trans hqi.1
            rw [hv, hy]; simp [rep])
          rw [hd] at this
          exact next g' _ w' (by rw [hd]; exact this)
      · have hw : Region.wanted o2 (yielded l.toArray a.tmps) = false := by
          have h1 := hinv.tm dd
          rw [sameLook dd (looksAt_guard hg hj), hb] at h1
          simp only [rep] at h1
          simp [Region.wanted, hg, yielded_un hj h1]
        rw [hw]
        have := hinv.app (d := t.d) (v := t.v) (y := undef) (nb := t.nb) (no := t.no) hdst' (Goes.refl g w) (by rw [hnb, hno]; exact hinv.mem) (by rw [hv]; simp [rep])
        rw [hd] at this
        exact next g _ w (by rw [hd]; exact this)
  refine wp_region_any hm ?_
  have inv0 : HeadInv .any l.toArray n (Array.replicate l.toArray.size false) :=
    ⟨by simp, fun j oj _ hl => (by rw [getD_replicate_false] at hl; cases hl), fun t _ ht => getD_in (by simpa using ht) (getD_replicate_false _ _)⟩
  have hL0 : Lf (Array.replicate l.toArray.size false) = fun _ => false := by funext i; exact getD_replicate_false _ _
  have := main n (Array.replicate l.toArray.size false) g0 a0 { w00 with drawn := w00.drawn + 1 } (by rw [hL0]; exact cnt_false n) inv0 ?_
  · rwa [show n + (l.toArray.size - n) = l.toArray.size by omega] at this
  · rw [hL0]
    have zero : ∀ (T : List Tr) (i : Nat) (s : St), stS (fun _ => false) T i s = s := by
      intro T
      induction T with
      | nil => intro i s; rfl
      | cons t T ih => intro i s; simp only [stS, cond_false]; exact ih _ s
    rw [zero]
    exact hi0.drew
end Go.Eng
