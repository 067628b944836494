/- My walking engine, part 3: abstract values of Go, and the rules of a walk over them. No program in sight. -/
import Derived.Conc.CompanyDraw
import Derived.Test.YtpcahgedkmgllaaGreatZ2
import Derived.WalkKit
import Derived.TacticsIn
import Derived.OrdersIn
import Derived.WalkSpells
import Derived.WalkLawsBesides
import Derived.Handy
import Derived.StillTail
import Derived.Laws.OwnMore
import Derived.Conc.EventLaws2
import Derived.Conc.AppendEvents3
import Derived.Conc.AppendWalk
import Derived.AtR
import Derived.RangeFuncRecord
import Derived.Test.YtpcahgedkmgllaaGreatZ1
namespace Go.Eng
open Go Go.Conc

def flatO : Op → Bool
  | .call ⟨.value _, _, _⟩ => false
  | .go _ => false
  | _ => true
def flatC : Code → Bool
  | .region _ ops _ => ops.toList.all fun o => flatO o.op
  | .rangeFunc _ _ _ _ => false
  | .seq c d => flatC c && flatC d
  | .cond _ c d => flatC c && flatC d
  | .block _ c => flatC c
  | .loop c => flatC c
  | .scope c => flatC c
  | _ => true
section
variable {P : Program} {main : Bool} {b : Frame} {a : Act} {k : List Item} {cs : List Frame} {w w' : World}
theorem sq_skip : stepG P main (G (b.atR a (.code .skip :: k)) cs) w = .go (G (b.atR a k) cs) w := by simp [G, stepG, stepG.exec, Frame.atR]
theorem sq_label {l : Nat} : stepG P main (G (b.atR a (.code (.label l) :: k)) cs) w = .go (G (b.atR a k) cs) w := by simp [G, stepG, stepG.exec, Frame.atR]
theorem sq_inBlock {id : Nat} : stepG P main (G (b.atR a (.inBlock id :: k)) cs) w = .go (G (b.atR a k) cs) w := by simp [G, stepG, stepG.exec, Frame.atR]
theorem sq_seq {x y : Code} : stepG P main (G (b.atR a (.code (.seq x y) :: k)) cs) w = .go (G (b.atR a (.code x :: .code y :: k)) cs) w := by simp [G, stepG, stepG.exec, Frame.atR]
theorem sq_cond {c : Operand} {x y : Code} {t : Bool} (h : a.eval c = .bool t) : stepG P main (G (b.atR a (.code (.cond c x y) :: k)) cs) w = .go (G (b.atR a (.code (if t then x else y) :: k)) cs) w := by
  have := congrFun (Frame.eval_atR b a (.code (.cond c x y) :: k)) c
  simp only [Frame.atR] at this
  simp [G, stepG, stepG.exec, Frame.atR, this, h]
theorem sq_block {id : Nat} {c : Code} : stepG P main (G (b.atR a (.code (.block id c) :: k)) cs) w = .go (G (b.atR a (.code c :: .inBlock id :: k)) cs) w := by simp [G, stepG, stepG.exec, Frame.atR]
theorem sq_loop {c : Code} : stepG P main (G (b.atR a (.code (.loop c) :: k)) cs) w = .go (G (b.atR a (.code c :: .inLoop c :: k)) cs) w := by simp [G, stepG, stepG.exec, Frame.atR]
theorem sq_inLoop {c : Code} : stepG P main (G (b.atR a (.inLoop c :: k)) cs) w = .go (G (b.atR a (.code c :: .inLoop c :: k)) cs) w := by simp [G, stepG, stepG.exec, Frame.atR]
theorem sq_exit {id : Nat} {k' : List Item} (h : exitTo id k = some k') : stepG P main (G (b.atR a (.code (.exit id) :: k)) cs) w = .go (G (b.atR a k') cs) w := by simp [G, stepG, stepG.exec, Frame.atR, h]
theorem sq_region {id : Nat} {ops : Array Oper} : stepG P main (G (b.atR a (.code (.region id ops false) :: k)) cs) w = .go (G (b.atR a (.inRegion ops (List.range ops.size) :: k)) cs) w := by simp [G, stepG, stepG.exec, Frame.atR]
theorem sq_region_end {ops : Array Oper} : stepG P main (G (b.atR a (.inRegion ops [] :: k)) cs) w = .go (G (b.atR a k) cs) w := by simp [G, stepG, stepG.exec, Frame.atR]
theorem sq_end (h : b.roundOf = none) : stepG P main (G (b.atR a []) cs) w = .go (G { b.atR a [] with mode := .returning } cs) w := by simp [G, stepG, stepG.exec, Frame.atR, h]
theorem sq_ret (h : b.roundOf = none) : stepG P main (G (b.atR a (.code .ret :: k)) cs) w = .go (G { b.atR a (.code .ret :: k) with mode := .returning } cs) w := by simp [G, stepG, stepG.exec, Frame.atR, h]
theorem sq_region_draw {ops : Array Oper} {id : Nat} : stepG P main (G (b.atR a (.code (.region id ops true) :: k)) cs) w =
      .go (G (b.atR a (.inRegion ops (Region.schedule (P.follows .mixedOrders) ops (w.tape w.drawn (.order b.fn id))) :: k)) cs) { w with drawn := w.drawn + 1 } := by
  simp [G, stepG, stepG.exec, Frame.atR, choose, Sem.run, Question.forced, Question.cut]
theorem sq_unwanted {ops : Array Oper} {i : Nat} {rest : List Nat} {o : Oper} (ho : ops[i]? = some o) (hw : Region.wanted o (yielded ops a.tmps) = false) :
    stepG P main (G (b.atR a (.inRegion ops (i :: rest) :: k)) cs) w = .go (G (b.atR (a.put o.dst undef) (.inRegion ops rest :: k)) cs) w #[] := by
  have hfin : (b.atR a (.inRegion ops (i :: rest) :: k)).finish undef = b.atR (a.put o.dst undef) (.inRegion ops rest :: k) := by rw [Frame.finish_atR, ho]; rfl
  rw [← hfin]
  simp [G, stepG, stepG.exec, Frame.atR, ho, hw]
def isDefer : Op → Bool
  | .defer _ => true
  | _ => false
theorem sq_oper {ops : Array Oper} {i : Nat} {rest : List Nat} {o : Oper} (ho : ops[i]? = some o) (hw : Region.wanted o (yielded ops a.tmps) = true) (hd : isDefer o.op = false) :
    stepG P main (G (b.atR a (.inRegion ops (i :: rest) :: k)) cs) w = stepG.apply P true (b.atR a (.inRegion ops (i :: rest) :: k)) cs none (execOp a.eval o) w := by
  have he := Frame.eval_atR b a (.inRegion ops (i :: rest) :: k)
  simp only [Frame.atR] at he
  simp only [G, stepG, stepG.exec, Frame.atR, ho, hw, Option.map_some, Option.getD_some, if_true, stepG.oper, Frame.oper?, he]
  generalize hop : o.op = op at hd
  cases hb : b.roundOf <;> cases op <;> first | rfl | (simp [isDefer] at hd)
theorem not_defer {o : Oper} {r : Next} (h : (execOp a.eval o).run P w = .ok r w') (hr : ∀ d, r ≠ .defer d) : isDefer o.op = false := by
  cases hop : o.op <;> first | rfl | skip
  rename_i c
  exfalso
  have h2 : (execOp a.eval o) = (do return .defer (← resolve a.eval c o.type)) := by simp [execOp, hop]
  rw [h2] at h
  generalize resolve a.eval c o.type = s at h
  rw [Sem.run_bind] at h
  cases hs : s.run P w with
  | ok x w1 =>
    rw [hs] at h
    simp only [Result.andThen_ok, Sem.run_pure, Result.ok.injEq] at h
    exact hr _ h.1.symm
  | halt x w1 => rw [hs] at h; cases h
theorem sq_value {ops : Array Oper} {i : Nat} {rest : List Nat} {o : Oper} {v : Value} (ho : ops[i]? = some o) (hw : Region.wanted o (yielded ops a.tmps) = true) (hk : b.kind ≠ .early) (hr : (execOp a.eval o).run P w = .ok (.value v) w') :
    stepG P main (G (b.atR a (.inRegion ops (i :: rest) :: k)) cs) w = .go (G (b.atR (a.put o.dst v) (.inRegion ops rest :: k)) cs) w' (listed P b.fn a o w) := by
  have hfin : (b.atR a (.inRegion ops (i :: rest) :: k)).finish v = b.atR (a.put o.dst v) (.inRegion ops rest :: k) := by rw [Frame.finish_atR, ho]; rfl
  have hk' : (b.kind == CallKind.early) = false := by simpa using hk
  rw [sq_oper ho hw (not_defer hr (by intro d h; cases h)), ← hfin]
  simp [stepG.apply, hr, G, Frame.atR, hk', GStep.after, listed]
theorem sq_none {ops : Array Oper} {i : Nat} {rest : List Nat} {o : Oper} (ho : ops[i]? = some o) (hw : Region.wanted o (yielded ops a.tmps) = true) (hk : b.kind ≠ .early) (hr : (execOp a.eval o).run P w = .ok .skip w') :
    stepG P main (G (b.atR a (.inRegion ops (i :: rest) :: k)) cs) w = .go (G (b.atR (a.put o.dst undef) (.inRegion ops rest :: k)) cs) w' (listed P b.fn a o w) := by
  have hfin : (b.atR a (.inRegion ops (i :: rest) :: k)).finish undef = b.atR (a.put o.dst undef) (.inRegion ops rest :: k) := by rw [Frame.finish_atR, ho]; rfl
  have hk' : (b.kind == CallKind.early) = false := by simpa using hk
  rw [sq_oper ho hw (not_defer hr (by intro d h; cases h)), ← hfin]
  simp [stepG.apply, hr, G, Frame.atR, hk', GStep.after, listed]
theorem sq_enter {ops : Array Oper} {i : Nat} {rest : List Nat} {o : Oper} {f : FuncId} {args : Array Value} (ho : ops[i]? = some o) (hw : Region.wanted o (yielded ops a.tmps) = true) (hk : b.kind ≠ .early) (hr : (execOp a.eval o).run P w = .ok (.enter f args) w') :
    stepG P main (G (b.atR a (.inRegion ops (i :: rest) :: k)) cs) w = .go (G (Frame.enter P f args .normal) (b.atR a (.inRegion ops (i :: rest) :: k) :: cs)) w' (listed P b.fn a o w) := by
  have hk' : (b.kind == CallKind.early) = false := by simpa using hk
  rw [sq_oper ho hw (not_defer hr (by intro d h; cases h))]
  simp [stepG.apply, hr, G, Frame.atR, hk', GStep.after, listed]
def rbase (f : FuncId) (l : Nat) : Frame := { base f with roundOf := some l }
theorem sq_round {ops : Array Oper} {i : Nat} {rest : List Nat} {o : Oper} {l : Nat} {f : FuncId} {tmps : Array Value} {assign body : Code} (ho : ops[i]? = some o) (hw : Region.wanted o (yielded ops a.tmps) = true) (hk : b.kind ≠ .early)
    (hr : (execOp a.eval o).run P w = .ok (.round l f tmps assign body) w') :
    stepG P main (G (b.atR a (.inRegion ops (i :: rest) :: k)) cs) w = .go (G ((rbase f l).atR ⟨tmps, []⟩ [.code assign, .beginRound, .code body]) (b.atR a (.inRegion ops (i :: rest) :: k) :: cs)) w' (listed P b.fn a o w) := by
  have hk' : (b.kind == CallKind.early) = false := by simpa using hk
  rw [sq_oper ho hw (not_defer hr (by intro d h; cases h))]
  simp [stepG.apply, hr, G, Frame.atR, hk', GStep.after, listed, Frame.round, rbase, base]
theorem sq_begin {f l : Nat} {k : List Item} (hr : (Instr.beginRound l).run P w = .ok () w') :
    stepG P main (G ((rbase f l).atR a (.beginRound :: k)) cs) w = .go (G ((rbase f l).atR a k) cs) w' (seen P f ((Instr.beginRound l).events P w #[])) := by
  have he : ((do Instr.beginRound l; pure .skip : Sem Next)).runT P w #[] = (.ok .skip w', (Instr.beginRound l).events P w #[]) := by
    rw [Sem.runT_eq]
    simp [hr]
  simp only [G, stepG, stepG.exec, Frame.atR, rbase, Option.elim, stepG.apply, if_true, he]
  simp [base, GStep.after, Frame.finish]
theorem sq_endRound {f l : Nat} {c : Frame} {v : Value} (hr : (Instr.endRound l none).run P w = .ok v w') :
    stepG P main (G ((rbase f l).atR a []) (c :: cs)) w = .go (G (c.finish v) cs) w' (seen P f ((Instr.endRound l none).events P w #[])) := by
  simp [G, stepG, stepG.exec, Frame.atR, rbase, Sem.runT_eq, hr, base, GStep.after, doReturn]
theorem sq_endRoundRet {f l : Nat} {c : Frame} {v : Value} (hr : (Instr.endRound l (some .ret)).run P w = .ok v w') :
    stepG P main (G ((rbase f l).atR a (.code .ret :: k)) (c :: cs)) w = .go (G (c.finish v) cs) w' (seen P f ((Instr.endRound l (some .ret)).events P w #[])) := by
  simp [G, stepG, stepG.exec, Frame.atR, rbase, Sem.runT_eq, hr, base, GStep.after, doReturn]
theorem sq_endLoop {l : Nat} {jump : Option Code} (hr : (Instr.endLoop l).run P w = .ok jump w') :
    stepG P main (G (b.atR a (.endRangeFunc l :: k)) cs) w = .go (G (b.atR a ((jump.map Item.code).toList ++ k)) cs) w' (seen P b.fn ((Instr.endLoop l).events P w #[])) := by
  simp [G, stepG, stepG.exec, Frame.atR, Sem.runT_eq, hr, GStep.after]
abbrev markD (D : Nat) : List Deferred := [{ target := .collected D, args := #[] }]
def loopR (fn : FuncId) (tmps : Array Value) (ps : Array Tmp) (assign body : Code) (D : Nat) (st : LoopState) (pe : Option Code) : Obj := .loop { state := st, pending := pe, fn, tmps, params := ps, assign, body, defers := D }
theorem sq_rangeFunc {f : Operand} {ps : Array Tmp} {assign body : Code} {gf : Nat} {lb : Array Value} (hb : b.roundOf = none) (hk : b.kind ≠ .early) (hf : a.eval f = .func (.func gf) #[] lb)
    (hcall : ∀ args w, (callFunc gf args).run P w = .ok (.enter gf args) w) (hev : ∀ args w, (callFunc gf args).events P w #[] = #[]) :
    stepG P main (G (b.atR a (.code (.rangeFunc f ps assign body) :: k)) cs) w =
      .go (G (Frame.enter P gf (#[.func (.yield (w.heap.size + 1)) #[] #[]] ++ lb) .normal) (b.atR { a with defers := markD w.heap.size ++ a.defers } (.inRangeFunc (w.heap.size + 1) :: k) :: cs))
        ((w.alloc (.deferred (some []))).alloc (loopR b.fn a.tmps ps assign body w.heap.size .ready none)) #[] := by
  have hk' : (b.kind == CallKind.early) = false := by simpa using hk
  have e1 : (Instr.enterLoop b.fn a.tmps ps assign body none).runT P w #[] = (.ok (w.heap.size + 1, markD w.heap.size) ((w.alloc (.deferred (some []))).alloc (loopR b.fn a.tmps ps assign body w.heap.size .ready none)), #[]) := by
    rw [Sem.runT_eq, run_enterLoop_outer]
    simp [Instr.enterLoop, loopR]
  have he := Frame.eval_atR b { a with defers := markD w.heap.size ++ a.defers } (.inRangeFunc (w.heap.size + 1) :: k)
  have hs : (do let d ← resolve (Frame.eval (b.atR { a with defers := markD w.heap.size ++ a.defers } (.inRangeFunc (w.heap.size + 1) :: k))) { callee := .value f, args := #[.const (.func (.yield (w.heap.size + 1)) #[] #[])], argTypes := #[] } 0; invoke d.target d.args : Sem Next) = callFunc gf (#[.func (.yield (w.heap.size + 1)) #[] #[]] ++ lb) := by
    have hf' : ({ a with defers := markD w.heap.size ++ a.defers } : Act).eval f = .func (.func gf) #[] lb := by
      rw [← hf]; cases f <;> rfl
    rw [he]
    simp only [resolve, hf']
    simp [go_sem, invoke, Act.eval]
  have h1 : stepG P main (G (b.atR a (.code (.rangeFunc f ps assign body) :: k)) cs) w = GStep.after (seen P b.fn #[]) (stepG.apply P true (b.atR { a with defers := markD w.heap.size ++ a.defers } (.inRangeFunc (w.heap.size + 1) :: k)) cs none
      (do let d ← resolve (Frame.eval (b.atR { a with defers := markD w.heap.size ++ a.defers } (.inRangeFunc (w.heap.size + 1) :: k))) { callee := .value f, args := #[.const (.func (.yield (w.heap.size + 1)) #[] #[])], argTypes := #[] } 0; invoke d.target d.args)
      ((w.alloc (.deferred (some []))).alloc (loopR b.fn a.tmps ps assign body w.heap.size .ready none))) := by
    simp only [G, stepG, stepG.exec, Frame.atR, hb, e1]
  rw [h1, hs]
  have h2 := hcall (#[.func (.yield (w.heap.size + 1)) #[] #[]] ++ lb) ((w.alloc (.deferred (some []))).alloc (loopR b.fn a.tmps ps assign body w.heap.size .ready none))
  have h3 := hev (#[.func (.yield (w.heap.size + 1)) #[] #[]] ++ lb) ((w.alloc (.deferred (some []))).alloc (loopR b.fn a.tmps ps assign body w.heap.size .ready none))
  generalize (w.alloc (.deferred (some []))).alloc (loopR b.fn a.tmps ps assign body w.heap.size .ready none) = W at h2 h3
  generalize callFunc gf (#[.func (.yield (w.heap.size + 1)) #[] #[]] ++ lb) = s at h2 h3
  simp only [stepG.apply, if_true, Sem.runT_eq, h2, h3]
  simp [Frame.atR, hk', GStep.after, G, seen_none]
end

structure Lg (P : Program) where
  main : Bool
  ok : Rig → Goroutine → World → Prop
  rely : ∀ {V : Rig} {g : Goroutine} {w w₁ : World}, ok V g w → Rely V w w₁ → ok V g w₁
  step : ∀ {V : Rig} {g : Goroutine} {w : World}, g.status = .running → (∀ w₁, Rely V w w₁ → ∃ g' w' es, stepG P main g w₁ = .go g' w' es ∧ Guar V w₁ w' es ∧ ok (V.grow w₁.heap.size w'.heap.size) g' w') → ok V g w
  big : ∀ {V : Rig} {g : Goroutine} {w : World}, V.ext = .alone → Big P ok V g w → ok V g w

structure CW where
  V : Rig
  w : World

section
variable {P : Program} (L : Lg P)
theorem Lg.silent {V : Rig} {g g' : Goroutine} {w : World} (hs : g.status = .running) (h : ∀ w₁, stepG P L.main g w₁ = .go g' w₁ #[]) (hk : L.ok V g' w) : L.ok V g w :=
  L.step hs fun w₁ r => ⟨g', w₁, #[], h w₁, Guar.idle V w₁, by rw [Rig.grow_self]; exact L.rely hk r⟩

def AfterV (b : Frame) (k : List Item) (cs : List Frame) : Exit → Act → CW → Prop
  | .normal, a, x => L.ok x.V (G (b.atR a k) cs) x.w
  | .exit id, a, x => ∃ k', exitTo id k = some k' ∧ L.ok x.V (G (b.atR a k') cs) x.w
  | .ret, a, x => ∀ todo, L.ok x.V (G (b.atR a (.code .ret :: todo)) cs) x.w
  | _, _, _ => False
theorem AfterV.push {L : Lg P} {b : Frame} {i : Item} {k : List Item} {cs : List Frame} {e : Exit} {a : Act} {x : CW} (hi : i.plain = true) (he : e ≠ .normal) (h : AfterV L b k cs e a x) : AfterV L b (i :: k) cs e a x := by
  cases e with
  | normal => exact absurd rfl he
  | exit id => obtain ⟨k', hk, hg⟩ := h; exact ⟨k', by cases i <;> simp_all [exitTo, Item.plain], hg⟩
  | ret => exact h
  | goto l => exact h
  | panic ch => exact h
  | outgrown => exact h
end

def thenX (Y : Act → CW → Prop) (Q : Exit → Act → CW → Prop) : Exit → Act → CW → Prop
  | .normal, a, x => Y a x
  | e, a, x => Q e a x
def inBlkX (id : Nat) (Q : Exit → Act → CW → Prop) : Exit → Act → CW → Prop
  | .exit i, a, x => if i = id then Q .normal a x else Q (.exit i) a x
  | e, a, x => Q e a x
def _root_.Go.Code.wpV {P : Program} (L : Lg P) (c : Code) (Q : Exit → Act → CW → Prop) (a : Act) (x : CW) : Prop :=
  ∀ (b : Frame) (k : List Item) (cs : List Frame), b.kind ≠ .early → (b.roundOf = none ∨ flatC c = true) → (∀ e a' x', Q e a' x' → AfterV L b k cs e a' x') → L.ok x.V (G (b.atR a (.code c :: k)) cs) x.w
def OpsV {P : Program} (L : Lg P) (ops : Array Oper) (todo : List Nat) (Q : Exit → Act → CW → Prop) (a : Act) (x : CW) : Prop :=
  ∀ (b : Frame) (k : List Item) (cs : List Frame), b.kind ≠ .early → (∀ e a' x', Q e a' x' → AfterV L b k cs e a' x') → L.ok x.V (G (b.atR a (.inRegion ops todo :: k)) cs) x.w
def CW.to (x : CW) (w₁ w' : World) : CW := ⟨x.V.grow w₁.heap.size w'.heap.size, w'⟩

def outV {P : Program} (fn : Func) (Post : Value → CW → Prop) (a : Act) (x : CW) : Prop :=
  a.defers = [] ∧ ∀ w₁, Rely x.V x.w w₁ → ∃ v, (results fn a.tmps).run P w₁ = .ok v w₁ ∧ (∀ e ∈ (results fn a.tmps).events P w₁ #[], EvG x.V w₁.heap.size w₁.heap.size e) ∧ Post v ⟨x.V, w₁⟩
def takeV {P : Program} (fn : Func) (Post : Value → CW → Prop) (a : Act) (x : CW) : Prop :=
  ∃ D, a.defers = markD D ∧ x.V.ext = .alone ∧ x.V.mine D ∧ ∀ w₁, Rely x.V x.w w₁ → w₁.heap[D]? = some (.deferred (some [])) ∧ outV (P := P) fn Post { a with defers := [] } ⟨x.V, w₁.putObj D (.deferred none)⟩
def bodyPostV {P : Program} (_ : Lg P) (fn : Func) (Post : Value → CW → Prop) : Exit → Act → CW → Prop
  | .normal, a, x => outV (P := P) fn Post a x ∨ takeV (P := P) fn Post a x
  | .ret, a, x => outV (P := P) fn Post a x ∨ takeV (P := P) fn Post a x
  | _, _, _ => False
def CallsV {P : Program} (L : Lg P) (f : FuncId) (args : Array Value) (x : CW) (Post : Value → CW → Prop) : Prop :=
  ∃ fn c, P.funcs[f]? = some fn ∧ fn.body = some c ∧ c.wpV L (bodyPostV L fn Post) { tmps := args ++ Array.replicate (fn.ntmps - args.size) undef, defers := [] } x
def roundPostV {P : Program} (_ : Lg P) (l : Nat) (K : Value → CW → Prop) : Exit → Act → CW → Prop
  | .normal, _, x => ∀ w₁, Rely x.V x.w w₁ → ∃ v w', (Instr.endRound l none).run P w₁ = .ok v w' ∧ Guar x.V w₁ w' ((Instr.endRound l none).events P w₁ #[]) ∧ K v ⟨x.V.grow w₁.heap.size w'.heap.size, w'⟩
  | .ret, _, x => ∀ w₁, Rely x.V x.w w₁ → ∃ v w', (Instr.endRound l (some .ret)).run P w₁ = .ok v w' ∧ Guar x.V w₁ w' ((Instr.endRound l (some .ret)).events P w₁ #[]) ∧ K v ⟨x.V.grow w₁.heap.size w'.heap.size, w'⟩
  | _, _, _ => False
def RoundV {P : Program} (L : Lg P) (l : Nat) (tmps : Array Value) (assign body : Code) (x : CW) (K : Value → CW → Prop) : Prop :=
  flatC assign = true ∧ flatC body = true ∧ assign.wpV L (fun e a x => e = .normal ∧ ∀ w₁, Rely x.V x.w w₁ → ∃ w', (Instr.beginRound l).run P w₁ = .ok () w' ∧ Guar x.V w₁ w' ((Instr.beginRound l).events P w₁ #[]) ∧ body.wpV L (roundPostV L l K) a ⟨x.V.grow w₁.heap.size w'.heap.size, w'⟩) ⟨tmps, []⟩ x

def UponV {P : Program} (L : Lg P) (evs : Array Event) (V : Rig) (w₁ : World) (K : Value → CW → Prop) : Result Next → Prop
  | .ok (.value y) w' => Guar V w₁ w' evs ∧ K y ⟨V.grow w₁.heap.size w'.heap.size, w'⟩
  | .ok .skip w' => Guar V w₁ w' evs ∧ K undef ⟨V.grow w₁.heap.size w'.heap.size, w'⟩
  | .ok (.enter f args) w' => w' = w₁ ∧ evs = #[] ∧ CallsV L f args ⟨V, w₁⟩ K
  | .ok (.round l _ tmps assign body) w' => w' = w₁ ∧ Guar V w₁ w₁ evs ∧ RoundV L l tmps assign body ⟨V, w₁⟩ K
  | _ => False
def OpV {P : Program} (L : Lg P) (o : Oper) (ρ : Operand → Value) (x : CW) (K : Value → CW → Prop) : Prop :=
  ∀ w₁, Rely x.V x.w w₁ → UponV L ((execOp ρ o).events P w₁ #[]) x.V w₁ K ((execOp ρ o).run P w₁)

section
variable {P : Program} {L : Lg P} {Q Q' : Exit → Act → CW → Prop} {a : Act} {x : CW}
theorem wpV_mono {c : Code} (h : c.wpV L Q a x) (hq : ∀ e a x, Q e a x → Q' e a x) : c.wpV L Q' a x := fun b k cs hb hf hc => h b k cs hb hf fun e a' x' q => hc e a' x' (hq e a' x' q)
theorem outV_mono {fn : Func} {Post Post' : Value → CW → Prop} (hp : ∀ v x, Post v x → Post' v x) {a : Act} {x : CW} (q : outV (P := P) fn Post a x) : outV (P := P) fn Post' a x := ⟨q.1, fun w₁ r => let ⟨v, k1, k2, k3⟩ := q.2 w₁ r; ⟨v, k1, k2, hp _ _ k3⟩⟩
theorem bodyPostV_mono {fn : Func} {Post Post' : Value → CW → Prop} (hp : ∀ v x, Post v x → Post' v x) {e : Exit} {a : Act} {x : CW} (q : bodyPostV L fn Post e a x) : bodyPostV L fn Post' e a x := by
  have h : ∀ {a x}, outV (P := P) fn Post a x ∨ takeV (P := P) fn Post a x → outV (P := P) fn Post' a x ∨ takeV (P := P) fn Post' a x := fun h => h.imp (outV_mono hp) fun ⟨D, h1, h2, h3, h4⟩ => ⟨D, h1, h2, h3, fun w₁ r => ⟨(h4 w₁ r).1, outV_mono hp (h4 w₁ r).2⟩⟩
  cases e with
  | normal => exact h q
  | ret => exact h q
  | _ => exact q
theorem CallsV.mono {f : FuncId} {args : Array Value} {Post Post' : Value → CW → Prop} (h : CallsV L f args x Post) (hp : ∀ v x, Post v x → Post' v x) : CallsV L f args x Post' := by
  obtain ⟨fn, c, h1, h2, h3⟩ := h
  exact ⟨fn, c, h1, h2, wpV_mono h3 fun e a' x' q => bodyPostV_mono hp q⟩
theorem RoundV.mono {l : Nat} {tmps : Array Value} {assign body : Code} {K K' : Value → CW → Prop} (h : RoundV L l tmps assign body x K) (hk : ∀ v x, K v x → K' v x) : RoundV L l tmps assign body x K' :=
  ⟨h.1, h.2.1, wpV_mono h.2.2 fun e a x ⟨he, h2⟩ => ⟨he, fun w₁ r => let ⟨w', k1, k2, k3⟩ := h2 w₁ r; ⟨w', k1, k2, wpV_mono k3 fun e a x q => by
    cases e with
    | normal => exact fun w₁ r => let ⟨v, w', k1, k2, k3⟩ := q w₁ r; ⟨v, w', k1, k2, hk _ _ k3⟩
    | ret => exact fun w₁ r => let ⟨v, w', k1, k2, k3⟩ := q w₁ r; ⟨v, w', k1, k2, hk _ _ k3⟩
    | _ => exact q⟩⟩⟩
theorem UponV.mono {evs : Array Event} {V : Rig} {w₁ : World} {K K' : Value → CW → Prop} (h : ∀ y x, K y x → K' y x) : ∀ {r : Result Next}, UponV L evs V w₁ K r → UponV L evs V w₁ K' r
  | .ok (.value _) _, hr => ⟨hr.1, h _ _ hr.2⟩
  | .ok .skip _, hr => ⟨hr.1, h _ _ hr.2⟩
  | .ok (.enter _ _) _, hr => ⟨hr.1, hr.2.1, hr.2.2.mono h⟩
  | .ok (.round _ _ _ _ _) _, hr => ⟨hr.1, hr.2.1, hr.2.2.mono h⟩
theorem OpV.mono {o : Oper} {ρ : Operand → Value} {K K' : Value → CW → Prop} (h : OpV L o ρ x K) (hk : ∀ y x, K y x → K' y x) : OpV L o ρ x K' := fun w₁ r => (h w₁ r).mono hk
theorem OpV.rely {o : Oper} {ρ : Operand → Value} {K : Value → CW → Prop} {w₁ : World} (h : OpV L o ρ x K) (r : Rely x.V x.w w₁) : OpV L o ρ ⟨x.V, w₁⟩ K := fun w₂ r₂ => h w₂ (r.trans r₂)

theorem wpV_skip (h : Q .normal a x) : Code.skip.wpV L Q a x := fun _ _ _ _ _ hc => L.silent rfl (fun _ => sq_skip) (hc _ _ _ h)
theorem wpV_label {l : Nat} (h : Q .normal a x) : (Code.label l).wpV L Q a x := fun _ _ _ _ _ hc => L.silent rfl (fun _ => sq_label) (hc _ _ _ h)
theorem wpV_ret (h : Q .ret a x) : Code.ret.wpV L Q a x := fun _ _ _ _ _ hc => hc _ _ _ h _
theorem wpV_exit {id : Nat} (h : Q (.exit id) a x) : (Code.exit id).wpV L Q a x := fun _ _ _ _ _ hc => by
  obtain ⟨k', hk', hg⟩ := hc _ _ _ h
  exact L.silent rfl (fun _ => sq_exit hk') hg
theorem wpV_seq {c d : Code} (h : c.wpV L (thenX (fun a' x' => d.wpV L Q a' x') Q) a x) : (Code.seq c d).wpV L Q a x := by
  intro b k cs hb hf hc
  have hf1 : b.roundOf = none ∨ flatC c = true := hf.imp id fun h => by simp only [flatC, Bool.and_eq_true] at h; exact h.1
  have hf2 : b.roundOf = none ∨ flatC d = true := hf.imp id fun h => by simp only [flatC, Bool.and_eq_true] at h; exact h.2
  refine L.silent rfl (fun _ => sq_seq) (h b (.code d :: k) cs hb hf1 fun e a' x' q => ?_)
  cases e with
  | normal => exact q b k cs hb hf2 hc
  | exit id => exact (hc _ _ _ q).push rfl (by simp)
  | ret => exact (hc _ _ _ q).push (i := .code d) rfl (by simp)
  | goto l => exact hc _ _ _ q
  | panic ch => exact hc _ _ _ q
  | outgrown => exact hc _ _ _ q
theorem wpV_cond {c : Operand} {y z : Code} {t : Bool} (hc : a.eval c = .bool t) (h : (if t then y else z).wpV L Q a x) : (Code.cond c y z).wpV L Q a x :=
  fun b k cs hb hf hq => L.silent rfl (fun _ => sq_cond hc) (h b k cs hb (hf.imp id fun h => by simp only [flatC, Bool.and_eq_true] at h; split <;> simp [h.1, h.2]) hq)
theorem wpV_cond_split {c : Operand} {y z : Code} {t : Bool} (hc : a.eval c = .bool t) (ht : t = true → y.wpV L Q a x) (hf : t = false → z.wpV L Q a x) : (Code.cond c y z).wpV L Q a x := by
  refine wpV_cond hc ?_
  cases t
  · exact hf rfl
  · exact ht rfl
theorem wpV_block {id : Nat} {c : Code} (h : c.wpV L (inBlkX id Q) a x) : (Code.block id c).wpV L Q a x := by
  intro b k cs hb hf hc
  refine L.silent rfl (fun _ => sq_block) (h b (.inBlock id :: k) cs hb hf fun e a' x' q => ?_)
  cases e with
  | normal => exact L.silent rfl (fun _ => sq_inBlock) (hc _ _ _ q)
  | exit id' =>
    by_cases hid : id' = id
    · simp only [inBlkX, hid, if_true] at q
      exact ⟨k, by simp [exitTo, hid], hc _ _ _ q⟩
    · simp only [inBlkX, hid, if_false] at q
      obtain ⟨k', hk', hg⟩ := hc _ _ _ q
      have : (id == id') = false := by simp; exact fun h => hid h.symm
      exact ⟨k', by simp [exitTo, this, hk'], hg⟩
  | ret => exact fun todo => hc _ _ _ q todo
  | goto l => exact hc _ _ _ q
  | panic ch => exact hc _ _ _ q
  | outgrown => exact hc _ _ _ q
def roundX (I : Nat → Act → CW → Prop) (n : Nat) (Q : Exit → Act → CW → Prop) : Exit → Act → CW → Prop
  | .normal, a, x => ∃ n', n' < n ∧ I n' a x
  | e, a, x => Q e a x
theorem wpV_loop {c : Code} (I : Nat → Act → CW → Prop) (round : ∀ n a x, I n a x → c.wpV L (roundX I n Q) a x) {n : Nat} (h0 : I n a x) : (Code.loop c).wpV L Q a x := by
  intro b k cs hb hf hc
  have key : ∀ n a x, I n a x → L.ok x.V (G (b.atR a (.code c :: .inLoop c :: k)) cs) x.w := by
    intro n
    induction n using Nat.strongRecOn with
    | _ n ih =>
      intro a x hI
      refine round n a x hI b (.inLoop c :: k) cs hb hf fun e a' x' q => ?_
      cases e with
      | normal =>
        obtain ⟨n', hlt, hI'⟩ := q
        exact L.silent rfl (fun _ => sq_inLoop) (ih n' hlt a' x' hI')
      | exit id => exact (hc _ _ _ q).push rfl (by simp)
      | ret => exact (hc _ _ _ q).push (i := .inLoop c) rfl (by simp)
      | goto l => exact hc _ _ _ q
      | panic ch => exact hc _ _ _ q
      | outgrown => exact hc _ _ _ q
  exact L.silent rfl (fun _ => sq_loop) (key n a x h0)
theorem OpsV.rely {ops : Array Oper} {todo : List Nat} {w₁ : World} (h : OpsV L ops todo Q a x) (r : Rely x.V x.w w₁) : OpsV L ops todo Q a ⟨x.V, w₁⟩ := fun b k cs hb hc => L.rely (h b k cs hb hc) r
theorem opsV_nil {ops : Array Oper} (h : Q .normal a x) : OpsV L ops [] Q a x := fun _ _ _ _ hc => L.silent rfl (fun _ => sq_region_end) (hc _ _ _ h)
theorem wpV_region {id : Nat} {ops : Array Oper} (h : OpsV L ops (List.range ops.size) Q a x) : (Code.region id ops false).wpV L Q a x := fun b k cs hb _ hc => L.silent rfl (fun _ => sq_region) (h b k cs hb hc)
theorem opsV_unwanted {ops : Array Oper} {i : Nat} {rest : List Nat} {o : Oper} (ho : ops[i]? = some o) (hw : Region.wanted o (yielded ops a.tmps) = false) (h : OpsV L ops rest Q (a.put o.dst undef) x) : OpsV L ops (i :: rest) Q a x :=
  fun b k cs hb hc => L.silent rfl (fun _ => sq_unwanted ho hw) (h b k cs hb hc)
theorem stepG_leaveE {main : Bool} {b : Frame} {a : Act} {fn : Func} {todo : List Item} {c : Frame} {cs : List Frame} {v : Value} {w : World} (hn : b.kind = .normal) (hd : a.defers = []) (hf : P.funcs[b.fn]? = some fn)
    (hr : (results fn a.tmps).run P w = .ok v w) : stepG P main (G { b.atR a todo with mode := .returning } (c :: cs)) w = .go (G (c.finish v) cs) w (seen P b.fn ((results fn a.tmps).events P w #[])) := by
  simp [G, stepG, unwind, doReturn, Frame.atR, hn, hd, hf, hr, GStep.after]
theorem Lg.leave {b c : Frame} {fn : Func} {todo : List Item} {cs : List Frame} {K : Value → CW → Prop} (hn : b.kind = .normal) (hf : P.funcs[b.fn]? = some fn) (h : outV (P := P) fn K a x)
    (hk : ∀ v x', K v x' → L.ok x'.V (G (c.finish v) cs) x'.w) : L.ok x.V (G { b.atR a todo with mode := .returning } (c :: cs)) x.w := by
  refine L.step rfl fun w₁ r => ?_
  obtain ⟨v, h1, h2, h3⟩ := h.2 w₁ r
  exact ⟨_, w₁, _, stepG_leaveE hn h.1 hf h1, Guar.seen P _ (Guar.of rfl rfl rfl (Nat.le_refl _) (fun _ _ _ => rfl) h2), by rw [Rig.grow_self]; exact hk v ⟨x.V, w₁⟩ h3⟩
theorem ev_take {w : World} {D : Nat} (h : w.heap[D]? = some (.deferred (some []))) : (Instr.takeDeferred D).events P w #[] = #[⟨.obj D, false, false⟩, ⟨.obj D, true, false⟩] := by
  simp [Instr.takeDeferred, getObj, setObj, Sem.events, bind, Sem.bind, Sem.runT, h, Obj.isChan, -Sem.runT_eq]; rfl
theorem ev_yield {w : World} {l : Nat} {r : Loop} {args : Array Value} (h : w.heap[l]? = some (.loop r)) : (Instr.yield l args).events P w #[] = #[⟨.obj l, false, false⟩] := by
  simp only [Instr.yield, Instr.getLoop, getObj, Sem.events, bind, Sem.bind, Sem.runT, h, Obj.isChan]
  show (Sem.runT P (if args.size ≠ r.params.size then _ else _) w _).snd = _
  split <;> rfl
theorem ev_begin {w : World} {l : Nat} {r : Loop} (h : w.heap[l]? = some (.loop r)) (hr : r.state = .ready) : (Instr.beginRound l).events P w #[] = #[⟨.obj l, false, false⟩, ⟨.obj l, true, false⟩] := by
  simp only [Instr.beginRound, Instr.getLoop, getObj, setObj, Sem.events, bind, Sem.bind, Sem.runT, h, Obj.isChan]
  change (Sem.runT P (Sem.setObj l _ _) w _).snd = _
  simp only [Sem.runT, h, hr, Obj.isChan]
  rfl
theorem ev_endRound {w : World} {l : Nat} {r : Loop} (jump : Option Code) (h : w.heap[l]? = some (.loop r)) : (Instr.endRound l jump).events P w #[] = #[⟨.obj l, false, false⟩, ⟨.obj l, true, false⟩] := by
  simp only [Instr.endRound, Instr.getLoop, getObj, setObj, Sem.events, bind, Sem.bind, Sem.runT, h, Obj.isChan]
  change (Sem.runT P (Sem.setObj l _ _) w _).snd = _
  simp only [Sem.runT, h, Obj.isChan]
  rfl
theorem ev_endLoop {w : World} {l : Nat} {r : Loop} (h : w.heap[l]? = some (.loop r)) (hb : r.state ≠ .busy) : (Instr.endLoop l).events P w #[] = #[⟨.obj l, false, false⟩, ⟨.obj l, true, false⟩] := by
  simp only [Instr.endLoop, Instr.getLoop, getObj, setObj, Sem.events, bind, Sem.bind, Sem.runT, h, Obj.isChan]
  have hb' : (r.state == .busy) = false := by cases hs : r.state <;> first | rfl | exact absurd hs hb
  change (Sem.runT P (if (r.state == .busy) = true then _ else _) w _).snd = _
  simp only [hb', Bool.false_eq_true, if_false]
  change (Sem.runT P (Sem.setObj l _ _) w _).snd = _
  simp only [Sem.runT, h, Obj.isChan]
  rfl
theorem guar_obj {V : Rig} {w : World} {D : Nat} {o : Obj} {es : Array Event} (ha : V.ext = .alone) (hm : V.mine D) (he : ∀ e ∈ es, e = ⟨.obj D, false, false⟩ ∨ e = ⟨.obj D, true, false⟩) : Guar V w (w.putObj D o) es := by
  refine Guar.of rfl rfl rfl (by simp) (fun b _ hn => World.putObj_heap_other fun e => hn (e ▸ hm)) fun e h => ?_
  rcases he e h with rfl | rfl
  · exact .inr (.inr ⟨ha, D, false, rfl, .inl hm⟩)
  · exact .inr (.inr ⟨ha, D, true, rfl, .inl hm⟩)
theorem Lg.take {b : Frame} {fn : Func} {todo : List Item} {cs : List Frame} {K : Value → CW → Prop} (h : takeV (P := P) fn K a x)
    (hk : ∀ (a' : Act) (x' : CW), outV (P := P) fn K a' x' → L.ok x'.V (G { b.atR a' todo with mode := .returning } cs) x'.w) : L.ok x.V (G { b.atR a todo with mode := .returning } cs) x.w := by
  obtain ⟨D, h1, h2, h3, h4⟩ := h
  refine L.step rfl fun w₁ r => ?_
  obtain ⟨k1, k2⟩ := h4 w₁ r
  refine ⟨G { b.atR { a with defers := [] } todo with mode := .returning } cs, w₁.putObj D (.deferred none), seen P b.fn #[⟨.obj D, false, false⟩, ⟨.obj D, true, false⟩], ?_, Guar.seen P _ (guar_obj h2 h3 (by simp)), ?_⟩
  · simp [G, stepG, unwind, Frame.atR, h1, run_takeDeferred k1, ev_take k1, GStep.after]
  · have : x.V.grow w₁.heap.size (w₁.putObj D (.deferred none)).heap.size = x.V := by simp [Rig.grow_self]
    rw [this]
    exact hk _ ⟨x.V, _⟩ k2
theorem Lg.calls {f : FuncId} {args : Array Value} {c : Frame} {cs : List Frame} {K : Value → CW → Prop} (h : CallsV L f args x K) (hk : ∀ v x', K v x' → L.ok x'.V (G (c.finish v) cs) x'.w) : L.ok x.V (G (Frame.enter P f args .normal) (c :: cs)) x.w := by
  obtain ⟨fn, co, hf, hbody, hwp⟩ := h
  rw [enter_at _ hf hbody]
  refine hwp (base f) [] _ (by simp [base]) (.inl rfl) fun e a' x' q => ?_
  have fin : ∀ todo, outV (P := P) fn K a' x' ∨ takeV (P := P) fn K a' x' → L.ok x'.V (G { (base f).atR a' todo with mode := .returning } (c :: cs)) x'.w := fun todo q => by
    rcases q with q | q
    · exact L.leave (b := base f) (K := K) rfl hf q hk
    · exact L.take (b := base f) q fun a'' x'' q' => L.leave (b := base f) (K := K) rfl hf q' hk
  cases e with
  | normal => exact L.silent rfl (fun _ => sq_end rfl) (fin [] q)
  | ret => exact fun todo => L.silent rfl (fun _ => sq_ret rfl) (fin _ q)
  | exit id => exact q.elim
  | goto l => exact q.elim
  | panic ch => exact q.elim
  | outgrown => exact q.elim
theorem Lg.round {l : Nat} {f : FuncId} {tmps : Array Value} {assign body : Code} {c : Frame} {cs : List Frame} {K : Value → CW → Prop} (h : RoundV L l tmps assign body x K) (hk : ∀ v x', K v x' → L.ok x'.V (G (c.finish v) cs) x'.w) :
    L.ok x.V (G ((rbase f l).atR ⟨tmps, []⟩ [.code assign, .beginRound, .code body]) (c :: cs)) x.w := by
  obtain ⟨h1, h2, h3⟩ := h
  refine h3 (rbase f l) [.beginRound, .code body] (c :: cs) (by simp [rbase, base]) (.inr h1) fun e a' x' ⟨he, hq⟩ => ?_
  subst he
  show L.ok x'.V (G ((rbase f l).atR a' [.beginRound, .code body]) (c :: cs)) x'.w
  refine L.step rfl fun w₁ r => ?_
  obtain ⟨w', k1, k2, k3⟩ := hq w₁ r
  refine ⟨_, w', _, sq_begin k1, k2.seen P _, ?_⟩
  refine k3 (rbase f l) [] (c :: cs) (by simp [rbase, base]) (.inr h2) fun e a2 x2 q => ?_
  cases e with
  | normal =>
    show L.ok x2.V (G ((rbase f l).atR a2 []) (c :: cs)) x2.w
    refine L.step rfl fun w₁ r => ?_
    obtain ⟨v, w', k1, k2, k3⟩ := q w₁ r
    exact ⟨_, w', _, sq_endRound k1, k2.seen P _, hk v ⟨_, w'⟩ k3⟩
  | ret =>
    intro todo
    refine L.step rfl fun w₁ r => ?_
    obtain ⟨v, w', k1, k2, k3⟩ := q w₁ r
    exact ⟨_, w', _, sq_endRoundRet k1, k2.seen P _, hk v ⟨_, w'⟩ k3⟩
  | exit id => exact q.elim
  | goto l => exact q.elim
  | panic ch => exact q.elim
  | outgrown => exact q.elim
theorem opsV_cons {ops : Array Oper} {i : Nat} {rest : List Nat} {o : Oper} (ho : ops[i]? = some o) (hw : Region.wanted o (yielded ops a.tmps) = true) (h : OpV L o a.eval x fun y x' => OpsV L ops rest Q (a.put o.dst y) x') : OpsV L ops (i :: rest) Q a x := by
  intro b k cs hb hc
  have hfin : ∀ v, (b.atR a (.inRegion ops (i :: rest) :: k)).finish v = b.atR (a.put o.dst v) (.inRegion ops rest :: k) := fun v => by rw [Frame.finish_atR, ho]; rfl
  refine L.step rfl fun w₁ r => ?_
  have hu := h w₁ r
  generalize hr : (execOp a.eval o).run P w₁ = res at hu
  match res, hu with
  | .ok (.value y) w', hu => exact ⟨_, w', _, sq_value ho hw hb hr, hu.1.seen P b.fn, hu.2 b k cs hb hc⟩
  | .ok .skip w', hu => exact ⟨_, w', _, sq_none ho hw hb hr, hu.1.seen P b.fn, hu.2 b k cs hb hc⟩
  | .ok (.enter f args) w', ⟨e1, e2, hcall⟩ =>
    subst e1
    refine ⟨_, w', _, sq_enter ho hw hb hr, Guar.seen P b.fn (by rw [e2]; exact Guar.idle _ _), ?_⟩
    rw [Rig.grow_self]
    exact L.calls (x := ⟨x.V, w'⟩) hcall fun v x' hk => by rw [hfin]; exact hk b k cs hb hc
  | .ok (.round l f tmps assign body) w', ⟨e1, e2, hround⟩ =>
    subst e1
    refine ⟨_, w', _, sq_round ho hw hb hr, e2.seen P b.fn, ?_⟩
    rw [Rig.grow_self]
    exact L.round (x := ⟨x.V, w'⟩) hround fun v x' hk => by rw [hfin]; exact hk b k cs hb hc
theorem wpV_rangeFunc {f : Operand} {ps : Array Tmp} {assign body : Code} {gf : Nat} {lb : Array Value} (hf : a.eval f = .func (.func gf) #[] lb) (hcall : ∀ args w, (callFunc gf args).run P w = .ok (.enter gf args) w) (hev : ∀ args w, (callFunc gf args).events P w #[] = #[])
    (h : ∀ (fn : FuncId) (w₁ : World), Rely x.V x.w w₁ → CallsV L gf (#[.func (.yield (w₁.heap.size + 1)) #[] #[]] ++ lb) ⟨x.V.grow w₁.heap.size (w₁.heap.size + 2), (w₁.alloc (.deferred (some []))).alloc (loopR fn a.tmps ps assign body w₁.heap.size .ready none)⟩ fun _ x' =>
      ∀ w₂, Rely x'.V x'.w w₂ → ∃ jump w', (Instr.endLoop (w₁.heap.size + 1)).run P w₂ = .ok jump w' ∧ Guar x'.V w₂ w' ((Instr.endLoop (w₁.heap.size + 1)).events P w₂ #[]) ∧
        match jump with
        | none => Q .normal { a with defers := markD w₁.heap.size ++ a.defers } ⟨x'.V.grow w₂.heap.size w'.heap.size, w'⟩
        | some .ret => Q .ret { a with defers := markD w₁.heap.size ++ a.defers } ⟨x'.V.grow w₂.heap.size w'.heap.size, w'⟩
        | _ => False) : (Code.rangeFunc f ps assign body).wpV L Q a x := by
  intro b k cs hb hf0 hc
  have hb0 : b.roundOf = none := hf0.resolve_right (by simp [flatC])
  refine L.step rfl fun w₁ r => ?_
  refine ⟨_, _, #[], sq_rangeFunc hb0 hb hf hcall hev, Guar.of rfl rfl rfl (by simp; omega) (fun j hj _ => ?_) (fun e he => by simp at he), ?_⟩
  · rw [RowKit.Below.heap_alloc _ _ _ (by simp; omega), RowKit.Below.heap_alloc _ _ _ hj]
  · have hsz : ((w₁.alloc (.deferred (some []))).alloc (loopR b.fn a.tmps ps assign body w₁.heap.size .ready none)).heap.size = w₁.heap.size + 2 := by simp
    rw [hsz]
    refine L.calls (x := ⟨x.V.grow w₁.heap.size (w₁.heap.size + 2), _⟩) (h b.fn w₁ r) fun v x' hq => ?_
    have hfin : (b.atR { a with defers := markD w₁.heap.size ++ a.defers } (.inRangeFunc (w₁.heap.size + 1) :: k)).finish v = b.atR { a with defers := markD w₁.heap.size ++ a.defers } (.endRangeFunc (w₁.heap.size + 1) :: k) := rfl
    rw [hfin]
    refine L.step rfl fun w₂ r₂ => ?_
    obtain ⟨jump, w', k1, k2, k3⟩ := hq w₂ r₂
    refine ⟨_, w', _, sq_endLoop k1, k2.seen P _, ?_⟩
    cases jump with
    | none => exact hc _ _ _ k3
    | some c =>
      cases c with
      | ret => exact hc _ _ _ k3 k
      | _ => exact k3.elim

def wpListV (L : Lg P) (ops : Array Oper) (Q : Exit → Act → CW → Prop) : List Oper → Act → CW → Prop
  | [], a, x => Q .normal a x
  | o :: rest, a, x => if Region.wanted o (yielded ops a.tmps) then OpV L o a.eval x (fun y x' => wpListV L ops Q rest (a.put o.dst y) x') else wpListV L ops Q rest (a.put o.dst undef) x
theorem opsV_of_list {ops : Array Oper} (l : List Oper) : ∀ (k : Nat) (a : Act) (x : CW), (∀ j, l[j]? = ops[k + j]?) → wpListV L ops Q l a x → OpsV L ops (List.range' k l.length) Q a x := by
  induction l with
  | nil => intro k a x _ h; exact opsV_nil h
  | cons o l ih =>
    intro k a x h hl
    have h0 : ops[k]? = some o := by simpa using (h 0).symm
    have ih' := fun a x => ih (k + 1) a x (fun j => by have := h (j + 1); simpa [Nat.add_assoc, Nat.add_comm 1 j] using this)
    simp only [List.length_cons, List.range'_succ]
    unfold wpListV at hl
    by_cases hw : Region.wanted o (yielded ops a.tmps) = true
    · rw [if_pos hw] at hl
      exact opsV_cons h0 hw (hl.mono fun y x' h' => ih' _ _ h')
    · rw [if_neg hw] at hl
      exact opsV_unwanted h0 (by simpa using hw) (ih' _ _ hl)
theorem wpV_region_list {id : Nat} {ops : Array Oper} (h : wpListV L ops Q ops.toList a x) : (Code.region id ops false).wpV L Q a x :=
  wpV_region (by rw [List.range_eq_range', ← Array.length_toList]; exact opsV_of_list ops.toList 0 a x (by simp) h)

def wpOpV (L : Lg P) (ops : Array Oper) (i : Nat) (K : Act → CW → Prop) (a : Act) (x : CW) : Prop :=
  match ops[i]? with
  | none => False
  | some o => if Region.wanted o (yielded ops a.tmps) then OpV L o a.eval x (fun y x' => K (a.put o.dst y) x') else K (a.put o.dst undef) x
theorem wpOpV_mono {ops : Array Oper} {i : Nat} {K K' : Act → CW → Prop} (h : ∀ a x, K a x → K' a x) (hh : wpOpV L ops i K a x) : wpOpV L ops i K' a x := by
  unfold wpOpV at *
  split
  · simp_all
  · rename_i o ho
    simp only [ho] at hh
    split
    · rename_i hw; simp only [hw, if_true] at hh; exact hh.mono fun y x' => h _ _
    · rename_i hw; simp only [hw] at hh; exact h _ _ hh
def wpAnyV (L : Lg P) (md : Region.Mode) (ops : Array Oper) (Q : Exit → Act → CW → Prop) : Nat → Array Bool → Act → CW → Prop
  | 0, listed, a, x => Region.ready md ops listed = [] ∧ Q .normal a x
  | fuel + 1, listed, a, x => (Region.ready md ops listed = [] → Q .normal a x) ∧ ∀ i ∈ Region.ready md ops listed, wpOpV L ops i (wpAnyV L md ops Q fuel (listed.setIfInBounds i true)) a x
theorem opsV_of_op {ops : Array Oper} {i : Nat} {rest : List Nat} (h : wpOpV L ops i (fun a' x' => OpsV L ops rest Q a' x') a x) : OpsV L ops (i :: rest) Q a x := by
  unfold wpOpV at h
  split at h
  · exact h.elim
  · rename_i o ho
    split at h
    · rename_i hw; exact opsV_cons ho hw h
    · rename_i hw; exact opsV_unwanted ho (by simpa using hw) h
theorem wpAnyV_sound {md : Region.Mode} {ops : Array Oper} : ∀ (fuel t : Nat) (listed : Array Bool) (a : Act) (x : CW), wpAnyV L md ops Q fuel listed a x → OpsV L ops (Region.linearise.go md ops fuel t listed []) Q a x := by
  intro fuel
  induction fuel with
  | zero => intro t listed a x h; simpa [Region.linearise.go] using opsV_nil h.2
  | succ fuel ih =>
    intro t listed a x h
    obtain ⟨h₀, h₁⟩ := h
    simp only [Region.linearise.go]
    change OpsV L ops (match (Region.ready md ops listed)[t % (Region.ready md ops listed).length]? with
      | some i => Region.linearise.go md ops fuel (t / (Region.ready md ops listed).length) (listed.setIfInBounds i true) [i]
      | none => [].reverse) Q a x
    cases hi : (Region.ready md ops listed)[t % (Region.ready md ops listed).length]? with
    | none =>
      have hnil : Region.ready md ops listed = [] := by
        cases hr : Region.ready md ops listed with
        | nil => rfl
        | cons y ys =>
          rw [hr] at hi
          have hlt : t % (y :: ys).length < (y :: ys).length := Nat.mod_lt _ (by simp)
          simp at hi
          simp at hlt
          omega
      simpa using opsV_nil (h₀ hnil)
    | some i =>
      simp only []
      rw [linearise_go_acc, List.reverse_singleton, List.singleton_append]
      exact opsV_of_op (wpOpV_mono (fun a' x' h' => ih _ _ a' x' h') (h₁ i (List.mem_of_getElem? hi)))
theorem wpV_region_any {id : Nat} {ops : Array Oper} (hm : P.follows .mixedOrders = true) (h : ∀ w₁, Rely x.V x.w w₁ → wpAnyV L .any ops Q ops.size (Array.replicate ops.size false) a ⟨x.V, { w₁ with drawn := w₁.drawn + 1 }⟩) : (Code.region id ops true).wpV L Q a x := by
  intro b k cs hb _ hc
  refine L.step rfl fun w₁ r => ⟨_, _, #[], sq_region_draw, Guar.drew _ _, ?_⟩
  have h1 := wpAnyV_sound ops.size (w₁.tape w₁.drawn (.order b.fn id)) _ a _ (h w₁ r)
  have e : (x.V.grow w₁.heap.size ({ w₁ with drawn := w₁.drawn + 1 } : World).heap.size) = x.V := Rig.grow_self _ _
  rw [e]
  simp only [Region.schedule, hm, Bool.true_or, if_true]
  exact h1 b k cs hb hc
end
end Go.Eng

namespace Go.Eng
open Go Go.Conc

def look : List (Nat × AV) → Nat → AV
  | [], _ => .top
  | (k, v) :: r, t => bif Nat.beq k t then v else look r t
def cst : Value → AV
  | .agg a => .agg (a.toList.map AV.v)
  | x => .v x
def ev (tm : List (Nat × AV)) : Operand → AV
  | .tmp t => look tm t
  | .const x => cst x
  | .global _ => .top
  | .func f => .v (.func (.func f) #[] #[])

structure BelowM (B : Nat) (M : Nat → Prop) (w w' : World) : Prop where
  os : w'.os = w.os
  tape : w'.tape = w.tape
  output : w'.output = w.output
  size : w.heap.size ≤ w'.heap.size
  block : ∀ k, k < B → ¬ M k → w'.heap[k]? = w.heap[k]?

theorem BelowM.refl (B : Nat) (M : Nat → Prop) (w : World) : BelowM B M w w := ⟨rfl, rfl, rfl, Nat.le_refl _, fun _ _ _ => rfl⟩

structure En where
  P : Program
  B : Nat
  w0 : World
  nt : Nat
  M : Nat → Prop
  ron : List Nat
  I0 : Nat → Nat → Prop
  /-- names that stand for a known block all the way -/
  pin : Nat → Nat → Nat → Prop
  /-- what the goroutine saw when the call began; the deferred calls -/
  V0 : Rig
  df : List Deferred

structure Mem (E : En) (g : Gh) (bl : List (Nat × List AV)) (ow : List Nat) (w : World) : Prop where
  below : BelowM E.B E.M E.w0 w
  base : E.B ≤ w.heap.size
  cell : ∀ b o, g.I b o → (w.cell? ⟨b, o, none⟩).isSome = true
  mfr : ∀ n b, g.m n = some b → (n ∈ E.ron ∨ E.B ≤ b ∨ E.M b) ∧ b < w.heap.size
  ofr : ∀ n b, g.ow n → g.om n = some b → (E.B ≤ b ∨ E.M b) ∧ b < w.heap.size
  minj : ∀ n n' b, g.m n = some b → g.m n' = some b → n = n'
  oinj : ∀ n n' b, g.ow n → g.ow n' → g.om n = some b → g.om n' = some b → n = n'
  disj : ∀ n n' b, g.m n = some b → g.ow n' → g.om n' = some b → False
  blk : ∀ n cs, (n, cs) ∈ bl → ∃ b arr, g.m n = some b ∧ w.heap[b]? = some (.cells arr (g.mt n) (0, 0)) ∧ reps g w cs arr.toList ∧ ∀ o, ¬ g.I b o
  key : ∀ n b, g.m n = some b → ∃ cs, (n, cs) ∈ bl
  own : ∀ n, g.ow n → n ∈ ow
  inew : ∀ b o, g.I b o → E.I0 b o ∨ E.B ≤ b ∨ E.M b
  iold : ∀ b o, E.I0 b o → g.I b o
  pin : ∀ n b T, E.pin n b T → g.m n = some b ∧ g.mt n = T

theorem cell_lt {w : World} {b o : Nat} (h : (w.cell? ⟨b, o, none⟩).isSome = true) : b < w.heap.size := by
  unfold World.cell? at h
  simp only at h
  split at h
  · rename_i hb
    exact (Array.getElem?_eq_some_iff.1 hb).1
  · simp at h

theorem cell_of_heap {w : World} {b : Nat} {arr : Array Value} {T : TypeId} {fr : Nat × Nat} (h : w.heap[b]? = some (.cells arr T fr)) (o : Nat) : w.cell? ⟨b, o, none⟩ = arr[o]? := by
  simp [World.cell?, h]

theorem alloc_heap (w : World) (o : Obj) (k : Nat) (h : k < w.heap.size) : (w.alloc o).heap[k]? = w.heap[k]? := by
  show (w.heap.push o)[k]? = _
  rw [Array.getElem?_push, if_neg (by omega)]
theorem alloc_new (w : World) (o : Obj) : (w.alloc o).heap[w.heap.size]? = some o := by
  show (w.heap.push o)[w.heap.size]? = _
  simp
theorem alloc_size (w : World) (o : Obj) : (w.alloc o).heap.size = w.heap.size + 1 := by
  show (w.heap.push o).size = _
  simp

theorem ownsRow_of_heap {w w' : World} {base T e : Nat} {v : Value} {n : Nat} {xs : List Value} (h : w.ownsRow base T e v n xs) (hh : ∀ b, v.ownBlock = some b → w'.heap[b]? = w.heap[b]?) : w'.ownsRow base T e v n xs := by
  refine ⟨h.1, ?_⟩
  rcases h.2 with h2 | ⟨b, cap, cur, rfl, h3, h4, h5⟩
  · exact .inl h2
  · exact .inr ⟨b, cap, cur, rfl, h3, (hh b rfl).trans h4, h5⟩

theorem ownsRow_lt {w : World} {base T e : Nat} {v : Value} {n : Nat} {xs : List Value} (h : w.ownsRow base T e v n xs) {b : Nat} (hb : v.ownBlock = some b) : b < w.heap.size := by
  rcases h.2 with ⟨rfl, _⟩ | ⟨b', cap, cur, rfl, h3, h4, h5⟩
  · simp [Value.ownBlock] at hb
  · simp only [Value.ownBlock, Option.some.injEq] at hb
    subst hb
    exact (Array.getElem?_eq_some_iff.1 h4).1

theorem ownRep_goes {g g' : Gh} {w w' : World} (hI : ∀ b o, g.I b o → g'.I b o) (hk : Keeps g.I w w') (how : ∀ n, g.ow n → g'.ow n ∧ g'.om n = g.om n)
    (hh : ∀ n b, g.ow n → g.om n = some b → w'.heap[b]? = w.heap[b]?) (hI' : ∀ n b o, g.ow n → g.om n = some b → g'.I b o → g.I b o)
    {n T e : Nat} {rows : List (List AV)} {y : Value} (h : ownRep g w n T e rows y) : ownRep g' w' n T e rows y := by
  obtain ⟨h1, h2, xs, h3, h4, h5, h6⟩ := h
  refine ⟨(how n h1).1, h2.trans (how n h1).2.symm, xs, ownsRow_of_heap h3 (fun b hb => hh n b h1 (h2 ▸ hb)), dreps_mono hI hk h4, h5, fun b hb => ?_⟩
  rw [(how n h1).2] at hb
  exact ⟨fun o ho => hI _ _ ((h6 b hb).1 o ho), fun o ho hI2 => (h6 b hb).2 o ho (hI' n b o h1 hb hI2)⟩

theorem Mem.newBlock {E : En} {g : Gh} {bl : List (Nat × List AV)} {ow : List Nat} {w : World} (h : Mem E g bl ow w) (n : Nat) (hn : ∀ q ∈ bl, n ≠ q.1) (cs : List AV) (arr : Array Value) (T : TypeId) (hr : reps g w cs arr.toList) :
    ∃ g', Goes g w g' (w.alloc (.cells arr T)) ∧ Mem E g' ((n, cs) :: bl) ow (w.alloc (.cells arr T)) ∧ g'.m n = some w.heap.size ∧ g'.mt n = T := by
  have hnone : g.m n = none := by
    cases hm : g.m n with
    | none => rfl
    | some b => obtain ⟨cs', hc⟩ := h.key n b hm; exact absurd rfl (hn _ hc)
  let g' : Gh := { g with m := fun k => if k = n then some w.heap.size else g.m k, mt := fun k => if k = n then T else g.mt k }
  have hm : ∀ k b, g'.m k = some b → (k = n ∧ b = w.heap.size) ∨ (k ≠ n ∧ g.m k = some b) := by
    intro k b hk
    by_cases e : k = n
    · simp only [g', e, if_true, Option.some.injEq] at hk; exact .inl ⟨e, hk.symm⟩
    · simp only [g', e, if_false] at hk; exact .inr ⟨e, hk⟩
  have hIlt : ∀ b o, g.I b o → b < w.heap.size := fun b o hb => cell_lt (h.cell b o hb)
  have keeps : Keeps g.I w (w.alloc (.cells arr T)) := fun b o hb => World.cell?_of_block (a := ⟨b, o, none⟩) (alloc_heap w _ b (hIlt b o hb))
  have goes : Goes g w g' (w.alloc (.cells arr T)) := by
    refine ⟨fun _ _ h => h, keeps, fun k b hk => ?_, fun k b hk => ?_, fun k T' e rows y hy => ?_, fun _ b _ _ _ hc => hc.same (alloc_heap w _ b hc.lt)⟩
    · have : k ≠ n := fun e => by rw [e, hnone] at hk; cases hk
      simp [g', this, hk]
    · have : k ≠ n := fun e => by rw [e, hnone] at hk; cases hk
      simp [g', this]
    · exact ownRep_goes (g := g) (g' := g') (fun _ _ h => h) keeps (fun k hk => ⟨hk, rfl⟩) (fun k b h1 h2 => alloc_heap w _ b (h.ofr k b h1 h2).2) (fun _ _ _ _ _ h => h) hy
  refine ⟨g', goes, ?_, by simp [g'], by simp [g']⟩
  refine { below := ⟨h.below.os, h.below.tape, h.below.output, Nat.le_trans h.below.size (by rw [alloc_size]; omega), fun k hk hM => (alloc_heap w _ k (Nat.lt_of_lt_of_le hk h.base)).trans (h.below.block k hk hM)⟩,
           base := by rw [alloc_size]; have := h.base; omega, cell := fun b o hb => by rw [keeps b o hb]; exact h.cell b o hb, mfr := ?_, ofr := ?_, minj := ?_, oinj := h.oinj, disj := ?_, blk := ?_, key := ?_, own := h.own, inew := h.inew, iold := h.iold, pin := fun n b T hp => ⟨goes.m n b (h.pin n b T hp).1, (goes.mt n b (h.pin n b T hp).1).trans (h.pin n b T hp).2⟩ }
  · intro k b hk
    rw [alloc_size]
    rcases hm k b hk with ⟨rfl, rfl⟩ | ⟨_, h2⟩
    · exact ⟨.inr (.inl h.base), by omega⟩
    · have := h.mfr k b h2; exact ⟨this.1, by omega⟩
  · intro k b h1 h2
    have := h.ofr k b h1 h2
    rw [alloc_size]; exact ⟨this.1, by omega⟩
  · intro k k' b h1 h2
    rcases hm k b h1 with ⟨rfl, rfl⟩ | ⟨_, h1'⟩ <;> rcases hm k' _ h2 with ⟨h3, h4⟩ | ⟨_, h2'⟩
    · exact h3.symm
    · have := (h.mfr k' _ h2').2; omega
    · subst h4; have := (h.mfr k _ h1').2; omega
    · exact h.minj k k' b h1' h2'
  · intro k k' b h1 h2 h3
    rcases hm k b h1 with ⟨rfl, rfl⟩ | ⟨_, h1'⟩
    · have := (h.ofr k' _ h2 h3).2; omega
    · exact h.disj k k' b h1' h2 h3
  · intro k cs' hk
    rcases List.mem_cons.1 hk with hk | hk
    · cases hk
      exact ⟨w.heap.size, arr, by simp [g'], by simp only [g', if_true]; exact alloc_new w _, reps_goes goes hr, fun o ho => by have := hIlt _ o ho; omega⟩
    · obtain ⟨b, arr', h1, h2, h3, h4⟩ := h.blk k cs' hk
      exact ⟨b, arr', goes.m k b h1, by rw [goes.mt k b h1]; exact (alloc_heap w _ b (h.mfr k b h1).2).trans h2, reps_goes goes h3, h4⟩
  · intro k b hk
    rcases hm k b hk with ⟨rfl, rfl⟩ | ⟨_, h2⟩
    · exact ⟨cs, by simp⟩
    · obtain ⟨cs', hc⟩ := h.key k b h2; exact ⟨cs', by simp [hc]⟩

theorem Mem.newOwn {E : En} {g : Gh} {bl : List (Nat × List AV)} {ow : List Nat} {w : World} (h : Mem E g bl ow w) (n : Nat) (hn : n ∉ ow) (T e : Nat) (rows : List (List AV)) (hlen : ∀ r ∈ rows, r.length = e) (arr : Array Value)
    (hm : rows.length ≤ maxLen) (hr : dreps g.I w rows.flatten arr.toList) :
    ∃ g', Goes g w g' (w.alloc (.cells arr T)) ∧ Mem E g' bl (n :: ow) (w.alloc (.cells arr T)) ∧ ownRep g' (w.alloc (.cells arr T)) n T e rows (.slice (some ⟨w.heap.size, 0, none⟩) rows.length rows.length) := by
  have hno : ¬ g.ow n := fun hw => hn (h.own n hw)
  have hasz : arr.size = rows.length * e := by
    have := dreps_length hr
    rw [flatten_length hlen] at this
    simpa using this
  let g' : Gh := { g with I := fun b o => g.I b o ∨ (b = w.heap.size ∧ o < rows.length * e), ow := fun k => k = n ∨ g.ow k, om := fun k => if k = n then some w.heap.size else g.om k }
  have hIlt : ∀ b o, g.I b o → b < w.heap.size := fun b o hb => cell_lt (h.cell b o hb)
  have keeps : Keeps g.I w (w.alloc (.cells arr T)) := fun b o hb => World.cell?_of_block (a := ⟨b, o, none⟩) (alloc_heap w _ b (hIlt b o hb))
  have how : ∀ k, g.ow k → g'.ow k ∧ g'.om k = g.om k := fun k hk => ⟨.inr hk, by
    have : k ≠ n := fun e => hno (e ▸ hk)
    simp [g', this]⟩
  have homc : ∀ k b, g'.ow k → g'.om k = some b → (k = n ∧ b = w.heap.size) ∨ (g.ow k ∧ g.om k = some b) := by
    intro k b hk hb
    by_cases e : k = n
    · simp only [g', e, if_true, Option.some.injEq] at hb; exact .inl ⟨e, hb.symm⟩
    · simp only [g', e, if_false, false_or] at hb hk; exact .inr ⟨hk, hb⟩
  have goes : Goes g w g' (w.alloc (.cells arr T)) := by
    refine ⟨fun _ _ h => .inl h, keeps, fun k b hk => hk, fun _ _ _ => rfl, fun k T' e' rows' y hy => ?_, fun _ b _ _ _ hc => hc.same (alloc_heap w _ b hc.lt)⟩
    exact ownRep_goes (g := g) (g' := g') (fun _ _ h => .inl h) keeps how (fun k b h1 h2 => alloc_heap w _ b (h.ofr k b h1 h2).2)
      (fun k b o h1 h2 h3 => h3.resolve_right fun h4 => by have := (h.ofr k b h1 h2).2; omega) hy
  have hnew : ∀ j z, arr.toList[j]? = some z → (w.alloc (.cells arr T)).cell? ⟨w.heap.size, j, none⟩ = some z := fun j z hj => by
    rw [cell_of_heap (alloc_new w _)]; simpa using hj
  refine ⟨g', goes, ?_, .inl rfl, by simp [g', Value.ownBlock], arr.toList, ?_, dreps_mono goes.I keeps hr, hlen, fun b hb => ?_⟩
  · refine { below := ⟨h.below.os, h.below.tape, h.below.output, Nat.le_trans h.below.size (by rw [alloc_size]; omega), fun k hk hM => (alloc_heap w _ k (Nat.lt_of_lt_of_le hk h.base)).trans (h.below.block k hk hM)⟩,
             base := by rw [alloc_size]; have := h.base; omega, cell := ?_, mfr := ?_, ofr := ?_, minj := h.minj, oinj := ?_, disj := ?_, blk := ?_, key := h.key, own := ?_, inew := ?_, iold := fun b o hb => .inl (h.iold b o hb), pin := h.pin }
    · intro b o hb
      rcases hb with hb | ⟨rfl, ho⟩
      · rw [keeps b o hb]; exact h.cell b o hb
      · rw [cell_of_heap (alloc_new w _)]; simp [hasz, ho]
    · intro k b hk
      have := h.mfr k b hk; rw [alloc_size]; exact ⟨this.1, by omega⟩
    · intro k b h1 h2
      rw [alloc_size]
      rcases homc k b h1 h2 with ⟨_, rfl⟩ | ⟨h3, h4⟩
      · exact ⟨.inl h.base, by omega⟩
      · have := h.ofr k b h3 h4; exact ⟨this.1, by omega⟩
    · intro k k' b h1 h1' h2 h2'
      rcases homc k b h1 h2 with ⟨rfl, rfl⟩ | ⟨h3, h4⟩ <;> rcases homc k' _ h1' h2' with ⟨h5, h6⟩ | ⟨h5, h6⟩
      · exact h5.symm
      · have := (h.ofr k' _ h5 h6).2; omega
      · subst h6; have := (h.ofr k _ h3 h4).2; omega
      · exact h.oinj k k' b h3 h5 h4 h6
    · intro k k' b h1 h2 h3
      rcases homc k' b h2 h3 with ⟨_, rfl⟩ | ⟨h4, h5⟩
      · have := (h.mfr k _ h1).2; omega
      · exact h.disj k k' b h1 h4 h5
    · intro k cs' hk
      obtain ⟨b, arr', h1, h2, h3, h4⟩ := h.blk k cs' hk
      have hb := (h.mfr k b h1).2
      exact ⟨b, arr', h1, (alloc_heap w _ b hb).trans h2, reps_goes goes h3, fun o ho => by
        rcases ho with ho | ⟨rfl, _⟩
        · exact h4 o ho
        · omega⟩
    · intro k hk
      rcases hk with rfl | hk
      · simp
      · simp [h.own k hk]
    · intro b o hb
      rcases hb with hb | ⟨rfl, _⟩
      · exact h.inew b o hb
      · exact .inr (.inl h.base)
  · exact World.ownsRow_lit w arr rows.length (Nat.zero_le _) hm hasz
  · have : b = w.heap.size := by simpa [g'] using hb.symm
    subst this
    exact ⟨fun o ho => .inr ⟨rfl, ho⟩, fun o ho hI => by
      rcases hI with hI | ⟨_, hI⟩
      · have := hIlt _ o hI; omega
      · omega⟩

structure Vis (E : En) (V : Rig) (g : Gh) (w : World) : Prop where
  I : ∀ b o, g.I b o → V.vis b
  m : ∀ n b, g.m n = some b → V.vis b ∧ (n ∉ E.ron → V.mine b)
  o : ∀ n b, g.ow n → g.om n = some b → V.mine b
  sub : ∀ b, V.mine b → V.vis b
  lt : ∀ b, V.vis b → b < w.heap.size
  up : ∀ b, E.V0.vis b → V.vis b
  upm : ∀ b, E.V0.mine b → V.mine b
  dn : ∀ b, V.vis b → E.V0.vis b ∨ E.B ≤ b
  dnm : ∀ b, V.mine b → E.V0.mine b ∨ E.B ≤ b
  nM : ∀ b, ¬ E.M b → E.V0.vis b
  ext : V.ext = E.V0.ext
structure MemV (E : En) (g : Gh) (bl : List (Nat × List AV)) (ow : List Nat) (x : CW) : Prop where
  mem : Mem E g bl ow x.w
  vis : Vis E x.V g x.w

section
variable {E : En} {g : Gh} {bl : List (Nat × List AV)} {ow : List Nat} {x : CW} {w₁ : World}
theorem MemV.goes (h : MemV E g bl ow x) (r : Rely x.V x.w w₁) : Goes g x.w g w₁ := by
  have keeps : Keeps g.I x.w w₁ := fun b o hb => World.cell?_of_block (a := ⟨b, o, none⟩) (r.block b (h.vis.I b o hb))
  exact ⟨fun _ _ h => h, keeps, fun _ _ h => h, fun _ _ _ => rfl, fun n T e rows y hy => ownRep_goes (g := g) (g' := g) (fun _ _ h => h) keeps (fun _ h => ⟨h, rfl⟩) (fun n b h1 h2 => r.block b (h.vis.sub b (h.vis.o n b h1 h2))) (fun _ _ _ _ _ h => h) hy, fun n b _ _ hn hc => hc.same (r.block b (h.vis.m n b hn).1)⟩
theorem MemV.rely (h : MemV E g bl ow x) (r : Rely x.V x.w w₁) : MemV E g bl ow ⟨x.V, w₁⟩ := by
  have hg := h.goes r
  have hm := h.mem
  refine ⟨{ below := ⟨r.os.trans hm.below.os, r.tape.trans hm.below.tape, r.output.trans hm.below.output, Nat.le_trans hm.below.size r.size, fun k hk hM => (r.block k (h.vis.up k (h.vis.nM k hM))).trans (hm.below.block k hk hM)⟩,
            base := Nat.le_trans hm.base r.size, cell := fun b o hb => by rw [hg.keeps b o hb]; exact hm.cell b o hb, mfr := fun n b hn => ⟨(hm.mfr n b hn).1, Nat.lt_of_lt_of_le (hm.mfr n b hn).2 r.size⟩,
            ofr := fun n b h1 h2 => ⟨(hm.ofr n b h1 h2).1, Nat.lt_of_lt_of_le (hm.ofr n b h1 h2).2 r.size⟩, minj := hm.minj, oinj := hm.oinj, disj := hm.disj, blk := fun n cs hn => ?_, key := hm.key, own := hm.own, inew := hm.inew, iold := hm.iold, pin := hm.pin },
          ⟨h.vis.I, h.vis.m, h.vis.o, h.vis.sub, fun b hb => Nat.lt_of_lt_of_le (h.vis.lt b hb) r.size, h.vis.up, h.vis.upm, h.vis.dn, h.vis.dnm, h.vis.nM, h.vis.ext⟩⟩
  obtain ⟨b, arr, h1, h2, h3, h4⟩ := hm.blk n cs hn
  exact ⟨b, arr, h1, (r.block b (h.vis.m n b h1).1).trans h2, reps_goes hg h3, h4⟩
end

def En.at (E : En) (B : Nat) (w0 : World) (M : Nat → Prop) (ron : List Nat) (I0 : Nat → Nat → Prop) : En := { E with B := B, w0 := w0, M := M, ron := ron, I0 := I0 }
def OwnB (g : Gh) (b : Nat) : Prop := ∃ n, g.ow n ∧ g.om n = some b
section
variable {E : En} {g g' : Gh} {bl bl' : List (Nat × List AV)} {ow ow' : List Nat} {V : Rig} {w w' : World} {M : Nat → Prop}
theorem Mem.root (h : Mem E g bl ow w) (hM : ∀ b, OwnB g b → M b) : Mem (E.at w.heap.size w M (bl.map (·.1)) g.I) g bl ow w :=
  { below := BelowM.refl _ _ _, base := Nat.le_refl _, cell := h.cell, mfr := fun n b hn => let ⟨_, hc⟩ := h.key n b hn; ⟨.inl (List.mem_map.2 ⟨_, hc, rfl⟩), (h.mfr n b hn).2⟩, ofr := fun n b h1 h2 => ⟨.inr (hM b ⟨n, h1, h2⟩), (h.ofr n b h1 h2).2⟩,
    minj := h.minj, oinj := h.oinj, disj := h.disj, blk := h.blk, key := h.key, own := h.own, inew := fun _ _ h => .inl h, iold := fun _ _ h => h, pin := h.pin }
theorem MemV.unroot (h : MemV E g bl ow ⟨V, w⟩) (hM : ∀ b, M b → V.mine b ∧ (E.B ≤ b ∨ E.M b)) (hk : Mem (E.at w.heap.size w M (bl.map (·.1)) g.I) g' bl' ow' w') (hg : Goes g w g' w') : MemV E g' bl' ow' ⟨V.grow w.heap.size w'.heap.size, w'⟩ := by
  have hm := h.mem
  have hv := h.vis
  have hB : E.B ≤ w.heap.size := hm.base
  have cm : ∀ n b, g'.m n = some b → (g.m n = some b) ∨ w.heap.size ≤ b ∨ M b := fun n b hn => by
    rcases (hk.mfr n b hn).1 with h1 | h1 | h1
    · obtain ⟨p, hp, rfl⟩ := List.mem_map.1 h1
      obtain ⟨b0, _, h2, _⟩ := hm.blk p.1 p.2 hp
      have := hg.m _ _ h2
      rw [hn] at this
      cases this
      exact .inl h2
    · exact .inr (.inl h1)
    · exact .inr (.inr h1)
  have hsz : w.heap.size ≤ w'.heap.size := hk.base
  have M1 : ∀ b, M b → E.B ≤ b ∨ E.M b := fun b hb => (hM b hb).2
  refine ⟨{ below := ⟨hk.below.os.trans hm.below.os, hk.below.tape.trans hm.below.tape, hk.below.output.trans hm.below.output, Nat.le_trans hm.below.size hsz, fun k hkB hkM => (hk.below.block k (Nat.lt_of_lt_of_le hkB hB) (fun hMk => (M1 k hMk).elim (fun h => absurd hkB (Nat.not_lt.2 h)) hkM)).trans (hm.below.block k hkB hkM)⟩,
            base := Nat.le_trans hB hsz, cell := hk.cell, mfr := fun n b hn => ⟨?_, (hk.mfr n b hn).2⟩, ofr := fun n b h1 h2 => ⟨?_, (hk.ofr n b h1 h2).2⟩, minj := hk.minj, oinj := hk.oinj, disj := hk.disj, blk := hk.blk, key := hk.key, own := hk.own,
            inew := fun b o hb => ?_, iold := fun b o hb => hg.I b o (hm.iold b o hb), pin := hk.pin },
          { I := fun b o hb => ?_, m := fun n b hn => ?_, o := fun n b h1 h2 => ?_, sub := fun b hb => hb.imp (hv.sub b) id, lt := fun b hb => hb.elim (fun h => Nat.lt_of_lt_of_le (hv.lt b h) hsz) (·.2), up := fun b hb => .inl (hv.up b hb), upm := fun b hb => .inl (hv.upm b hb),
            dn := fun b hb => hb.elim (hv.dn b) (fun h => .inr (Nat.le_trans hB h.1)), dnm := fun b hb => hb.elim (hv.dnm b) (fun h => .inr (Nat.le_trans hB h.1)), nM := hv.nM, ext := hv.ext }⟩
  · rcases cm n b hn with h1 | h1 | h1
    · exact (hm.mfr n b h1).1
    · exact .inr (.inl (Nat.le_trans hB h1))
    · exact .inr (M1 b h1)
  · rcases (hk.ofr n b h1 h2).1 with h3 | h3
    · exact .inl (Nat.le_trans hB h3)
    · exact M1 b h3
  · rcases hk.inew b o hb with h1 | h1 | h1
    · exact hm.inew b o h1
    · exact .inr (.inl (Nat.le_trans hB h1))
    · exact .inr (M1 b h1)
  · rcases hk.inew b o hb with h1 | h1 | h1
    · exact .inl (hv.I b o h1)
    · exact .inr ⟨h1, cell_lt (hk.cell b o hb)⟩
    · exact .inl (hv.sub b (hM b h1).1)
  · rcases cm n b hn with h1 | h1 | h1
    · exact ⟨.inl (hv.m n b h1).1, fun hr => .inl ((hv.m n b h1).2 hr)⟩
    · exact ⟨.inr ⟨h1, (hk.mfr n b hn).2⟩, fun _ => .inr ⟨h1, (hk.mfr n b hn).2⟩⟩
    · exact ⟨.inl (hv.sub b (hM b h1).1), fun _ => .inl (hM b h1).1⟩
  · rcases (hk.ofr n b h1 h2).1 with h3 | h3
    · exact .inr ⟨h3, (hk.ofr n b h1 h2).2⟩
    · exact .inl (hM b h3).1
end

def UponQ (K : Value → World → Prop) : Result Next → Prop
  | .ok (.value y) w' => K y w'
  | .ok .skip w' => K undef w'
  | _ => False
def Seen (g : Gh) (b : Nat) : Prop := (∃ n, g.m n = some b) ∨ ∃ o, g.I b o
def EvR (g : Gh) (es : Array Event) : Prop := ∀ e ∈ es, (∃ a : Addr, e = ⟨.cell a, false, false⟩ ∧ Seen g a.block) ∨ ∃ k, e = ⟨.mark k, false, true⟩ ∧ Neutral k
theorem evR_nil (g : Gh) : EvR g #[] := fun e he => by simp at he

def QVo (E : En) (bl : List (Nat × List AV)) (tm : List (Nat × AV)) (o : Oper) (v : AV) (nb : List (Nat × List AV)) (no : List Nat) : Prop :=
  ∀ (B : Nat) (w0 : World) (M : Nat → Prop) (ron : List Nat) (I0 : Nat → Nat → Prop) (g : Gh) (w : World) (ρ : Operand → Value) (bl' : List (Nat × List AV)) (ow' : List Nat), Mem (E.at B w0 M ron I0) g bl' ow' w → (∀ p ∈ bl, p ∈ bl') → (∀ p ∈ nb, ∀ q ∈ bl', p.1 ≠ q.1) → (∀ n ∈ no, n ∉ ow') →
    (∀ x ∈ o.op.operands, rep g w (ev tm x) (ρ x)) →
    UponQ (fun y w' => ∃ g', Goes g w g' w' ∧ Mem (E.at B w0 M ron I0) g' (nb ++ bl') (no ++ ow') w' ∧ rep g' w' v y) ((execOp ρ o).run E.P w) ∧ EvR g ((execOp ρ o).events E.P w #[])
def QV (E : En) (bl : List (Nat × List AV)) (tm : List (Nat × AV)) (o : Oper) (v : AV) (nb : List (Nat × List AV)) (no : List Nat) : Prop :=
  ∀ (L : Lg E.P) (g : Gh) (ρ : Operand → Value) (bl' : List (Nat × List AV)) (ow' : List Nat) (x : CW), MemV E g bl' ow' x → (∀ p ∈ bl, p ∈ bl') → (∀ p ∈ nb, ∀ q ∈ bl', p.1 ≠ q.1) → (∀ n ∈ no, n ∉ ow') →
    (∀ y ∈ o.op.operands, rep g x.w (ev tm y) (ρ y)) →
    OpV L o ρ x fun y x' => ∃ g', Goes g x.w g' x'.w ∧ MemV E g' (nb ++ bl') (no ++ ow') x' ∧ rep g' x'.w v y

theorem ownB_mine {E : En} {g : Gh} {bl : List (Nat × List AV)} {ow : List Nat} {x : CW} (h : MemV E g bl ow x) (b : Nat) (hb : OwnB g b) : x.V.mine b ∧ (E.B ≤ b ∨ E.M b) := by
  obtain ⟨n, h1, h2⟩ := hb
  exact ⟨h.vis.o n b h1 h2, (h.mem.ofr n b h1 h2).1⟩
theorem seen_vis {E : En} {V : Rig} {g : Gh} {w : World} (h : Vis E V g w) {b : Nat} (hb : Seen g b) : V.vis b := hb.elim (fun ⟨n, hn⟩ => (h.m n b hn).1) (fun ⟨o, ho⟩ => h.I b o ho)
theorem QV_of_o {E : En} {bl : List (Nat × List AV)} {tm : List (Nat × AV)} {o : Oper} {v : AV} {nb : List (Nat × List AV)} {no : List Nat} (h : QVo E bl tm o v nb no) : QV E bl tm o v nb no := by
  intro L g ρ bl' ow' x hm hbl hnb hno hop w₁ r
  have hg := hm.goes r
  have hm1 := hm.rely r
  obtain ⟨h1, h2⟩ := h _ _ _ _ _ g w₁ ρ bl' ow' (hm1.mem.root (M := OwnB g) (fun _ h => h)) hbl hnb hno (fun y hy => rep_goes hg (hop y hy))
  have fin : ∀ y w', (∃ g', Goes g w₁ g' w' ∧ Mem (E.at w₁.heap.size w₁ (OwnB g) (bl'.map (·.1)) g.I) g' (nb ++ bl') (no ++ ow') w' ∧ rep g' w' v y) →
      Guar x.V w₁ w' ((execOp ρ o).events E.P w₁ #[]) ∧ ∃ g', Goes g x.w g' w' ∧ MemV E g' (nb ++ bl') (no ++ ow') ⟨x.V.grow w₁.heap.size w'.heap.size, w'⟩ ∧ rep g' w' v y := by
    rintro y w' ⟨g', k1, k2, k3⟩
    refine ⟨Guar.of k2.below.os k2.below.tape k2.below.output k2.base (fun b hb hn => k2.below.block b hb fun ho => hn (ownB_mine (x := ⟨x.V, w₁⟩) hm1 b ho).1) (fun e he => ?_), g', hg.trans k1, hm1.unroot (ownB_mine (x := ⟨x.V, w₁⟩) hm1) k2 k1, k3⟩
    rcases h2 e he with ⟨a, rfl, ha⟩ | hk
    · exact .inl ⟨a, false, rfl, .inl ⟨seen_vis hm1.vis ha, fun h => by cases h⟩⟩
    · exact .inr (.inl hk)
  generalize (execOp ρ o).run E.P w₁ = res at h1
  match res, h1 with
  | .ok (.value y) w', h1 => exact fin y w' h1
  | .ok .skip w', h1 => exact fin undef w' h1
theorem QV_pure {E : En} {bl : List (Nat × List AV)} {tm : List (Nat × AV)} {o : Oper} {v : AV}
    (h : ∀ (g : Gh) (w : World) (ρ : Operand → Value), (∀ x ∈ o.op.operands, rep g w (ev tm x) (ρ x)) → ∃ y, (execOp ρ o).run E.P w = .ok (.value y) w ∧ EvR g ((execOp ρ o).events E.P w #[]) ∧ rep g w v y) : QV E bl tm o v [] [] := by
  refine QV_of_o ?_
  intro _ _ _ _ _ g w ρ bl' ow' hm _ _ _ hop
  obtain ⟨y, hy, he, hr⟩ := h g w ρ hop
  rw [hy]
  exact ⟨⟨g, Goes.refl g w, hm, hr⟩, he⟩
theorem evR_of {g : Gh} {es : Array Event} (h : es = #[]) : EvR g es := h ▸ evR_nil g

theorem rep_cst {g : Gh} {w : World} (x : Value) : rep g w (cst x) x := by
  cases x <;> simp only [cst, rep]
  case agg a =>
    refine ⟨a, rfl, ?_⟩
    have : ∀ l : List Value, reps g w (l.map AV.v) l := by
      intro l
      induction l with
      | nil => simp [reps]
      | cons x l ih => simp only [List.map_cons, reps]; exact ⟨x, l, rfl, by simp [rep], ih⟩
    exact this _
theorem rep_ev {g : Gh} {w : World} {tm : List (Nat × AV)} {a : Act} (h : ∀ t, rep g w (look tm t) (a.tmps.getD t undef)) (x : Operand) : rep g w (ev tm x) (a.eval x) := by
  cases x with
  | tmp t => exact h t
  | const x => exact rep_cst x
  | global n => simp [ev, rep]
  | func f => simp only [ev, rep, Act.eval]
end Go.Eng

namespace Go.Eng
open Go Go.Conc

class TyOk (P : Program) (t : Nat) (ag : outParam Bool) (sz : outParam Nat) : Prop where
  ag : ∀ w, (isAgg t).run P w = .ok ag w
  sz : ∀ w, (sizeOf t).run P w = .ok sz w
class FldOk (P : Program) (s f : Nat) (off : outParam Nat) (ag : outParam Bool) (sz : outParam Nat) : Prop where
  fld : ∃ fs fd, P.underlying s = some (.struct fs) ∧ fs[f]? = some fd ∧ fd.offset = off ∧ TyOk P fd.type ag sz
  pos : 0 < sz
class ZeroOk (P : Program) (t : Nat) (z : outParam Value) : Prop where
  zero : ∀ w, (zeroValue t).run P w = .ok z w
class SlOk (P : Program) (t : Nat) (T e by_ : outParam Nat) : Prop where
  und : P.underlying t = some (.slice T)
  info : ∃ i z, P.info? T = some i ∧ i.zero = some z ∧ i.size = e ∧ i.bytes = by_ ∧ z.cells.size = e
  pos : 0 < e

section
variable {E : En} {bl : List (Nat × List AV)} {tm : List (Nat × AV)} {d : Option Tmp} {ty : TypeId} {pos : String} {af : Array Edge} {gd : Option (Nat × Bool)}

theorem QV_move {x : Operand} {v : AV} (h : ev tm x = v) : QV E bl tm ⟨d, .move x, ty, pos, af, gd⟩ v [] [] :=
  QV_pure fun g w ρ hop => ⟨ρ x, rfl, evR_of rfl, h ▸ hop x (by simp [Op.operands])⟩
theorem QV_assign {x : Operand} {v : AV} (h : ev tm x = v) : QV E bl tm ⟨d, .assign x, ty, pos, af, gd⟩ v [] [] :=
  QV_pure fun g w ρ hop => ⟨ρ x, rfl, evR_of rfl, h ▸ hop x (by simp [Op.operands])⟩
theorem QV_pick {c x y : Operand} {b : Bool} {v : AV} (hc : ev tm c = .v (.bool b)) (h : (bif b then ev tm x else ev tm y) = v) : QV E bl tm ⟨d, .pick c x y, ty, pos, af, gd⟩ v [] [] :=
  QV_pure fun g w ρ hop => by
    have h1 := hop c (by simp [Op.operands])
    have h2 := hop x (by simp [Op.operands])
    have h3 := hop y (by simp [Op.operands])
    rw [hc] at h1
    simp only [rep] at h1
    cases b
    · exact ⟨ρ y, by simp [execOp, h1, asBool], evR_of (by simp [execOp, h1, asBool]), h ▸ h3⟩
    · exact ⟨ρ x, by simp [execOp, h1, asBool], evR_of (by simp [execOp, h1, asBool]), h ▸ h2⟩

def abin (op : BinOp) (k : IntKind) (a b : Int) : Option Value :=
  match op with
  | .add => some (.int k (k.wrap (a + b)))
  | .sub => some (.int k (k.wrap (a - b)))
  | .mul => some (.int k (k.wrap (a * b)))
  | .eql => some (.bool (a == b))
  | .neq => some (.bool (a != b))
  | .lss => some (.bool (decide (a < b)))
  | .leq => some (.bool (decide (a ≤ b)))
  | .gtr => some (.bool (decide (b < a)))
  | .geq => some (.bool (decide (b ≤ a)))
  | _ => none
theorem run_abin {P : Program} {w : World} {op : BinOp} {k : IntKind} {a b : Int} {r : Value} {xT : TypeId} {x y : Operand} (h : abin op k a b = some r) :
    (do eqGuard op xT x y (.int k a) (.int k b); binOp op xT (.int k a) (.int k b) : Sem Value).run P w = .ok r w := by
  cases op <;> simp only [abin, Option.some.injEq, reduceCtorEq] at h <;> subst h <;>
    simp [eqGuard, binOp, Op.intArith, Op.intCmp]
theorem ev_abin {P : Program} {w : World} {op : BinOp} {k : IntKind} {a b : Int} {r : Value} {xT : TypeId} {x y : Operand} {es : Array Event} (h : abin op k a b = some r) :
    (do eqGuard op xT x y (.int k a) (.int k b); binOp op xT (.int k a) (.int k b) : Sem Value).events P w es = es := by
  cases op <;> simp only [abin, Option.some.injEq, reduceCtorEq] at h <;>
    simp [eqGuard, binOp, Op.intArith, Op.intCmp]
theorem QV_bin {op : BinOp} {xT yT : TypeId} {x y : Operand} {k : IntKind} {a b : Int} {r : Value} (hx : ev tm x = .v (.int k a)) (hy : ev tm y = .v (.int k b)) (h : abin op k a b = some r) :
    QV E bl tm ⟨d, .binOp op xT x y yT, ty, pos, af, gd⟩ (.v r) [] [] :=
  QV_pure fun g w ρ hop => by
    have h1 := hop x (by simp [Op.operands])
    have h2 := hop y (by simp [Op.operands])
    rw [hx] at h1; rw [hy] at h2
    simp only [rep] at h1 h2
    have hr := run_abin (P := E.P) (w := w) (xT := xT) (x := x) (y := y) h
    refine ⟨r, ?_, evR_of ?_, by simp [rep]⟩
    · simp only [execOp, h1, h2]
      rw [Sem.run_bind, hr]
      rfl
    · simp only [execOp, h1, h2]
      rw [Sem.events_bind, hr, ev_abin h]
      rfl
theorem i64w {n : Int} (h : -9223372036854775808 ≤ n ∧ n ≤ 9223372036854775807) : IntKind.i64.wrap n = n := IntWalk.i64_in _ h
def aar (op : BinOp) (a b : Int) : Option Int :=
  match op with
  | .add => some (a + b)
  | .sub => some (a - b)
  | .mul => some (a * b)
  | _ => none
theorem QV_ar {op : BinOp} {xT yT : TypeId} {x y : Operand} {a b r : Int} (hx : ev tm x = .v (.int .i64 a)) (hy : ev tm y = .v (.int .i64 b)) (h : aar op a b = some r)
    (hr : -9223372036854775808 ≤ r ∧ r ≤ 9223372036854775807) : QV E bl tm ⟨d, .binOp op xT x y yT, ty, pos, af, gd⟩ (.v (.int .i64 r)) [] [] := by
  refine QV_bin hx hy ?_
  cases op <;> simp only [aar, Option.some.injEq, reduceCtorEq] at h <;> subst h <;> simp only [abin] <;> rw [i64w hr]
def adv (op : BinOp) (k : IntKind) (a b : Int) : Option Value :=
  match op with
  | .quo => some (.int k (k.wrap (a.tdiv b)))
  | .rem => some (.int k (a.tmod b))
  | _ => none
theorem QV_div {op : BinOp} {xT yT : TypeId} {x y : Operand} {k : IntKind} {a b : Int} {r : Value} (hx : ev tm x = .v (.int k a)) (hy : ev tm y = .v (.int k b)) (h0 : b ≠ 0) (h : adv op k a b = some r) :
    QV E bl tm ⟨d, .binOp op xT x y yT, ty, pos, af, gd⟩ (.v r) [] [] :=
  QV_pure fun g w ρ hop => by
    have h1 := hop x (by simp [Op.operands])
    have h2 := hop y (by simp [Op.operands])
    rw [hx] at h1; rw [hy] at h2
    simp only [rep] at h1 h2
    refine ⟨r, ?_, evR_of ?_, by simp [rep]⟩
    · simp only [execOp, h1, h2]
      cases op <;> simp only [adv, Option.some.injEq, reduceCtorEq] at h <;> subst h <;>
        simp [eqGuard, binOp, Op.intDiv, h0]
    · simp only [execOp, h1, h2]
      cases op <;> simp only [adv, Option.some.injEq, reduceCtorEq] at h <;> subst h <;>
        simp [eqGuard, binOp, Op.intDiv, h0]
theorem run_equal_bool {P : Program} {w : World} {t : TypeId} {a b : Bool} (hu : P.underlying t = some .bool) : (Op.equal t (.bool a) (.bool b)).run P w = .ok (a == b) w := by
  have : ∀ k, (Op.equalIn (k + 1) t (.bool a) (.bool b)).run P w = .ok (a == b) w := fun k => by simp [Op.equalIn, run_underlying hu]
  exact this 9999
theorem ev_equal_bool {P : Program} {w : World} {t : TypeId} {a b : Bool} {es : Array Event} (hu : P.underlying t = some .bool) : (Op.equal t (.bool a) (.bool b)).events P w es = es := by
  have : ∀ k, (Op.equalIn (k + 1) t (.bool a) (.bool b)).events P w es = es := fun k => by simp [Op.equalIn, run_underlying hu]
  exact this 9999
theorem QV_beq {xT yT : TypeId} {x y : Operand} {a b : Bool} (hu : E.P.underlying xT = some .bool) (hx : ev tm x = .v (.bool a)) (hy : ev tm y = .v (.bool b)) :
    QV E bl tm ⟨d, .binOp .eql xT x y yT, ty, pos, af, gd⟩ (.v (.bool (a == b))) [] [] :=
  QV_pure fun g w ρ hop => by
    have h1 := hop x (by simp [Op.operands])
    have h2 := hop y (by simp [Op.operands])
    rw [hx] at h1; rw [hy] at h2
    simp only [rep] at h1 h2
    refine ⟨.bool (a == b), ?_, evR_of ?_, by simp only [rep]⟩ <;> simp [execOp, h1, h2, eqGuard, binOp, run_equal_bool hu, ev_equal_bool hu]
theorem QV_bne {xT yT : TypeId} {x y : Operand} {a b : Bool} (hu : E.P.underlying xT = some .bool) (hx : ev tm x = .v (.bool a)) (hy : ev tm y = .v (.bool b)) :
    QV E bl tm ⟨d, .binOp .neq xT x y yT, ty, pos, af, gd⟩ (.v (.bool (!(a == b)))) [] [] :=
  QV_pure fun g w ρ hop => by
    have h1 := hop x (by simp [Op.operands])
    have h2 := hop y (by simp [Op.operands])
    rw [hx] at h1; rw [hy] at h2
    simp only [rep] at h1 h2
    refine ⟨.bool (!(a == b)), ?_, evR_of ?_, by simp only [rep]⟩ <;> simp [execOp, h1, h2, eqGuard, binOp, run_equal_bool hu, ev_equal_bool hu]
theorem QV_not {t : TypeId} {x : Operand} {a : Bool} (hx : ev tm x = .v (.bool a)) : QV E bl tm ⟨d, .unOp .not t x, ty, pos, af, gd⟩ (.v (.bool (!a))) [] [] :=
  QV_pure fun g w ρ hop => by
    have h1 := hop x (by simp [Op.operands])
    rw [hx] at h1
    simp only [rep] at h1
    exact ⟨_, by simp [execOp, h1, Op.unary]; rfl, evR_of (by simp [execOp, h1, Op.unary]), by simp only [rep]⟩
theorem QV_neg {t : TypeId} {x : Operand} {k : IntKind} {a : Int} (hx : ev tm x = .v (.int k a)) : QV E bl tm ⟨d, .unOp .neg t x, ty, pos, af, gd⟩ (.v (.int k (k.wrap (0 - a)))) [] [] :=
  QV_pure fun g w ρ hop => by
    have h1 := hop x (by simp [Op.operands])
    rw [hx] at h1
    simp only [rep] at h1
    exact ⟨_, by simp only [execOp, h1, Op.unary, Op.intArith]; rfl, evR_of (by simp only [execOp, h1, Op.unary, Op.intArith]; rfl), by simp only [rep]⟩
theorem QV_neg' {t : TypeId} {x : Operand} {a : Int} (hx : ev tm x = .v (.int .i64 a)) (hr : -9223372036854775807 ≤ a ∧ a ≤ 9223372036854775807) : QV E bl tm ⟨d, .unOp .neg t x, ty, pos, af, gd⟩ (.v (.int .i64 (-a))) [] [] := by
  have := QV_neg (E := E) (bl := bl) (d := d) (ty := ty) (pos := pos) (af := af) (gd := gd) (t := t) hx
  rwa [i64w (by omega), show 0 - a = -a by omega] at this
theorem QV_field {s f : Nat} {x : Operand} {cs : List AV} {off sz : Nat} {ag : Bool} {v : AV} [hf : FldOk E.P s f off ag sz] (hx : ev tm x = .agg cs)
    (h : (bif ag then some (.agg ((cs.drop off).take sz)) else cs[off]?) = some v) (hl : off + sz ≤ cs.length) : QV E bl tm ⟨d, .field s x f, ty, pos, af, gd⟩ v [] [] :=
  QV_pure fun g w ρ hop => by
    have h1 := hop x (by simp [Op.operands])
    rw [hx] at h1
    simp only [rep] at h1
    obtain ⟨arr, h1, h2⟩ := h1
    obtain ⟨fs, fd, e1, e2, rfl, e4⟩ := hf.fld
    cases ag
    · simp only [cond_false] at h
      obtain ⟨y, hy, hr⟩ := reps_get h2 h
      have hy' : arr[fd.offset]? = some y := by simpa using hy
      refine ⟨y, ?_, evR_of ?_, hr⟩ <;> simp [execOp, h1, Instr.field, run_underlying e1, e2, part, asAgg, e4.ag, hy']
    · simp only [cond_true, Option.some.injEq] at h
      subst h
      refine ⟨.agg (arr.extract fd.offset (fd.offset + sz)), ?_, evR_of ?_, ?_⟩
      · simp [execOp, h1, Instr.field, run_underlying e1, e2, part, asAgg, e4.ag, e4.sz]
      · simp [execOp, h1, Instr.field, run_underlying e1, e2, part, asAgg, e4.ag]
      · simp only [rep]
        refine ⟨_, rfl, ?_⟩
        have := reps_take (k := sz) (reps_drop (k := fd.offset) h2)
        rw [show (arr.extract fd.offset (fd.offset + sz)).toList = (arr.toList.drop fd.offset).take sz by simp]
        exact this
theorem run_fieldPlace {P : Program} {w : World} {a : Addr} {f : Field} {ag : Bool} {sz : Nat} (h : TyOk P f.type ag sz) (hp : 0 < sz) : (fieldPlace a f).run P w = .ok (a.add f.offset) w := by
  have : sz ≠ 0 := by omega
  simp [fieldPlace, h.sz, this]
theorem ev_fieldPlace {P : Program} {w : World} {a : Addr} {f : Field} {ag : Bool} {sz : Nat} {es : Array Event} (h : TyOk P f.type ag sz) (hp : 0 < sz) : (fieldPlace a f).events P w es = es := by
  have : sz ≠ 0 := by omega
  simp [fieldPlace, h.sz, this]
theorem addr_add (b o k : Nat) : Addr.add ⟨b, o, none⟩ k = ⟨b, o + k, none⟩ := by
  unfold Addr.add
  split
  · subst k; rfl
  · rfl
theorem QV_fieldAddr {s f : Nat} {x : Operand} {n o off sz : Nat} {ag : Bool} [hf : FldOk E.P s f off ag sz] (hx : ev tm x = .ptr n o) : QV E bl tm ⟨d, .fieldAddr s x f, ty, pos, af, gd⟩ (.ptr n (o + off)) [] [] :=
  QV_pure fun g w ρ hop => by
    have h1 := hop x (by simp [Op.operands])
    rw [hx] at h1
    simp only [rep] at h1
    obtain ⟨b, h1, h2⟩ := h1
    obtain ⟨fs, fd, e1, e2, rfl, e4⟩ := hf.fld
    refine ⟨.pointer (some ⟨b, o + fd.offset, none⟩), ?_, evR_of ?_, ?_⟩
    · simp [execOp, h2, Instr.fieldAt, run_underlying e1, e2, Instr.sureAddr, run_fieldPlace e4 hf.pos, addr_add]
    · simp [execOp, h2, Instr.fieldAt, run_underlying e1, e2, Instr.sureAddr, ev_fieldPlace e4 hf.pos]
    · simp only [rep]; exact ⟨b, h1, rfl⟩
theorem QV_fieldAddrE {s f : Nat} {x : Operand} {cs : List AV} {off sz : Nat} {ag : Bool} [hf : FldOk E.P s f off ag sz] (hx : ev tm x = .eptr cs) : QV E bl tm ⟨d, .fieldAddr s x f, ty, pos, af, gd⟩ (.eptr (cs.drop off)) [] [] :=
  QV_pure fun g w ρ hop => by
    have h1 := hop x (by simp [Op.operands])
    rw [hx] at h1
    simp only [rep] at h1
    obtain ⟨b, o, h1, h2⟩ := h1
    obtain ⟨fs, fd, e1, e2, rfl, e4⟩ := hf.fld
    refine ⟨.pointer (some ⟨b, o + fd.offset, none⟩), ?_, evR_of ?_, ?_⟩
    · simp [execOp, h1, Instr.fieldAt, run_underlying e1, e2, Instr.sureAddr, run_fieldPlace e4 hf.pos, addr_add]
    · simp [execOp, h1, Instr.fieldAt, run_underlying e1, e2, Instr.sureAddr, ev_fieldPlace e4 hf.pos]
    · simp only [rep]; exact ⟨b, _, rfl, dcells_drop h2⟩
theorem QV_extract {x : Operand} {xs : List AV} {i : Nat} {v : AV} (hx : ev tm x = .tup xs) (h : xs[i]? = some v) : QV E bl tm ⟨d, .extract x i, ty, pos, af, gd⟩ v [] [] :=
  QV_pure fun g w ρ hop => by
    have h1 := hop x (by simp [Op.operands])
    rw [hx] at h1
    simp only [rep] at h1
    obtain ⟨arr, h1, h2⟩ := h1
    obtain ⟨y, hy, hr⟩ := reps_get h2 h
    have hy' : arr[i]? = some y := by simpa using hy
    exact ⟨y, by simp [execOp, h1, Instr.extract, hy'], evR_of (by simp [execOp, h1, Instr.extract, hy']), hr⟩

def lookB : List (Nat × List AV) → Nat → Option (List AV)
  | [], _ => none
  | (k, cs) :: r, n => bif Nat.beq k n then some cs else lookB r n
theorem lookB_mem : ∀ {bl : List (Nat × List AV)} {n : Nat} {cs : List AV}, lookB bl n = some cs → (n, cs) ∈ bl
  | [], n, cs, h => by simp [lookB] at h
  | (k, c) :: r, n, cs, h => by
    unfold lookB at h
    cases hk : Nat.beq k n
    · rw [hk] at h; simp [lookB_mem h]
    · rw [hk] at h
      have : k = n := Nat.eq_of_beq_eq_true hk
      simp only [cond_true, Option.some.injEq] at h
      subst h; subst this; simp

def aload (ag : Bool) (sz : Nat) (cs : List AV) : Option AV := bif ag then (bif Nat.ble sz cs.length then some (.agg (cs.take sz)) else none) else cs.head?

theorem run_loadVar {P : Program} {w : World} {t : Nat} {ag : Bool} {sz : Nat} (ht : TyOk P t ag sz) {b o : Nat} {ys : List Value} (hy : ∀ j z, ys[j]? = some z → w.cell? ⟨b, o + j, none⟩ = some z) (hl : sz ≤ ys.length) (h1 : ag = false → ∃ y, ys[0]? = some y) :
    (loadVar t ⟨b, o, none⟩).run P w = .ok (bif ag then .agg (ys.take sz).toArray else ys.getD 0 undef) w := by
  cases ag
  · obtain ⟨y, h0⟩ := h1 rfl
    have := hy 0 y h0
    rw [Nat.add_zero] at this
    simp [loadVar, ht.ag, run_load, this, List.getD, h0]
  · have hlen : (ys.take sz).length = sz := by simp; omega
    have := run_loadCells_list (P := P) w ⟨b, o, none⟩ (ys.take sz) (fun j v hj => by
      rw [addr_add]
      exact hy j v (by rw [List.getElem?_take] at hj; split at hj <;> first | exact hj | cases hj))
    rw [hlen] at this
    simp [loadVar, ht.ag, ht.sz, this]
theorem evThen_id {α : Type} {x : Result α} {es : Array Event} : (x.evThen es fun _ _ es' => es') = es := by cases x <;> rfl
theorem ev_loadCells {P : Program} {w : World} {b o : Nat} : ∀ (n i : Nat) (acc : Array Value) (es : Array Event), (∀ j, j < n → ∃ z, w.cell? ⟨b, o + (i + j), none⟩ = some z) → ∀ e ∈ (loadCellsFrom ⟨b, o, none⟩ i n acc).events P w es, e ∈ es ∨ ∃ a : Addr, e = ⟨.cell a, false, false⟩ ∧ a.block = b
  | 0, _, _, _, _, e, he => .inl (by simpa [loadCellsFrom] using he)
  | n + 1, i, acc, es, h, e, he => by
    obtain ⟨z, hz⟩ := h 0 (by omega)
    rw [Nat.add_zero] at hz
    simp only [loadCellsFrom, addr_add, Sem.events_bind, run_load, hz, events_load, Result.evThen_ok] at he
    rcases ev_loadCells n (i + 1) _ _ (fun j hj => by have := h (j + 1) (by omega); rwa [show i + (j + 1) = i + 1 + j by omega] at this) e he with h1 | h1
    · rcases Array.mem_push.1 h1 with h2 | h2
      · exact .inl h2
      · exact .inr ⟨_, h2, rfl⟩
    · exact .inr h1
theorem ev_loadVar {P : Program} {w : World} {t : Nat} {ag : Bool} {sz : Nat} (ht : TyOk P t ag sz) {b o : Nat} {ys : List Value} (hy : ∀ j z, ys[j]? = some z → w.cell? ⟨b, o + j, none⟩ = some z) (hl : ag = true → sz ≤ ys.length) (h1 : ag = false → ∃ y, ys[0]? = some y) (es : Array Event) :
    ∀ e ∈ (loadVar t ⟨b, o, none⟩).events P w es, e ∈ es ∨ ∃ a : Addr, e = ⟨.cell a, false, false⟩ ∧ a.block = b ∧ ∃ z, ys[0]? = some z := by
  intro e he
  cases ag
  · obtain ⟨y, h0⟩ := h1 rfl
    have := hy 0 y h0
    rw [Nat.add_zero] at this
    simp [loadVar, ht.ag, this] at he
    exact he.imp id fun he => ⟨_, he, rfl, y, h0⟩
  · have h2 := ev_loadCells (P := P) (w := w) (b := b) (o := o) sz 0 #[] es (fun j hj => ⟨_, by rw [Nat.zero_add]; exact hy j _ (List.getElem?_eq_getElem (by have := hl rfl; omega))⟩) e
    simp [loadVar, ht.ag, ht.sz, loadCells] at he
    rcases h2 he with h3 | ⟨a, h3, h4⟩
    · exact .inl h3
    · cases sz with
      | zero => exact .inl (by simpa [loadCellsFrom] using he)
      | succ n => exact .inr ⟨a, h3, h4, _, List.getElem?_eq_getElem (by have := hl rfl; omega)⟩

theorem QV_load {t : Nat} {x : Operand} {n o sz : Nat} {ag : Bool} {cs : List AV} {v : AV} [ht : TyOk E.P t ag sz] (hx : ev tm x = .ptr n o) (hb : lookB bl n = some cs) (h : aload ag sz (cs.drop o) = some v) : QV E bl tm ⟨d, .load t x, ty, pos, af, gd⟩ v [] [] := by
  refine QV_of_o ?_
  intro _ _ _ _ _ g w ρ bl' ow' hm hbl _ _ hop
  have h1 := hop x (by simp [Op.operands])
  rw [hx] at h1
  simp only [rep] at h1
  obtain ⟨b, h1, h2⟩ := h1
  obtain ⟨b', arr, e1, e2, e3, e4⟩ := hm.blk n cs (hbl _ (lookB_mem hb))
  have evs : ∀ {sz' : Nat} {ys : List Value}, TyOk E.P t ag sz' → (∀ j z, ys[j]? = some z → w.cell? ⟨b', o + j, none⟩ = some z) → (ag = true → sz' ≤ ys.length) → (ag = false → ∃ y, ys[0]? = some y) → EvR g ((execOp ρ ⟨d, .load t x, ty, pos, af, gd⟩).events E.P w #[]) := fun ht hy hl h0 e he => by
    have hb' : b' = b := by rw [h1] at e1; exact (Option.some.inj e1).symm
    subst hb'
    simp only [execOp, h2, Instr.loadAt, Instr.sureAddr] at he
    simp only [Sem.events_bind, Sem.events_pure, Sem.run_pure, Result.evThen_ok, evThen_id] at he
    obtain ⟨a, ha, hab, _⟩ := (ev_loadVar ht hy hl h0 _ e he).resolve_left (by simp)
    exact .inl ⟨a, ha, .inl ⟨n, by rw [hab]; exact e1⟩⟩
  have : b' = b := by rw [h1] at e1; exact (Option.some.inj e1).symm
  subst this
  have hd := reps_drop (k := o) e3
  have hc : ∀ j z, (arr.toList.drop o)[j]? = some z → w.cell? ⟨b', o + j, none⟩ = some z := fun j z hj => by
    rw [cell_of_heap e2]; simpa [List.getElem?_drop] using hj
  have hlen := reps_length hd
  cases ag
  · simp only [aload, cond_false, List.head?_eq_getElem?] at h
    obtain ⟨y, hy, hr⟩ := reps_get hd h
    have hc0 := hc 0 y hy
    rw [Nat.add_zero] at hc0
    have hrun : (execOp ρ ⟨d, .load t x, ty, pos, af, gd⟩).run E.P w = .ok (.value y) w := by
      simp [execOp, h2, Instr.loadAt, Instr.sureAddr, loadVar, ht.ag, run_load, hc0]
    rw [hrun]
    exact ⟨⟨g, Goes.refl g w, hm, hr⟩, evs (sz' := sz) ht hc (fun h => by cases h) (fun _ => ⟨y, hy⟩)⟩
  · simp only [aload, cond_true] at h
    cases hle : Nat.ble sz (cs.drop o).length
    · rw [hle] at h; cases h
    · rw [hle] at h
      simp only [cond_true, Option.some.injEq] at h
      subst h
      have hle' : sz ≤ (arr.toList.drop o).length := by rw [hlen]; exact Nat.le_of_ble_eq_true hle
      have hrun : (execOp ρ ⟨d, .load t x, ty, pos, af, gd⟩).run E.P w = .ok (.value (.agg ((arr.toList.drop o).take sz).toArray)) w := by
        have := run_loadVar (P := E.P) (w := w) ht hc hle' (fun h => by cases h)
        simp only [execOp, h2, Instr.loadAt, Instr.sureAddr]
        simp [this]
      rw [hrun]
      refine ⟨⟨g, Goes.refl g w, hm, ?_⟩, evs ht hc (fun _ => hle') (fun h => by cases h)⟩
      simp only [rep]
      exact ⟨_, rfl, reps_take hd⟩
theorem QV_loadE {t : Nat} {x : Operand} {sz : Nat} {ag : Bool} {cs : List AV} {v : AV} [ht : TyOk E.P t ag sz] (hx : ev tm x = .eptr cs) (h : aload ag sz cs = some v) : QV E bl tm ⟨d, .load t x, ty, pos, af, gd⟩ v [] [] :=
  QV_pure fun g w ρ hop => by
    have h1 := hop x (by simp [Op.operands])
    rw [hx] at h1
    simp only [rep] at h1
    obtain ⟨b, o, h1, h2⟩ := h1
    obtain ⟨zs, g1, g2, g3⟩ := dcells_list h2
    have hr := reps_of_dreps (g := g) g1
    have evs : (ag = true → sz ≤ zs.length) → (ag = false → ∃ y, zs[0]? = some y) → EvR g ((execOp ρ ⟨d, .load t x, ty, pos, af, gd⟩).events E.P w #[]) := fun hl h0 e he => by
      simp only [execOp, h1, Instr.loadAt, Instr.sureAddr] at he
      simp only [Sem.events_bind, Sem.events_pure, Sem.run_pure, Result.evThen_ok, evThen_id] at he
      obtain ⟨a, ha, hab, z, hz⟩ := (ev_loadVar ht (fun j z hj => (g3 j z hj).1) hl h0 _ e he).resolve_left (by simp)
      exact .inl ⟨a, ha, .inr ⟨o, by rw [hab]; exact (g3 0 z hz).2⟩⟩
    cases ag
    · simp only [aload, cond_false, List.head?_eq_getElem?] at h
      obtain ⟨y, hy, hr⟩ := reps_get hr h
      have hc0 := (g3 0 y hy).1
      rw [Nat.add_zero] at hc0
      exact ⟨y, by simp [execOp, h1, Instr.loadAt, Instr.sureAddr, loadVar, ht.ag, run_load, hc0], evs (fun h => by cases h) (fun _ => ⟨y, hy⟩), hr⟩
    · simp only [aload, cond_true] at h
      cases hle : Nat.ble sz cs.length
      · rw [hle] at h; cases h
      · rw [hle] at h
        simp only [cond_true, Option.some.injEq] at h
        subst h
        have hle' : sz ≤ zs.length := by rw [g2]; exact Nat.le_of_ble_eq_true hle
        refine ⟨.agg (zs.take sz).toArray, ?_, evs (fun _ => hle') (fun h => by cases h), ?_⟩
        · have := run_loadVar (P := E.P) (w := w) ht (fun j z hj => (g3 j z hj).1) hle' (fun h => by cases h)
          simp only [execOp, h1, Instr.loadAt, Instr.sureAddr]
          simp [this]
        · simp only [rep]
          exact ⟨_, rfl, reps_take hr⟩

def acells : AV → List AV
  | .agg cs => cs
  | x => [x]
theorem reps_cells {g : Gh} {w : World} {x : AV} {y : Value} (h : rep g w x y) (hn : x ≠ .top) (hv : ∀ a, x ≠ .v (.agg a)) : reps g w (acells x) y.cells.toList := by
  cases x with
  | agg cs =>
    simp only [rep] at h
    obtain ⟨a, rfl, h⟩ := h
    exact h
  | top => exact absurd rfl hn
  | v x =>
    have h' := h
    simp only [rep] at h'
    subst h'
    have : y.cells = #[y] := by
      cases y <;> first | rfl | (exact absurd rfl (hv _))
    rw [this]
    simp only [acells, reps]
    exact ⟨y, [], rfl, h, rfl⟩
  | _ =>
    have hc : y.cells = #[y] := by
      simp only [rep] at h
      first
        | (obtain ⟨a, rfl, _⟩ := h; rfl)
        | (simp only [drep] at h; obtain ⟨A, c, rfl, _⟩ := h; rfl)
        | (obtain ⟨h1, h2, xs, h3, _⟩ := h
           rcases h3.2 with ⟨rfl, _⟩ | ⟨_, _, _, rfl, _⟩ <;> rfl)
        | (obtain ⟨b, _, rfl⟩ := h; rfl)
        | (obtain ⟨b, o, rfl, _⟩ := h; rfl)
        | (obtain ⟨a, b, rfl, _⟩ := h; rfl)
        | (obtain ⟨b, _, _, _, rfl, _⟩ := h; rfl)
    rw [hc]
    simp only [acells, reps]
    exact ⟨y, [], rfl, h, rfl⟩
def isC : AV → Bool
  | .top => false
  | .v (.agg _) => false
  | _ => true
theorem reps_cellsC {g : Gh} {w : World} {x : AV} {y : Value} (h : rep g w x y) (hc : isC x = true) : reps g w (acells x) y.cells.toList :=
  reps_cells h (fun e => by subst e; simp [isC] at hc) (fun a e => by subst e; simp [isC] at hc)
theorem QV_newRow {o : Oper} {n : Nat} {cs : List AV} (h : ∀ (g : Gh) (w : World) (ρ : Operand → Value), (∀ x ∈ o.op.operands, rep g w (ev tm x) (ρ x)) →
      ∃ arr T, (execOp ρ o).run E.P w = .ok (.value (.pointer (some ⟨w.heap.size, 0, none⟩))) (w.alloc (.cells arr T)) ∧ EvR g ((execOp ρ o).events E.P w #[]) ∧ reps g w cs arr.toList) : QV E bl tm o (.ptr n 0) [(n, cs)] [] := by
  refine QV_of_o ?_
  intro _ _ _ _ _ g w ρ bl' ow' hm hbl hf _ hop
  obtain ⟨arr, T, hrun, he, hr⟩ := h g w ρ hop
  rw [hrun]
  refine ⟨?_, he⟩
  obtain ⟨g', h1, h2, h3, _⟩ := hm.newBlock n (fun q hq => hf (n, cs) (by simp) q hq) cs arr T hr
  refine ⟨g', h1, h2, ?_⟩
  simp only [rep]
  exact ⟨_, h3, rfl⟩
theorem QV_box {t : Nat} {x : Operand} {v : AV} (n : Nat) (hx : ev tm x = v) (hc : isC v = true) : QV E bl tm ⟨d, .box t x, ty, pos, af, gd⟩ (.ptr n 0) [(n, acells v)] [] :=
  QV_newRow fun g w ρ hop => by
    have h1 := hop x (by simp [Op.operands])
    rw [hx] at h1
    exact ⟨(ρ x).cells, t, by simp [execOp, Instr.box, newVar, newRow], evR_of (by simp [execOp, Instr.box, newVar, newRow]), reps_cellsC h1 hc⟩
theorem QV_alloc {t : Nat} {z : Value} (n : Nat) [hz : ZeroOk E.P t z] : QV E bl tm ⟨d, .alloc t, ty, pos, af, gd⟩ (.ptr n 0) [(n, z.cells.toList.map AV.v)] [] :=
  QV_newRow fun g w ρ hop => by
    refine ⟨z.cells, t, by simp [execOp, Instr.alloc, hz.zero, newVar, newRow], evR_of (by simp [execOp, Instr.alloc, hz.zero, newVar, newRow]), ?_⟩
    have : ∀ l : List Value, reps g w (l.map AV.v) l := by
      intro l
      induction l with
      | nil => simp [reps]
      | cons x l ih => simp only [List.map_cons, reps]; exact ⟨x, l, rfl, by simp [rep], ih⟩
    exact this _

def arows : AV → Option (Nat × List (List AV))
  | .sl e rows => some (e, rows)
  | .own _ _ e rows => some (e, rows)
  | _ => none
theorem drep_arows {g : Gh} {w : World} {x : AV} {y : Value} {e : Nat} {rows : List (List AV)} (h : rep g w x y) (hr : arows x = some (e, rows)) : drep g.I w (.sl e rows) y := by
  cases x <;> simp only [arows, Option.some.injEq, Prod.mk.injEq, reduceCtorEq] at hr
  · obtain ⟨rfl, rfl⟩ := hr
    simpa only [rep] using h
  · obtain ⟨rfl, rfl⟩ := hr
    simp only [rep] at h
    exact drep_of_own h
theorem QV_indexAddr {t : Nat} {x ix : Operand} {xv : AV} {T e by_ : Nat} {rows : List (List AV)} {k : IntKind} {i : Int} {j : Nat} {r : List AV} [hs : SlOk E.P t T e by_] (hx : ev tm x = xv) (hr : arows xv = some (e, rows))
    (hi : ev tm ix = .v (.int k i)) (hj : i = j) (hrow : rows[j]? = some r) : QV E bl tm ⟨d, .indexAddr t x ix, ty, pos, af, gd⟩ (.eptr r) [] [] :=
  QV_pure fun g w ρ hop => by
    have h1 := hop x (by simp [Op.operands])
    have h2 := hop ix (by simp [Op.operands])
    rw [hx] at h1; rw [hi] at h2
    have h1' := drep_arows h1 hr
    simp only [rep, drep] at h2 h1'
    subst hj
    obtain ⟨A, c, h3, h4, _⟩ := h1'
    have hlt : j < rows.length := (List.getElem?_eq_some_iff.1 hrow).1
    rcases h4 with h4 | ⟨b, o, rfl, h4⟩
    · simp [h4] at hlt
    · obtain ⟨in0, z, hi1, hi2, hi3, hi4, hi5⟩ := hs.info
      have hsz : (sizeOf T).run E.P w = .ok e w := by simp [sizeOf, typeInfo, hi1, hi3]
      refine ⟨.pointer (some ⟨b, o + j * e, none⟩), ?_, evR_of ?_, ?_⟩
      · simp [execOp, h2, h3, Instr.indexAt, asIntOf, run_underlying hs.und, hsz, addr_add, hlt]
      · simp [execOp, h2, h3, Instr.indexAt, asIntOf, run_underlying hs.und, hlt]
      · simp only [rep]
        exact ⟨b, _, rfl, (drows_get h4 hrow).2⟩
theorem QV_len {t : Nat} {x : Operand} {xv : AV} {T e e' by_ : Nat} {rows : List (List AV)} [hs : SlOk E.P t T e' by_] (hx : ev tm x = xv) (hr : arows xv = some (e, rows)) :
    QV E bl tm ⟨d, .call ⟨.builtin .len, #[x], #[t]⟩, ty, pos, af, gd⟩ (.v (.int .i64 rows.length)) [] [] :=
  QV_pure fun g w ρ hop => by
    have h1 := hop x (by simp [Op.operands, Call.operands])
    rw [hx] at h1
    have h1' := drep_arows h1 hr
    simp only [drep] at h1'
    obtain ⟨A, c, h3, h4, _⟩ := h1'
    exact ⟨_, by simp [execOp, resolve, invoke, builtin, Builtin.len_, h3, run_underlying hs.und, goInt]; rfl, evR_of (by simp [execOp, resolve, invoke, builtin, Builtin.len_, h3, run_underlying hs.und, goInt]), by simp only [rep]⟩
theorem QV_lenNil {t : Nat} {x : Operand} {T e by_ n c : Nat} {A : Option Addr} [hs : SlOk E.P t T e by_] (hx : ev tm x = .v (.slice A n c)) :
    QV E bl tm ⟨d, .call ⟨.builtin .len, #[x], #[t]⟩, ty, pos, af, gd⟩ (.v (.int .i64 n)) [] [] :=
  QV_pure fun g w ρ hop => by
    have h1 := hop x (by simp [Op.operands, Call.operands])
    rw [hx] at h1
    simp only [rep] at h1
    exact ⟨_, by simp [execOp, resolve, invoke, builtin, Builtin.len_, h1, run_underlying hs.und, goInt]; rfl, evR_of (by simp [execOp, resolve, invoke, builtin, Builtin.len_, h1, run_underlying hs.und, goInt]), by simp only [rep]⟩
theorem QV_min {x y : Operand} {ts : Array TypeId} {k : IntKind} {a b : Int} (hx : ev tm x = .v (.int k a)) (hy : ev tm y = .v (.int k b)) :
    QV E bl tm ⟨d, .call ⟨.builtin .min, #[x, y], ts⟩, ty, pos, af, gd⟩ (.v (.int k (min a b))) [] [] :=
  QV_pure fun g w ρ hop => by
    have h1 := hop x (by simp [Op.operands, Call.operands])
    have h2 := hop y (by simp [Op.operands, Call.operands])
    rw [hx] at h1; rw [hy] at h2
    simp only [rep] at h1 h2
    refine ⟨.int k (min a b), ?_, evR_of (by simp [execOp, resolve, invoke, builtin, Builtin.min_, Builtin.min2, h1, h2]), by simp only [rep]⟩
    have : (if b < a then b else a) = min a b := by omega
    simp [execOp, resolve, invoke, builtin, Builtin.min_, Builtin.min2, h1, h2, this]
theorem QV_max {x y : Operand} {ts : Array TypeId} {k : IntKind} {a b : Int} (hx : ev tm x = .v (.int k a)) (hy : ev tm y = .v (.int k b)) :
    QV E bl tm ⟨d, .call ⟨.builtin .max, #[x, y], ts⟩, ty, pos, af, gd⟩ (.v (.int k (max a b))) [] [] :=
  QV_pure fun g w ρ hop => by
    have h1 := hop x (by simp [Op.operands, Call.operands])
    have h2 := hop y (by simp [Op.operands, Call.operands])
    rw [hx] at h1; rw [hy] at h2
    simp only [rep] at h1 h2
    refine ⟨.int k (max a b), ?_, evR_of (by simp [execOp, resolve, invoke, builtin, Builtin.max_, Builtin.max2, h1, h2]), by simp only [rep]⟩
    have : (if a < b then b else a) = max a b := by omega
    simp [execOp, resolve, invoke, builtin, Builtin.max_, Builtin.max2, h1, h2, this]
theorem QV_nilCheck {x : Operand} {v : AV} (hx : ev tm x = v) (hv : match v with | .ptr .. => True | .eptr _ => True | .fn (.func _) _ _ => True | _ => False) : QV E bl tm ⟨d, .nilCheck x, ty, pos, af, gd⟩ v [] [] :=
  QV_pure fun g w ρ hop => by
    have h1 := hop x (by simp [Op.operands])
    rw [hx] at h1
    have both : (execOp ρ ⟨d, .nilCheck x, ty, pos, af, gd⟩).run E.P w = .ok (.value (ρ x)) w ∧ (execOp ρ ⟨d, .nilCheck x, ty, pos, af, gd⟩).events E.P w #[] = #[] := by
      cases v with
      | ptr n o =>
        simp only [rep] at h1
        obtain ⟨b, _, h2⟩ := h1
        simp [execOp, h2]
      | eptr cs =>
        simp only [rep] at h1
        obtain ⟨b, o, h2, _⟩ := h1
        simp [execOp, h2]
      | fn f fs cs =>
        simp only [rep] at h1
        obtain ⟨a, b, h2, _⟩ := h1
        cases f <;> simp at hv
        simp [execOp, h2]
      | _ => simp at hv
    exact ⟨ρ x, both.1, evR_of both.2, h1⟩
theorem QV_nilCheckF {x : Operand} {f : FuncId} {us vs : Array Value} (hx : ev tm x = .v (.func (.func f) us vs)) : QV E bl tm ⟨d, .nilCheck x, ty, pos, af, gd⟩ (.v (.func (.func f) us vs)) [] [] :=
  QV_pure fun g w ρ hop => by
    have h1 := hop x (by simp [Op.operands])
    rw [hx] at h1
    simp only [rep] at h1
    exact ⟨ρ x, by simp [execOp, h1], evR_of (by simp [execOp, h1]), by simp only [rep]; exact h1⟩
theorem reps_map {g : Gh} {w : World} {ρ : Operand → Value} : ∀ (xs : List Operand), (∀ x ∈ xs, rep g w (ev tm x) (ρ x)) → reps g w (xs.map (ev tm)) (xs.map ρ)
  | [], _ => by simp [reps]
  | x :: xs, h => by
    simp only [List.map_cons, reps]
    exact ⟨_, _, rfl, h x (by simp), reps_map xs (fun y hy => h y (by simp [hy]))⟩
theorem QV_makeFunc {f : Fn} {fs cs : Array Operand} : QV E bl tm ⟨d, .makeFunc f fs cs, ty, pos, af, gd⟩ (.fn f (fs.toList.map (ev tm)) (cs.toList.map (ev tm))) [] [] :=
  QV_pure fun g w ρ hop => by
    refine ⟨.func f (fs.map ρ) (cs.map ρ), by simp [execOp, Instr.makeFunc], evR_of (by simp [execOp, Instr.makeFunc]), ?_⟩
    simp only [rep]
    refine ⟨_, _, rfl, ?_, ?_⟩
    · rw [Array.toList_map]; exact reps_map _ fun x hx => hop x (by simp [Op.operands] at hx ⊢; exact .inl hx)
    · rw [Array.toList_map]; exact reps_map _ fun x hx => hop x (by simp [Op.operands] at hx ⊢; exact .inr hx)
theorem QV_conv {s t : TypeId} {x : Operand} {k k' : IntKind} {a : Int} (hs : (E.P.underlying s).isSome = true) (ht : E.P.underlying t = some (.int k')) (hx : ev tm x = .v (.int k a)) :
    QV E bl tm ⟨d, .convert s t x, ty, pos, af, gd⟩ (.v (.int k' (k'.wrap a))) [] [] :=
  QV_pure fun g w ρ hop => by
    have h1 := hop x (by simp [Op.operands])
    rw [hx] at h1
    simp only [rep] at h1
    obtain ⟨u, hu⟩ := Option.isSome_iff_exists.1 hs
    refine ⟨.int k' (k'.wrap a), ?_, evR_of ?_, by simp only [rep]⟩ <;> simp [execOp, h1, convert, run_underlying hu, run_underlying ht, Conv.intToInt]
end
end Go.Eng

namespace Go.Eng
open Go Go.Conc

structure St where
  tm : List (Nat × AV)
  bl : List (Nat × List AV)
  ow : List Nat

structure Inv (E : En) (g : Gh) (s : St) (a : Act) (x : CW) : Prop where
  mem : MemV E g s.bl s.ow x
  tm : ∀ t, rep g x.w (look s.tm t) (a.tmps.getD t undef)
  de : a.defers = E.df
  sz : a.tmps.size = E.nt

def post (E : En) (Q : Exit → St → Prop) : Exit → Act → CW → Prop := fun e a w => ∃ g s, Q e s ∧ Inv E g s a w
theorem Inv.rely {E : En} {g : Gh} {s : St} {a : Act} {x : CW} {w₁ : World} (h : Inv E g s a x) (r : Rely x.V x.w w₁) : Inv E g s a ⟨x.V, w₁⟩ := ⟨h.mem.rely r, fun t => rep_goes (h.mem.goes r) (h.tm t), h.de, h.sz⟩

def St.app (s : St) (d : Option Tmp) (v : AV) (nb : List (Nat × List AV)) (no : List Nat) : St :=
  ⟨match d with | some d => (d, v) :: s.tm | none => s.tm, nb ++ s.bl, no ++ s.ow⟩

theorem look_put {g : Gh} {w : World} {E : En} {a : Act} {s : St} {d : Option Tmp} {v : AV} {y : Value} (nb : List (Nat × List AV)) (no : List Nat) (hd : ∀ k, d = some k → k < E.nt) (hsz : a.tmps.size = E.nt)
    (ht : ∀ t, rep g w (look s.tm t) (a.tmps.getD t undef)) (hv : rep g w v y) : ∀ t, rep g w (look (s.app d v nb no).tm t) ((a.put d y).tmps.getD t undef) := by
  intro t
  cases d with
  | none => exact ht t
  | some d =>
    have hdl : d < a.tmps.size := by rw [hsz]; exact hd d rfl
    simp only [St.app, look, Act.put]
    cases hb : Nat.beq d t
    · have hne : d ≠ t := fun e => by subst e; simp at hb
      simp only [cond_false]
      have : (a.tmps.setIfInBounds d y).getD t undef = a.tmps.getD t undef := by
        simp [Array.getElem?_setIfInBounds_ne hne]
      rw [this]; exact ht t
    · have he : d = t := Nat.eq_of_beq_eq_true hb
      subst he
      simp only [cond_true]
      have : (a.tmps.setIfInBounds d y).getD d undef = y := by simp [hdl]
      rw [this]; exact hv

theorem Inv.app {E : En} {g g' : Gh} {s : St} {a : Act} {w w' : CW} (h : Inv E g s a w) {d : Option Tmp} {v : AV} {y : Value} {nb : List (Nat × List AV)} {no : List Nat} (hd : ∀ k, d = some k → k < E.nt)
    (hg : Goes g w.w g' w'.w) (hm : MemV E g' (nb ++ s.bl) (no ++ s.ow) w') (hv : rep g' w'.w v y) : Inv E g' (s.app d v nb no) (a.put d y) w' :=
  ⟨hm, look_put nb no hd h.sz (fun t => rep_goes hg (h.tm t)) hv, by cases d <;> exact h.de, by cases d <;> simp [Act.put, h.sz]⟩

def WL (E : En) (ops : Array Oper) (l : List Oper) (Q : Exit → St → Prop) (s : St) : Prop := ∀ (L : Lg E.P) g a w, Inv E g s a w → wpListV L ops (post E Q) l a w
def W (E : En) (c : Code) (Q : Exit → St → Prop) (s : St) : Prop := ∀ (L : Lg E.P) g a w, Inv E g s a w → c.wpV L (post E Q) a w

theorem WL_nil {E : En} {ops : Array Oper} {Q : Exit → St → Prop} {s : St} (h : Q .normal s) : WL E ops [] Q s := fun _ g _ _ hi => ⟨g, s, h, hi⟩

def TV (E : En) (o : Oper) (s s' : St) : Prop := ∀ (L : Lg E.P) g a w, Inv E g s a w → ∀ (next : Act → CW → Prop), (∀ g' a' w', Inv E g' s' a' w' → next a' w') → OpV L o a.eval w fun y w' => next (a.put o.dst y) w'

def freshB (nb : List (Nat × List AV)) (no : List Nat) (s : St) : Bool :=
  nb.all (fun p => s.bl.all fun q => !(Nat.beq p.1 q.1)) && no.all (fun n => s.ow.all fun k => !(Nat.beq n k)) && Nat.ble nb.length 1 && Nat.ble no.length 1
theorem freshB_spec {nb : List (Nat × List AV)} {no : List Nat} {s : St} (h : freshB nb no s = true) : (∀ p ∈ nb, ∀ q ∈ s.bl, p.1 ≠ q.1) ∧ ∀ n ∈ no, n ∉ s.ow := by
  simp only [freshB, Bool.and_eq_true, List.all_eq_true, Bool.not_eq_true'] at h
  refine ⟨fun p hp q hq e => ?_, fun n hn hk => ?_⟩
  · have := h.1.1.1 p hp q hq
    rw [e] at this; simp at this
  · have := h.1.1.2 n hn n hk
    simp at this
def dstB (nt : Nat) (o : Oper) : Bool := match o.dst with | some d => Nat.blt d nt | none => true
theorem dstB_spec {nt : Nat} {o : Oper} (h : dstB nt o = true) : ∀ k, o.dst = some k → k < nt := fun k hk => by
  simp only [dstB, hk] at h
  exact Nat.le_of_ble_eq_true h

theorem TV_of_QV {E : En} {o : Oper} {s : St} {v : AV} {nb : List (Nat × List AV)} {no : List Nat} (h : QV E s.bl s.tm o v nb no) (hf : freshB nb no s = true) (hd : dstB E.nt o = true) : TV E o s (s.app o.dst v nb no) := by
  intro L g a w hi next hn
  obtain ⟨f1, f2⟩ := freshB_spec hf
  refine (h L g a.eval s.bl s.ow w hi.mem (fun p hp => hp) f1 f2 (fun x _ => rep_ev hi.tm x)).mono fun y w' hK => ?_
  obtain ⟨g', h1, h2, h3⟩ := hK
  exact hn _ _ _ (hi.app (dstB_spec hd) h1 h2 h3)

theorem WL_t {E : En} {ops : Array Oper} {o : Oper} {rest : List Oper} {Q : Exit → St → Prop} {s s' : St} (hg : o.guard = none) (h : TV E o s s') (hk : WL E ops rest Q s') : WL E ops (o :: rest) Q s := by
  intro L g a w hi
  unfold wpListV
  have : Region.wanted o (yielded ops a.tmps) = true := by simp [Region.wanted, hg]
  rw [this]
  rw [if_pos rfl]
  exact h L g a w hi _ fun g' a' w' hi' => hk L g' a' w' hi'
theorem WL_q {E : En} {ops : Array Oper} {o : Oper} {rest : List Oper} {Q : Exit → St → Prop} {s : St} {v : AV} {nb : List (Nat × List AV)} {no : List Nat} (h : QV E s.bl s.tm o v nb no) (hg : o.guard = none) (hd : dstB E.nt o = true) (hf : freshB nb no s = true)
    (hk : WL E ops rest Q (s.app o.dst v nb no)) : WL E ops (o :: rest) Q s := WL_t hg (TV_of_QV h hf hd) hk

theorem yielded_of {ops : Array Oper} {tmps : Array Value} {j d : Nat} {b : Bool} (hj : (ops[j]?).bind (·.dst) = some d) (h : tmps.getD d undef = .bool b) : yielded ops tmps j = some b := by
  unfold yielded
  rw [hj]
  cases hd : tmps[d]? with
  | none => simp [hd, undef] at h
  | some y => simp [hd] at h; subst h; simp [hd]

theorem yielded_un {ops : Array Oper} {tmps : Array Value} {j d : Nat} (hj : (ops[j]?).bind (·.dst) = some d) (h : tmps.getD d undef = undef) : yielded ops tmps j = none := by
  unfold yielded
  rw [hj]
  cases hd : tmps[d]? with
  | none => simp [hd]
  | some y => simp [hd] at h; subst h; simp [hd, undef]
theorem WL_gu {E : En} {ops : Array Oper} {o : Oper} {rest : List Oper} {Q : Exit → St → Prop} {s : St} {j d : Nat} {b : Bool} (hg : o.guard = some (j, b)) (hj : (ops[j]?).bind (·.dst) = some d) (hb : look s.tm d = .v undef)
    (hd : dstB E.nt o = true) (hk : WL E ops rest Q (s.app o.dst (.v undef) [] [])) : WL E ops (o :: rest) Q s := by
  intro L g a w hi
  unfold wpListV
  have h1 := hi.tm d
  rw [hb] at h1
  simp only [rep] at h1
  have : Region.wanted o (yielded ops a.tmps) = false := by simp [Region.wanted, hg, yielded_un hj h1]
  rw [this]
  exact hk L g _ w (hi.app (dstB_spec hd) (Goes.refl g _) hi.mem (by simp [rep]))
theorem WL_gy {E : En} {ops : Array Oper} {o : Oper} {rest : List Oper} {Q : Exit → St → Prop} {s : St} {v : AV} {nb : List (Nat × List AV)} {no : List Nat} {j d : Nat} {b : Bool} (h : QV E s.bl s.tm o v nb no) (hg : o.guard = some (j, b)) (hj : (ops[j]?).bind (·.dst) = some d) (hb : look s.tm d = .v (.bool b))
    (hd : dstB E.nt o = true) (hf : freshB nb no s = true) (hk : WL E ops rest Q (s.app o.dst v nb no)) : WL E ops (o :: rest) Q s := by
  intro L g a w hi
  unfold wpListV
  have h1 := hi.tm d
  rw [hb] at h1
  simp only [rep] at h1
  have : Region.wanted o (yielded ops a.tmps) = true := by simp [Region.wanted, hg, yielded_of hj h1]
  rw [this]
  rw [if_pos rfl]
  exact TV_of_QV h hf hd L g a w hi _ fun g' a' w' hi' => hk L g' a' w' hi'
theorem WL_gn {E : En} {ops : Array Oper} {o : Oper} {rest : List Oper} {Q : Exit → St → Prop} {s : St} {j d : Nat} {b c : Bool} (hg : o.guard = some (j, c)) (hj : (ops[j]?).bind (·.dst) = some d) (hb : look s.tm d = .v (.bool b)) (hc : c = !b)
    (hd : dstB E.nt o = true) (hk : WL E ops rest Q (s.app o.dst (.v undef) [] [])) : WL E ops (o :: rest) Q s := by
  intro L g a w hi
  unfold wpListV
  have h1 := hi.tm d
  rw [hb] at h1
  simp only [rep] at h1
  have : Region.wanted o (yielded ops a.tmps) = false := by subst hc; simp [Region.wanted, hg, yielded_of hj h1]
  rw [this]
  exact hk L g _ w (hi.app (dstB_spec hd) (Goes.refl g _) hi.mem (by simp [rep]))

theorem Mem.drew {E : En} {g : Gh} {bl : List (Nat × List AV)} {ow : List Nat} {w : World} (h : Mem E g bl ow w) : Mem E g bl ow w.drew ∧ Goes g w g w.drew := by
  have hg : Goes g w g w.drew := ⟨fun _ _ h => h, fun _ _ _ => rfl, fun _ _ h => h, fun _ _ _ => rfl, fun n T e rows y hy =>
    ownRep_goes (g := g) (g' := g) (w := w) (w' := w.drew) (fun _ _ h => h) (fun _ _ _ => rfl) (fun _ h => ⟨h, rfl⟩) (fun _ _ _ _ => rfl) (fun _ _ _ _ _ h => h) hy, fun _ _ _ _ _ h => h⟩
  exact ⟨⟨⟨h.below.os, h.below.tape, h.below.output, h.below.size, h.below.block⟩, h.base, h.cell, h.mfr, h.ofr, h.minj, h.oinj, h.disj,
    fun n cs hn => let ⟨b, arr, h1, h2, h3, h4⟩ := h.blk n cs hn; ⟨b, arr, h1, h2, reps_goes hg h3, h4⟩, h.key, h.own, h.inew, h.iold, h.pin⟩, hg⟩
theorem MemV.drew {E : En} {g : Gh} {bl : List (Nat × List AV)} {ow : List Nat} {V : Rig} {w : World} (h : MemV E g bl ow ⟨V, w⟩) : MemV E g bl ow ⟨V, w.drew⟩ :=
  ⟨h.mem.drew.1, h.vis.I, h.vis.m, h.vis.o, h.vis.sub, h.vis.lt, h.vis.up, h.vis.upm, h.vis.dn, h.vis.dnm, h.vis.nM, h.vis.ext⟩
theorem Inv.drew {E : En} {g : Gh} {s : St} {a : Act} {V : Rig} {w : World} (h : Inv E g s a ⟨V, w⟩) : Inv E g s a ⟨V, w.drew⟩ :=
  ⟨h.mem.drew, fun t => rep_goes h.mem.mem.drew.2 (h.tm t), h.de, h.sz⟩


structure Tr where
  d : Option Tmp
  v : AV
  nb : List (Nat × List AV)
  no : List Nat

def stS (L : Nat → Bool) : List Tr → Nat → St → St
  | [], _, s => s
  | t :: ts, i, s => stS L ts (i + 1) (bif L i then s.app t.d t.v t.nb t.no else s)

def isTop : AV → Bool
  | .top => true
  | _ => false
def QI (E : En) (tm : List (Nat × AV)) (o : Oper) (n : Nat) (cs : List AV) : Prop :=
  o.dst = none ∧ o.guard = none ∧ Operand.tmp n ∈ o.op.operands ∧ (cs.all (fun x => !isTop x) = true ∧ cs ≠ []) ∧
  ∀ (L : Lg E.P) (g : Gh) (ρ : Operand → Value) (bl' : List (Nat × List AV)) (ow' : List Nat) (w : CW), MemV E g bl' ow' w → (∃ c, (n, c) ∈ bl') → (∀ c, (n, c) ∈ bl' → c.length = cs.length ∧ c.all isTop = true) →
    (∀ x ∈ o.op.operands, rep g w.w (ev tm x) (ρ x)) → OpV L o ρ w (fun y w' => y = undef ∧ ∃ g', Goes g w.w g' w'.w ∧ MemV E g' ((n, cs) :: bl') ow' w')
def initB (n k : Nat) (bl : List (Nat × List AV)) : Bool := bl.any (fun q => Nat.beq q.1 n) && bl.all fun q => bif Nat.beq q.1 n then Nat.beq q.2.length k && q.2.all isTop else true
theorem initB_spec {n k : Nat} {bl : List (Nat × List AV)} (h : initB n k bl = true) : (∃ c, (n, c) ∈ bl) ∧ ∀ c, (n, c) ∈ bl → c.length = k ∧ c.all isTop = true := by
  simp only [initB, Bool.and_eq_true] at h
  obtain ⟨h1, h2⟩ := h
  obtain ⟨q, hq, hb⟩ := List.any_eq_true.1 h1
  have := Nat.eq_of_beq_eq_true hb
  refine ⟨⟨q.2, by rw [← this]; exact hq⟩, fun c hc => ?_⟩
  have h3 := List.all_eq_true.1 h2 _ hc
  simp only [Nat.beq_refl, cond_true, Bool.and_eq_true] at h3
  exact ⟨Nat.eq_of_beq_eq_true h3.1, h3.2⟩
def namesB (nb : List (Nat × List AV)) (o : Oper) : Bool := nb.all fun p => match o.dst with | some d => Nat.beq d p.1 | none => false
theorem namesB_spec {nb : List (Nat × List AV)} {o : Oper} (h : namesB nb o = true) : ∀ p ∈ nb, o.dst = some p.1 := fun p hp => by
  have h1 := List.all_eq_true.1 h p hp
  cases hd : o.dst with
  | none => simp [hd] at h1
  | some d => simp only [hd] at h1; rw [Nat.eq_of_beq_eq_true h1]

def HW (E : En) (ops : Array Oper) (bl : List (Nat × List AV)) : List Oper → St → (St → Prop) → Prop
  | [], s, K => K s
  | o :: rest, s, K =>
    (∃ v nb no, QV E bl s.tm o v nb no ∧ dstB E.nt o = true ∧ (freshB nb no s = true ∧ namesB nb o = true) ∧
      (o.guard = none ∨ ∃ j d b, o.guard = some (j, b) ∧ (ops[j]?).bind (·.dst) = some d ∧ look s.tm d = .v (.bool b)) ∧ HW E ops bl rest (s.app o.dst v nb no) K) ∨
    (∃ j d b, o.guard = some (j, !b) ∧ (ops[j]?).bind (·.dst) = some d ∧ look s.tm d = .v (.bool b) ∧ dstB E.nt o = true ∧ HW E ops bl rest (s.app o.dst (.v undef) [] []) K) ∨
    (∃ n cs, QI E s.tm o n cs ∧ initB n cs.length s.bl = true ∧ HW E ops bl rest (s.app none (.v undef) [(n, cs)] []) K) ∨
    (∃ j d b, o.guard = some (j, b) ∧ (ops[j]?).bind (·.dst) = some d ∧ look s.tm d = .v undef ∧ dstB E.nt o = true ∧ HW E ops bl rest (s.app o.dst (.v undef) [] []) K)

theorem HW_nil {E : En} {ops : Array Oper} {bl : List (Nat × List AV)} {s : St} {K : St → Prop} (h : K s) : HW E ops bl [] s K := h
theorem HW_q {E : En} {ops : Array Oper} {bl : List (Nat × List AV)} {o : Oper} {rest : List Oper} {K : St → Prop} {s : St} {v : AV} {nb : List (Nat × List AV)} {no : List Nat} (h : QV E bl s.tm o v nb no) (hg : o.guard = none) (hd : dstB E.nt o = true) (hf : freshB nb no s = true) (hn : namesB nb o = true)
    (hk : HW E ops bl rest (s.app o.dst v nb no) K) : HW E ops bl (o :: rest) s K := .inl ⟨v, nb, no, h, hd, ⟨hf, hn⟩, .inl hg, hk⟩
theorem HW_gy {E : En} {ops : Array Oper} {bl : List (Nat × List AV)} {o : Oper} {rest : List Oper} {K : St → Prop} {s : St} {v : AV} {nb : List (Nat × List AV)} {no : List Nat} {j d : Nat} {b : Bool} (h : QV E bl s.tm o v nb no) (hg : o.guard = some (j, b)) (hj : (ops[j]?).bind (·.dst) = some d) (hb : look s.tm d = .v (.bool b)) (hd : dstB E.nt o = true) (hf : freshB nb no s = true) (hn : namesB nb o = true)
    (hk : HW E ops bl rest (s.app o.dst v nb no) K) : HW E ops bl (o :: rest) s K := .inl ⟨v, nb, no, h, hd, ⟨hf, hn⟩, .inr ⟨j, d, b, hg, hj, hb⟩, hk⟩
theorem HW_gn {E : En} {ops : Array Oper} {bl : List (Nat × List AV)} {o : Oper} {rest : List Oper} {K : St → Prop} {s : St} {j d : Nat} {b c : Bool} (hg : o.guard = some (j, c)) (hj : (ops[j]?).bind (·.dst) = some d) (hb : look s.tm d = .v (.bool b)) (hc : c = !b) (hd : dstB E.nt o = true)
    (hk : HW E ops bl rest (s.app o.dst (.v undef) [] []) K) : HW E ops bl (o :: rest) s K := .inr (.inl ⟨j, d, b, hc ▸ hg, hj, hb, hd, hk⟩)
theorem HW_i {E : En} {ops : Array Oper} {bl : List (Nat × List AV)} {o : Oper} {rest : List Oper} {K : St → Prop} {s : St} {n : Nat} {cs : List AV} (h : QI E s.tm o n cs) (hi : initB n cs.length s.bl = true) (hk : HW E ops bl rest (s.app none (.v undef) [(n, cs)] []) K) : HW E ops bl (o :: rest) s K := .inr (.inr (.inl ⟨n, cs, h, hi, hk⟩))
theorem HW_gu {E : En} {ops : Array Oper} {bl : List (Nat × List AV)} {o : Oper} {rest : List Oper} {K : St → Prop} {s : St} {j d : Nat} {b : Bool} (hg : o.guard = some (j, b)) (hj : (ops[j]?).bind (·.dst) = some d) (hb : look s.tm d = .v undef) (hd : dstB E.nt o = true)
    (hk : HW E ops bl rest (s.app o.dst (.v undef) [] []) K) : HW E ops bl (o :: rest) s K := .inr (.inr (.inr ⟨j, d, b, hg, hj, hb, hd, hk⟩))

structure StepOk (E : En) (ops : Array Oper) (bl : List (Nat × List AV)) (s : St) (o : Oper) (t : Tr) : Prop where
  d : t.d = o.dst
  dst : dstB E.nt o = true
  run : (QV E bl s.tm o t.v t.nb t.no ∧ (freshB t.nb t.no s = true ∧ ∀ p ∈ t.nb, o.dst = some p.1) ∧ (o.guard = none ∨ ∃ j d b, o.guard = some (j, b) ∧ (ops[j]?).bind (·.dst) = some d ∧ look s.tm d = .v (.bool b))) ∨
    (t.v = .v undef ∧ t.nb = [] ∧ t.no = [] ∧ ∃ j d b, o.guard = some (j, !b) ∧ (ops[j]?).bind (·.dst) = some d ∧ look s.tm d = .v (.bool b)) ∨
    (∃ n cs, QI E s.tm o n cs ∧ t.v = .v undef ∧ t.nb = [(n, cs)] ∧ t.no = []) ∨
    (t.v = .v undef ∧ t.nb = [] ∧ t.no = [] ∧ ∃ j d b, o.guard = some (j, b) ∧ (ops[j]?).bind (·.dst) = some d ∧ look s.tm d = .v undef)
def NewOk (o : Oper) (t : Tr) (s : St) : Prop := (freshB t.nb t.no s = true ∧ ∀ p ∈ t.nb, o.dst = some p.1) ∨ ∃ n cs, t.nb = [(n, cs)] ∧ t.no = [] ∧ (cs.all (fun x => !isTop x) = true ∧ cs ≠ []) ∧ Operand.tmp n ∈ o.op.operands ∧ initB n cs.length s.bl = true

theorem HW_trace {E : En} {ops : Array Oper} {bl : List (Nat × List AV)} {K : St → Prop} : ∀ (l : List Oper) (s : St), HW E ops bl l s K →
    ∃ T : List Tr, T.length = l.length ∧ K (stS (fun _ => true) T 0 s) ∧
      (∀ i o t, l[i]? = some o → T[i]? = some t → StepOk E ops bl (stS (fun j => decide (j < i)) T 0 s) o t ∧ NewOk o t (stS (fun j => decide (j < i)) T 0 s))
  | [], s, h => ⟨[], rfl, h, fun i o t hi => by simp at hi⟩
  | o :: rest, s, h => by
    have shift : ∀ (L : Nat → Bool) (T : List Tr) (i : Nat) (s : St), stS L T (i + 1) s = stS (fun j => L (j + 1)) T i s := by
      intro L T
      induction T with
      | nil => intro i s; rfl
      | cons t T ih => intro i s; simp only [stS]; exact ih (i + 1) _
    have zero : ∀ (T : List Tr) (i : Nat) (s : St), stS (fun _ => false) T i s = s := by
      intro T
      induction T with
      | nil => intro i s; rfl
      | cons t T ih => intro i s; simp only [stS, cond_false]; exact ih _ s
    have go : ∀ (t : Tr), StepOk E ops bl s o t → NewOk o t s → HW E ops bl rest (s.app t.d t.v t.nb t.no) K →
        ∃ T : List Tr, T.length = (o :: rest).length ∧ K (stS (fun _ => true) T 0 s) ∧
      (∀ i o' t, (o :: rest)[i]? = some o' → T[i]? = some t → StepOk E ops bl (stS (fun j => decide (j < i)) T 0 s) o' t ∧ NewOk o' t (stS (fun j => decide (j < i)) T 0 s)) := by
      intro t hs hfr hk
      obtain ⟨T, h1, h2, h3⟩ := HW_trace rest _ hk
      refine ⟨t :: T, by simp [h1], ?_, fun i o' t' hi ht => ?_⟩
      · simp only [stS, cond_true]; rw [shift]; exact h2
      · cases i with
        | zero =>
          simp only [List.getElem?_cons_zero, Option.some.injEq] at hi ht
          subst hi; subst ht
          have e : stS (fun j => decide (j < 0)) (t :: T) 0 s = s := by
            simp only [stS, Nat.not_lt_zero, decide_false, cond_false]; exact zero _ _ _
          rw [e]; exact ⟨hs, hfr⟩
        | succ i =>
          have := h3 i o' t' (by simpa using hi) (by simpa using ht)
          simp only [stS, Nat.zero_lt_succ, decide_true, cond_true]
          rw [shift]
          simpa [Nat.add_lt_add_iff_right] using this
    rcases h with ⟨v, nb, no, h1, h2, h3, h4, h5⟩ | ⟨j, d, b, h1, h2, h3, h4, h5⟩ | ⟨n, cs, h1, h2, h3⟩ | ⟨j, d, b, h1, h2, h3, h4, h5⟩
    · exact go ⟨o.dst, v, nb, no⟩ ⟨rfl, h2, .inl ⟨h1, ⟨h3.1, namesB_spec h3.2⟩, h4⟩⟩ (.inl ⟨h3.1, namesB_spec h3.2⟩) h5
    · exact go ⟨o.dst, .v undef, [], []⟩ ⟨rfl, h4, .inr (.inl ⟨rfl, rfl, rfl, j, d, b, h1, h2, h3⟩)⟩ (.inl ⟨by simp [freshB], by simp⟩) h5
    · exact go ⟨none, .v undef, [(n, cs)], []⟩ ⟨h1.1.symm, by simp [dstB, h1.1], .inr (.inr (.inl ⟨n, cs, h1, rfl, rfl, rfl⟩))⟩ (.inr ⟨n, cs, rfl, rfl, h1.2.2.2.1, h1.2.2.1, h2⟩) h3
    · exact go ⟨o.dst, .v undef, [], []⟩ ⟨rfl, h4, .inr (.inr (.inr ⟨rfl, rfl, rfl, j, d, b, h1, h2, h3⟩))⟩ (.inl ⟨by simp [freshB], by simp⟩) h5

theorem look_stS {L L' : Nat → Bool} {t : Nat} : ∀ (T : List Tr) (i : Nat) (s s' : St), look s.tm t = look s'.tm t → (∀ j tr, T[j]? = some tr → tr.d = some t → L (i + j) = L' (i + j)) → look (stS L T i s).tm t = look (stS L' T i s').tm t
  | [], _, _, _, h, _ => h
  | tr :: T, i, s, s', h, hL => by
    simp only [stS]
    refine look_stS T (i + 1) _ _ ?_ fun j tr' hj hd => by
      have := hL (j + 1) tr' (by simpa using hj) hd
      rwa [show i + (j + 1) = i + 1 + j by omega] at this
    by_cases hd : tr.d = some t
    · have := hL 0 tr rfl hd
      rw [Nat.add_zero] at this
      rw [this]
      cases L' i
      · exact h
      · simp only [cond_true, St.app, hd, look]; simp
    · have key : ∀ s : St, look (bif L i then s.app tr.d tr.v tr.nb tr.no else s).tm t = look s.tm t := fun s => by
        cases L i
        · rfl
        · simp only [cond_true, St.app]
          cases hdd : tr.d with
          | none => rfl
          | some k =>
            have : k ≠ t := fun e => hd (by rw [hdd, e])
            simp only [look]
            cases hb : Nat.beq k t
            · rfl
            · exact absurd (Nat.eq_of_beq_eq_true hb) this
      have key' : ∀ s : St, look (bif L' i then s.app tr.d tr.v tr.nb tr.no else s).tm t = look s.tm t := fun s => by
        cases L' i
        · rfl
        · simp only [cond_true, St.app]
          cases hdd : tr.d with
          | none => rfl
          | some k =>
            have : k ≠ t := fun e => hd (by rw [hdd, e])
            simp only [look]
            cases hb : Nat.beq k t
            · rfl
            · exact absurd (Nat.eq_of_beq_eq_true hb) this
      rw [key, key']; exact h
theorem look_last {L : Nat → Bool} {t : Nat} {v : AV} : ∀ (T : List Tr) (i k : Nat) (s : St) (tr : Tr), T[k]? = some tr → tr.d = some t → tr.v = v → L (i + k) = true → (∀ j tr', T[j]? = some tr' → k < j → tr'.d = some t → L (i + j) = false) → look (stS L T i s).tm t = v
  | [], _, _, _, _, h, _, _, _, _ => by simp at h
  | tr0 :: T, i, 0, s, tr, h, hd, hv, hL, hn => by
    simp only [List.getElem?_cons_zero, Option.some.injEq] at h
    subst h
    simp only [stS]
    rw [Nat.add_zero] at hL
    rw [hL]
    have := look_stS (L := L) (L' := fun _ => false) (t := t) T (i + 1) (s.app tr0.d tr0.v tr0.nb tr0.no) (s.app tr0.d tr0.v tr0.nb tr0.no) rfl fun j tr' hj hd' => by
      have := hn (j + 1) tr' (by simpa using hj) (by omega) hd'
      rwa [show i + (j + 1) = i + 1 + j by omega] at this
    rw [cond_true, this]
    have zero : ∀ (T : List Tr) (i : Nat) (s : St), stS (fun _ => false) T i s = s := by
      intro T
      induction T with
      | nil => intro i s; rfl
      | cons t T ih => intro i s; simp only [stS, cond_false]; exact ih _ s
    rw [zero]
    simp [St.app, hd, look, hv]
  | tr0 :: T, i, k + 1, s, tr, h, hd, hv, hL, hn => by
    simp only [stS]
    refine look_last T (i + 1) k _ tr (by simpa using h) hd hv (by rwa [show i + (k + 1) = i + 1 + k by omega] at hL) fun j tr' hj hkj hd' => ?_
    have := hn (j + 1) tr' (by simpa using hj) (by omega) hd'
    rwa [show i + (j + 1) = i + 1 + j by omega] at this
theorem mem_bl_stS {L : Nat → Bool} {p : Nat × List AV} : ∀ (T : List Tr) (i : Nat) (s : St), p ∈ (stS L T i s).bl ↔ p ∈ s.bl ∨ ∃ j tr, T[j]? = some tr ∧ L (i + j) = true ∧ p ∈ tr.nb
  | [], i, s => by simp [stS]
  | tr :: T, i, s => by
    simp only [stS, mem_bl_stS T]
    constructor
    · rintro (h | ⟨j, tr', h1, h2, h3⟩)
      · cases hL : L i
        · rw [hL] at h; exact .inl h
        · rw [hL] at h
          simp only [cond_true, St.app, List.mem_append] at h
          rcases h with h | h
          · exact .inr ⟨0, tr, rfl, by simpa using hL, h⟩
          · exact .inl h
      · exact .inr ⟨j + 1, tr', by simpa using h1, by rwa [show i + (j + 1) = i + 1 + j by omega], h3⟩
    · rintro (h | ⟨j, tr', h1, h2, h3⟩)
      · refine .inl ?_
        cases L i
        · exact h
        · simp [St.app, h]
      · cases j with
        | zero =>
          simp only [List.getElem?_cons_zero, Option.some.injEq] at h1
          subst h1
          rw [Nat.add_zero] at h2
          refine .inl ?_
          rw [h2]; simp [St.app, h3]
        | succ j => exact .inr ⟨j, tr', by simpa using h1, by rwa [show i + (j + 1) = i + 1 + j by omega] at h2, h3⟩
theorem mem_ow_stS {L : Nat → Bool} {p : Nat} : ∀ (T : List Tr) (i : Nat) (s : St), p ∈ (stS L T i s).ow ↔ p ∈ s.ow ∨ ∃ j tr, T[j]? = some tr ∧ L (i + j) = true ∧ p ∈ tr.no
  | [], i, s => by simp [stS]
  | tr :: T, i, s => by
    simp only [stS, mem_ow_stS T]
    constructor
    · rintro (h | ⟨j, tr', h1, h2, h3⟩)
      · cases hL : L i
        · rw [hL] at h; exact .inl h
        · rw [hL] at h
          simp only [cond_true, St.app, List.mem_append] at h
          rcases h with h | h
          · exact .inr ⟨0, tr, rfl, by simpa using hL, h⟩
          · exact .inl h
      · exact .inr ⟨j + 1, tr', by simpa using h1, by rwa [show i + (j + 1) = i + 1 + j by omega], h3⟩
    · rintro (h | ⟨j, tr', h1, h2, h3⟩)
      · refine .inl ?_
        cases L i
        · exact h
        · simp [St.app, h]
      · cases j with
        | zero =>
          simp only [List.getElem?_cons_zero, Option.some.injEq] at h1
          subst h1
          rw [Nat.add_zero] at h2
          refine .inl ?_
          rw [h2]; simp [St.app, h3]
        | succ j => exact .inr ⟨j, tr', by simpa using h1, by rwa [show i + (j + 1) = i + 1 + j by omega] at h2, h3⟩

theorem Mem.same {E : En} {g : Gh} {bl bl' : List (Nat × List AV)} {ow ow' : List Nat} {w : World} (h : Mem E g bl ow w) (hb : ∀ p, p ∈ bl ↔ p ∈ bl') (ho : ∀ n, n ∈ ow → n ∈ ow') : Mem E g bl' ow' w :=
  { h with blk := fun n cs hn => h.blk n cs ((hb _).2 hn), key := fun n b hb' => let ⟨cs, hc⟩ := h.key n b hb'; ⟨cs, (hb _).1 hc⟩, own := fun n hn => ho n (h.own n hn) }

def depRow (ops : Array Oper) (tab : List (List Nat)) (k : Nat) : List Nat :=
  match ops[k]? with
  | some o => (o.after.toList.flatMap fun e => bif Region.binds .any e then e.on :: tab.getD e.on [] else []).eraseDups
  | none => []
def depTab (ops : Array Oper) : Nat → List (List Nat)
  | 0 => []
  | k + 1 => let t := depTab ops k; t ++ [depRow ops t k]
theorem depTab_length (ops : Array Oper) : ∀ k, (depTab ops k).length = k
  | 0 => rfl
  | k + 1 => by simp [depTab, depTab_length ops k]
theorem depTab_closed {ops : Array Oper} {L : Nat → Bool} (hL : ∀ i o, ops[i]? = some o → L i = true → ∀ e ∈ o.after, Region.binds .any e = true → L e.on = true) :
    ∀ (k i : Nat), (∀ o, ops[i]? = some o → ∀ e ∈ o.after, Region.binds .any e = true → L e.on = true) → ∀ j ∈ (depTab ops k).getD i [], L j = true
  | 0, i, _, j, hj => by simp [depTab] at hj
  | k + 1, i, hi, j, hj => by
    simp only [depTab] at hj
    rcases Nat.lt_trichotomy i k with h | h | h
    · rw [List.getD_eq_getElem?_getD, List.getElem?_append_left (by rw [depTab_length]; exact h), ← List.getD_eq_getElem?_getD] at hj
      exact depTab_closed hL k i hi j hj
    · subst h
      rw [List.getD_eq_getElem?_getD, List.getElem?_append_right (by rw [depTab_length]; exact Nat.le_refl _), depTab_length, Nat.sub_self] at hj
      simp only [List.getElem?_cons_zero, Option.getD_some, depRow] at hj
      split at hj
      · rename_i o ho
        rw [List.mem_eraseDups, List.mem_flatMap] at hj
        obtain ⟨e, he, hj⟩ := hj
        cases hb : Region.binds .any e
        · rw [hb] at hj; simp at hj
        · rw [hb] at hj
          have h1 := hi o ho e (by simpa using he) hb
          simp only [cond_true, List.mem_cons] at hj
          rcases hj with rfl | hj
          · exact h1
          · exact depTab_closed hL i e.on (fun o' ho' => hL e.on o' ho' h1) j hj
      · simp at hj
    · rw [List.getD_eq_getElem?_getD, List.getElem?_eq_none (by rw [List.length_append, depTab_length]; simp; omega)] at hj
      simp at hj

def headB (ops : Array Oper) (n : Nat) : Bool :=
  let tab := depTab ops n
  Nat.ble n ops.size &&
  (List.range n).all fun i => match ops[i]? with
    | none => false
    | some o => o.after.all (fun e => bif Region.binds .any e then Nat.blt e.on i else true) &&
      (List.range n).all fun j => match ops[j]? with
        | none => false
        | some oj => match oj.dst with
          | none => true
          | some t => (bif Nat.beq i j then true else bif ((o.looksAt ops).contains t || o.dst == some t) then (bif Nat.blt j i then (tab.getD i []).contains j else (tab.getD j []).contains i) else true)
def tailB (ops : Array Oper) (n : Nat) : Bool :=
  (bif Nat.blt n ops.size then Region.sinkB .any ops n && Region.chainB .any ops n else true) &&
  Region.seqB .any ops (ops.size - n) n ((List.range ops.size).map fun i => Nat.blt i n).toArray

theorem headB_spec {ops : Array Oper} {n : Nat} (h : headB ops n = true) : n ≤ ops.size ∧
    (∀ i o, i < n → ops[i]? = some o → ∀ e ∈ o.after, Region.binds .any e = true → e.on < i) ∧
    (∀ i o j oj t, i < n → j < n → i ≠ j → ops[i]? = some o → ops[j]? = some oj → oj.dst = some t → (t ∈ o.looksAt ops ∨ o.dst = some t) → (j < i → j ∈ (depTab ops n).getD i []) ∧ (i < j → i ∈ (depTab ops n).getD j [])) := by
  simp only [headB, Bool.and_eq_true, List.all_eq_true, List.mem_range] at h
  refine ⟨Nat.le_of_ble_eq_true h.1, fun i o hi ho e he hb => ?_, fun i o j oj t hi hj hne ho hoj ht hl => ?_⟩
  · have := h.2 i hi
    rw [ho] at this
    simp only [Bool.and_eq_true, Array.all_eq_true_iff_forall_mem] at this
    have h2 := this.1 e he
    rw [hb] at h2
    exact Nat.le_of_ble_eq_true h2
  · have := h.2 i hi
    rw [ho] at this
    simp only [Bool.and_eq_true, List.all_eq_true, List.mem_range] at this
    have h2 := this.2 j hj
    rw [hoj] at h2
    simp only [ht] at h2
    have hb : Nat.beq i j = false := by
      cases h3 : Nat.beq i j
      · rfl
      · exact absurd (Nat.eq_of_beq_eq_true h3) hne
    have hc : ((o.looksAt ops).contains t || o.dst == some t) = true := by
      rcases hl with hl | hl
      · simp [hl]
      · simp [hl]
    rw [hb, hc] at h2
    simp only [cond_false, cond_true] at h2
    constructor
    · intro hji
      have h4 : Nat.blt j i = true := Nat.ble_eq_true_of_le hji
      rw [h4] at h2
      simpa using h2
    · intro hij
      have h4 : Nat.blt j i = false := by
        cases h5 : Nat.blt j i
        · rfl
        · have := Nat.le_of_ble_eq_true h5; omega
      rw [h4] at h2
      simpa using h2

def cnt : Nat → (Nat → Bool) → Nat
  | 0, _ => 0
  | n + 1, L => cnt n L + (bif L n then 0 else 1)
theorem cnt_set {L L' : Nat → Bool} {i : Nat} (hi : L i = false) (hi' : L' i = true) (hL : ∀ j, j ≠ i → L' j = L j) : ∀ n, cnt n L = cnt n L' + (if i < n then 1 else 0)
  | 0 => by simp [cnt]
  | n + 1 => by
    simp only [cnt, cnt_set hi hi' hL n]
    by_cases h : n = i
    · subst h; rw [hi, hi']; simp
    · rw [hL n h]
      by_cases h2 : i < n
      · rw [if_pos h2, if_pos (by omega)]; omega
      · rw [if_neg h2, if_neg (by omega)]; omega
theorem cnt_zero {L : Nat → Bool} : ∀ {n : Nat}, cnt n L = 0 → ∀ i, i < n → L i = true
  | 0, _, i, hi => by omega
  | n + 1, h, i, hi => by
    simp only [cnt] at h
    by_cases e : i = n
    · subst e
      cases hL : L i
      · rw [hL] at h; simp at h
      · rfl
    · exact cnt_zero (n := n) (by omega) i (by omega)
theorem cnt_pos {L : Nat → Bool} : ∀ {n : Nat}, 0 < cnt n L → ∃ i, i < n ∧ L i = false ∧ ∀ j, j < i → L j = true
  | 0, h => by simp [cnt] at h
  | n + 1, h => by
    by_cases h0 : 0 < cnt n L
    · obtain ⟨i, h1, h2, h3⟩ := cnt_pos h0
      exact ⟨i, by omega, h2, h3⟩
    · have hz : cnt n L = 0 := by omega
      simp only [cnt] at h
      refine ⟨n, by omega, ?_, cnt_zero hz⟩
      cases hL : L n
      · rfl
      · rw [hL] at h; simp at h; omega
theorem cnt_false : ∀ n, cnt n (fun _ => false) = n
  | 0 => rfl
  | n + 1 => by simp [cnt, cnt_false n]

theorem looksAt_op {ops : Array Oper} {o : Oper} {t : Nat} (h : Operand.tmp t ∈ o.op.operands) : t ∈ o.looksAt ops := by
  simp only [Oper.looksAt, List.mem_append, List.mem_filterMap]
  exact .inl ⟨.tmp t, by simpa using h, rfl⟩
theorem looksAt_guard {ops : Array Oper} {o : Oper} {j t : Nat} {b : Bool} (hg : o.guard = some (j, b)) (hj : (ops[j]?).bind (·.dst) = some t) : t ∈ o.looksAt ops := by
  simp only [Oper.looksAt, List.mem_append, hg, hj]
  exact .inr (by simp)

theorem ev_same {tm tm' : List (Nat × AV)} {x : Operand} (h : ∀ t, x = .tmp t → look tm t = look tm' t) : ev tm x = ev tm' x := by
  cases x with
  | tmp t => exact h t rfl
  | _ => rfl

theorem wpAnyV_of_seq {P : Program} {L : Lg P} {ops : Array Oper} {md : Region.Mode} {Q' : Exit → Act → CW → Prop} : ∀ (l : List Oper) (k : Nat) (listed : Array Bool) (a : Act) (w : CW), (∀ j, l[j]? = ops[k + j]?) →
    Region.seqB md ops l.length k listed = true → wpListV L ops Q' l a w → wpAnyV L md ops Q' l.length listed a w
  | [], _, _, _, _, _, hB, h => ⟨by simpa [Region.seqB] using hB, h⟩
  | o :: l, k, listed, a, w, hl, hB, h => by
    have h0 : ops[k]? = some o := by simpa using (hl 0).symm
    simp only [List.length_cons, Region.seqB, Bool.and_eq_true, decide_eq_true_eq] at hB
    obtain ⟨hB1, hB2⟩ := hB
    refine ⟨fun h1 => (by rw [hB1] at h1; cases h1), fun i hi => ?_⟩
    rw [hB1] at hi
    obtain rfl : i = k := by simpa using hi
    have key : wpOpV L ops i (wpListV L ops Q' l) a w := by unfold wpOpV; simp only [h0]; exact h
    exact wpOpV_mono (fun a' w' h' => wpAnyV_of_seq l (i + 1) _ a' w' (fun j => by have := hl (j + 1); simpa [Nat.add_assoc, Nat.add_comm 1 j] using this) hB2 h') key
theorem W_draw {E : En} {id : Nat} {l : List Oper} {Q : Exit → St → Prop} {s : St} (n : Nat) (hm : E.P.follows .mixedOrders = true) (hB : headB l.toArray n = true) (hT : tailB l.toArray n = true)
    (h : HW E l.toArray s.bl (l.take n) s (fun s' => WL E l.toArray (l.drop n) Q s')) : W E (.region id l.toArray true) Q s := by
  intro L g0 a0 w00 hi0
  obtain ⟨T, hTl, hK, hstep⟩ := HW_trace _ _ h
  obtain ⟨hn, hback, hord⟩ := headB_spec hB
  have hn' : n ≤ l.length := by simpa using hn
  have hTn : T.length = n := by rw [hTl]; simp; omega
  simp only [tailB, Bool.and_eq_true] at hT
  obtain ⟨hT1, hT2⟩ := hT
  have hopt : ∀ i, i < n → ∃ o t, l.toArray[i]? = some o ∧ (l.take n)[i]? = some o ∧ T[i]? = some t := fun i hi => by
    have h1 : i < l.length := by omega
    refine ⟨l[i], T[i]'(by omega), by simp [h1], by simp [hi, h1], by simp [hTn, hi]⟩
  have inS : ∀ (i : Nat) (t : Tr), T[i]? = some t → ∀ (j : Nat) (t' : Tr), j < i → T[j]? = some t' → ∀ q ∈ t'.nb, q ∈ (stS (fun j => decide (j < i)) T 0 s).bl := fun i t _ j t' hj ht' q hq => (mem_bl_stS T 0 s).2 (.inr ⟨j, t', ht', by simpa using hj, hq⟩)
  have inS0 : ∀ (i : Nat) q, q ∈ s.bl → q ∈ (stS (fun j => decide (j < i)) T 0 s).bl := fun i q hq => (mem_bl_stS T 0 s).2 (.inl hq)
  have inO : ∀ (i : Nat) (t : Tr), T[i]? = some t → ∀ (j : Nat) (t' : Tr), j < i → T[j]? = some t' → ∀ k ∈ t'.no, k ∈ (stS (fun j => decide (j < i)) T 0 s).ow := fun i t _ j t' hj ht' k hk => (mem_ow_stS T 0 s).2 (.inr ⟨j, t', ht', by simpa using hj, hk⟩)
  let Lf : Array Bool → Nat → Bool := fun listed i => listed.getD i false
  have tailNot : ∀ listed, HeadInv .any l.toArray n listed → 0 < cnt n (Lf listed) → ∀ i ∈ Region.ready .any l.toArray listed, i < n := by
    intro listed inv hc i hi
    rcases Nat.lt_or_ge i n with h1 | h1
    · exact h1
    · exfalso
      have hlt : i < l.toArray.size := by
        obtain ⟨_, o, ho, _⟩ := mem_ready.1 hi
        exact (Array.getElem?_eq_some_iff.1 ho).1
      have hns : n < l.toArray.size := by omega
      have hb : Nat.blt n l.toArray.size = true := Nat.ble_eq_true_of_le hns
      rw [hb] at hT1
      simp only [cond_true, Bool.and_eq_true] at hT1
      obtain ⟨k, hk1, hk2, _⟩ := cnt_pos hc
      have hk3 : listed.getD k true = false := getD_in (by rw [inv.size]; omega) hk2
      exact tail_waits hT1.1 hT1.2 hns inv _ k rfl hk1 hk3 i h1 hi
  have progress : ∀ listed, HeadInv .any l.toArray n listed → 0 < cnt n (Lf listed) → Region.ready .any l.toArray listed ≠ [] := by
    intro listed inv hc he
    obtain ⟨k, hk1, hk2, hk3⟩ := cnt_pos hc
    have : k ∈ Region.ready .any l.toArray listed := by
      obtain ⟨o, t, h1, _, _⟩ := hopt k hk1
      exact mem_ready.2 ⟨getD_in (by rw [inv.size]; omega) hk2, o, h1, fun e he hb => hk3 _ (hback k o hk1 h1 e he hb)⟩
    rw [he] at this
    cases this
  have main : ∀ (f : Nat) (listed : Array Bool) (g : Gh) (a : Act) (w : CW), cnt n (Lf listed) = f → HeadInv .any l.toArray n listed → Inv E g (stS (Lf listed) T 0 s) a w → wpAnyV L .any l.toArray (post E Q) (f + (l.toArray.size - n)) listed a w := by
    intro f
    induction f with
    | zero =>
      intro listed g a w hc inv hinv
      have hall := cnt_zero hc
      have hst : stS (Lf listed) T 0 s = stS (fun _ => true) T 0 s := by
        have : ∀ (T : List Tr) (i : Nat) (s : St), (∀ j, j < T.length → Lf listed (i + j) = true) → stS (Lf listed) T i s = stS (fun _ => true) T i s := by
          intro T
          induction T with
          | nil => intro i s _; rfl
          | cons t T ih =>
            intro i s hL
            simp only [stS]
            rw [show Lf listed i = true by simpa using hL 0 (by simp)]
            exact ih (i + 1) _ fun j hj => by have := hL (j + 1) (by simp; omega); rwa [show i + (j + 1) = i + 1 + j by omega] at this
        exact this T 0 s fun j hj => by rw [Nat.zero_add]; exact hall j (by omega)
      rw [hst] at hinv
      have hli : listed = ((List.range l.toArray.size).map fun i => Nat.blt i n).toArray := by
        apply Array.ext
        · simp [inv.size]
        · intro i h1 h2
          have h3 : i < l.toArray.size := by rw [← inv.size]; exact h1
          simp only [List.getElem_toArray, List.getElem_map, List.getElem_range]
          rcases Nat.lt_or_ge i n with h4 | h4
          · have h5 := hall i h4
            simp only [Lf, Array.getD_eq_getD_getElem?, Array.getElem?_eq_getElem h1, Option.getD_some] at h5
            rw [h5]
            exact (Nat.ble_eq_true_of_le h4).symm
          · have h5 := inv.tail i h4 h3
            simp only [Array.getD_eq_getD_getElem?, Array.getElem?_eq_getElem h1, Option.getD_some] at h5
            rw [h5]
            cases h6 : Nat.blt i n
            · rfl
            · have := Nat.le_of_ble_eq_true h6; omega
      have hdl : (l.drop n).length = l.toArray.size - n := by simp
      have := wpAnyV_of_seq (L := L) (md := .any) (Q' := post E Q) (l.drop n) n listed a w (fun j => by simp [List.getElem?_drop]) (by rw [hdl, hli]; exact hT2) (hK L g a w hinv)
      rw [hdl] at this
      rw [Nat.zero_add]; exact this
    | succ f ih =>
      intro listed g a w hc inv hinv
      rw [show f + 1 + (l.toArray.size - n) = (f + (l.toArray.size - n)) + 1 by omega]
      have hpos : 0 < cnt n (Lf listed) := by omega
      refine ⟨fun he => absurd he (progress listed inv hpos), fun i hi => ?_⟩
      have hin := tailNot listed inv hpos i hi
      obtain ⟨o, t, ho, ho', ht⟩ := hopt i hin
      obtain ⟨hun, o2, ho2, hdeps⟩ := mem_ready.1 hi
      have : o2 = o := Option.some.inj (ho2.symm.trans ho)
      subst this
      have hLi : Lf listed i = false := getD_both hun
      obtain ⟨⟨hd, hdst, hrun⟩, hnew⟩ := hstep i o2 t ho' ht
      have closed : ∀ k ok, l.toArray[k]? = some ok → Lf listed k = true → ∀ e ∈ ok.after, Region.binds .any e = true → Lf listed e.on = true := fun k ok hk hl e he hb => inv.closed k ok hk hl e he hb
      have depI : ∀ j ∈ (depTab l.toArray n).getD i [], Lf listed j = true := depTab_closed closed n i fun o' ho' e he hb => by
        have : o' = o2 := Option.some.inj (ho'.symm.trans ho)
        subst this
        exact hdeps e he hb
      have depJ : ∀ j, i ∈ (depTab l.toArray n).getD j [] → Lf listed j = false := fun j hj => by
        cases hLj : Lf listed j
        · rfl
        · have := depTab_closed closed n j (fun o' ho' => closed j o' ho' hLj) i hj
          rw [hLi] at this; cases this
      have hTd : ∀ j tr, T[j]? = some tr → j < n ∧ ∃ oj, l.toArray[j]? = some oj ∧ tr.d = oj.dst := fun j tr hj => by
        have hjn : j < n := by rw [← hTn]; exact (List.getElem?_eq_some_iff.1 hj).1
        obtain ⟨oj, t', h1, h2, h3⟩ := hopt j hjn
        exact ⟨hjn, oj, h1, (hstep j oj tr h2 hj).1.d⟩
      have sameLook : ∀ u, u ∈ o2.looksAt l.toArray → look (stS (Lf listed) T 0 s).tm u = look (stS (fun j => decide (j < i)) T 0 s).tm u := fun u hu =>
        look_stS T 0 s s rfl fun j tr hj hdu => by
          rw [Nat.zero_add]
          obtain ⟨hjn, oj, hoj, hjd⟩ := hTd j tr hj
          rcases Nat.lt_trichotomy j i with h1 | h1 | h1
          · rw [decide_eq_true h1]
            exact depI j ((hord i o2 j oj u hin hjn (by omega) ho hoj (hjd ▸ hdu) (.inl hu)).1 h1)
          · subst h1; rw [hLi]; simp
          · rw [decide_eq_false (by omega)]
            exact depJ j ((hord i o2 j oj u hin hjn (by omega) ho hoj (hjd ▸ hdu) (.inl hu)).2 h1)
      have hLset : ∀ j, Lf (listed.setIfInBounds i true) j = (decide (j = i) || Lf listed j) := fun j => by
        by_cases e : j = i
        · subst e
          have hlt : j < listed.size := by rw [inv.size]; exact (Array.getElem?_eq_some_iff.1 ho).1
          simp [Lf, hlt]
        · simp only [e, decide_false, Bool.false_or, Lf]
          exact getD_set_ne false (Ne.symm e)
      have hcnt : cnt n (Lf (listed.setIfInBounds i true)) = f := by
        have := cnt_set (L := Lf listed) (L' := Lf (listed.setIfInBounds i true)) (i := i) hLi (by rw [hLset]; simp) (fun j hj => by rw [hLset]; simp [hj]) n
        rw [if_pos hin] at this
        omega
      -- what holds behind the step
      have next : ∀ (g' : Gh) (a' : Act) (w' : CW), Inv E g' ((stS (Lf listed) T 0 s).app t.d t.v t.nb t.no) a' w' → wpAnyV L .any l.toArray (post E Q) (f + (l.toArray.size - n)) (listed.setIfInBounds i true) a' w' := by
        intro g' a' w' hinv'
        refine ih _ g' a' w' hcnt (inv.set hi hin) ⟨⟨hinv'.mem.mem.same (fun p => ?_) (fun k hk => ?_), hinv'.mem.vis⟩, fun u => ?_, hinv'.de, hinv'.sz⟩
        · simp only [St.app, List.mem_append, mem_bl_stS, hLset, Nat.zero_add]
          constructor
          · rintro (hp | hp | ⟨j, tr, h1, h2, h3⟩)
            · exact .inr ⟨i, t, ht, by simp, hp⟩
            · exact .inl hp
            · exact .inr ⟨j, tr, h1, by simp [h2], h3⟩
          · rintro (hp | ⟨j, tr, h1, h2, h3⟩)
            · exact .inr (.inl hp)
            · by_cases e : j = i
              · subst e
                rw [ht] at h1; cases h1; exact .inl h3
              · exact .inr (.inr ⟨j, tr, h1, by simpa [e] using h2, h3⟩)
        · simp only [St.app, List.mem_append, mem_ow_stS, hLset, Nat.zero_add] at hk ⊢
          rcases hk with hp | hp | ⟨j, tr, h1, h2, h3⟩
          · exact .inr ⟨i, t, ht, by simp, hp⟩
          · exact .inl hp
          · exact .inr ⟨j, tr, h1, by simp [h2], h3⟩
        · have hu := hinv'.tm u
          have heq : look (stS (Lf (listed.setIfInBounds i true)) T 0 s).tm u = look ((stS (Lf listed) T 0 s).app t.d t.v t.nb t.no).tm u := by
            by_cases hdu : t.d = some u
            · have h1 : look ((stS (Lf listed) T 0 s).app t.d t.v t.nb t.no).tm u = t.v := by simp [St.app, hdu, look]
              rw [h1]
              refine look_last T 0 i s t ht hdu rfl (by rw [Nat.zero_add, hLset]; simp) fun j tr hj hij hdj => ?_
              rw [Nat.zero_add, hLset]
              obtain ⟨hjn, oj, hoj, hjd⟩ := hTd j tr hj
              have := depJ j ((hord i o2 j oj u hin hjn (by omega) ho hoj (hjd ▸ hdj) (.inr (hd ▸ hdu))).2 hij)
              rw [this]
              simp; omega
            · have h1 : look ((stS (Lf listed) T 0 s).app t.d t.v t.nb t.no).tm u = look (stS (Lf listed) T 0 s).tm u := by
                simp only [St.app]
                cases hdd : t.d with
                | none => rfl
                | some k =>
                  have : k ≠ u := fun e => hdu (by rw [hdd, e])
                  simp only [look]
                  cases hb : Nat.beq k u
                  · rfl
                  · exact absurd (Nat.eq_of_beq_eq_true hb) this
              rw [h1]
              refine look_stS T 0 s s rfl fun j tr hj hdj => ?_
              rw [Nat.zero_add, hLset]
              have : j ≠ i := fun e => by subst e; rw [ht] at hj; cases hj; exact hdu hdj
              simp [this]
          rw [heq]; exact hu
      have hdst' : ∀ k, t.d = some k → k < E.nt := fun k hk => dstB_spec hdst k (hd ▸ hk)
      unfold wpOpV
      simp only [ho]
      have hguard : ∀ {j d b}, o2.guard = some (j, b) → (l.toArray[j]?).bind (·.dst) = some d → ∀ c, look (stS (fun j => decide (j < i)) T 0 s).tm d = .v (.bool c) → yielded l.toArray a.tmps j = some c := fun {j d b} hg hj c hc' => by
        have h1 := hinv.tm d
        rw [sameLook d (looksAt_guard hg hj), hc'] at h1
        simp only [rep] at h1
        exact yielded_of hj h1
      have oth : ∀ j tr, T[j]? = some tr → Lf listed j = true → j ≠ i := fun j tr _ hL e => by subst e; rw [hLi] at hL; cases hL
      have operandsOk : ∀ x ∈ o2.op.operands, rep g w.w (ev (stS (fun j => decide (j < i)) T 0 s).tm x) (a.eval x) := fun x hx => by
        have := rep_ev hinv.tm x
        rwa [ev_same (tm' := (stS (fun j => decide (j < i)) T 0 s).tm) fun u hu => by subst hu; exact sameLook u (looksAt_op hx)] at this
      rcases hrun with ⟨hq, ⟨hf, hnm⟩, hg⟩ | ⟨hv, hnb, hno, j, dd, b, hg, hj, hb⟩ | ⟨n0, cs0, hqi, hv, hnb, hno⟩ | ⟨hv, hnb, hno, j, dd, b, hg, hj, hb⟩
      · have hw : Region.wanted o2 (yielded l.toArray a.tmps) = true := by
          rcases hg with hg | ⟨j, dd, b, hg, hj, hb⟩
          · simp [Region.wanted, hg]
          · simp [Region.wanted, hg, hguard hg hj b hb]
        rw [hw]
        rw [if_pos rfl]
        have hfresh : (∀ p ∈ t.nb, ∀ q ∈ (stS (Lf listed) T 0 s).bl, p.1 ≠ q.1) ∧ ∀ k ∈ t.no, k ∉ (stS (Lf listed) T 0 s).ow := by
          obtain ⟨f1, f2⟩ := freshB_spec hf
          · refine ⟨fun p hp q hq' => ?_, fun k hk hk' => ?_⟩
            · rcases (mem_bl_stS T 0 s).1 hq' with hq' | ⟨j, tr, h1, h2, h3⟩
              · exact f1 p hp q (inS0 i q hq')
              · rw [Nat.zero_add] at h2
                rcases Nat.lt_trichotomy j i with h4 | h4 | h4
                · exact f1 p hp q (inS i t ht j tr h4 h1 q h3)
                · exact absurd h4 (oth j tr h1 h2)
                · obtain ⟨hjn, oj, hoj, hjd⟩ := hTd j tr h1
                  obtain ⟨oj', t', k1, k2, k3⟩ := hopt j hjn
                  have : oj' = oj := Option.some.inj (k1.symm.trans hoj)
                  subst this
                  rcases (hstep j oj' tr k2 h1).2 with ⟨hf', _⟩ | ⟨n2, cs2, e3, _, _, hop2, _⟩
                  · exact fun e => (freshB_spec hf').1 q h3 p (inS j tr h1 i t h4 ht p hp) e.symm
                  · intro e
                    rw [e3] at h3
                    simp only [List.mem_singleton] at h3
                    have e5 : o2.dst = some n2 := by rw [hnm p hp, e, h3]
                    have := depJ j ((hord j oj' i o2 n2 hjn hin (by omega) hoj ho e5 (.inl (looksAt_op hop2))).1 h4)
                    rw [h2] at this; cases this
            · rcases (mem_ow_stS T 0 s).1 hk' with hk' | ⟨j, tr, h1, h2, h3⟩
              · exact f2 k hk ((mem_ow_stS T 0 s).2 (.inl hk'))
              · rw [Nat.zero_add] at h2
                rcases Nat.lt_trichotomy j i with h4 | h4 | h4
                · exact f2 k hk (inO i t ht j tr h4 h1 k h3)
                · exact absurd h4 (oth j tr h1 h2)
                · obtain ⟨hjn, oj, hoj, hjd⟩ := hTd j tr h1
                  obtain ⟨oj', t', k1, k2, k3⟩ := hopt j hjn
                  rcases (hstep j oj' tr k2 h1).2 with ⟨hf', _⟩ | ⟨n2, cs2, e3, e4, _, hop2, _⟩
                  · exact (freshB_spec hf').2 k h3 (inO j tr h1 i t h4 ht k hk)
                  · rw [e4] at h3; simp at h3
        refine (hq L g a.eval (stS (Lf listed) T 0 s).bl (stS (Lf listed) T 0 s).ow w hinv.mem (fun p hp => (mem_bl_stS T 0 s).2 (.inl hp)) hfresh.1 hfresh.2 operandsOk).mono fun y w' hKy => ?_
        obtain ⟨g', h1, h2, h3⟩ := hKy
        have := hinv.app (d := t.d) hdst' h1 h2 h3
        rw [hd] at this
        exact next g' _ w' (by rw [hd]; exact this)
      · have hw : Region.wanted o2 (yielded l.toArray a.tmps) = false := by
          simp [Region.wanted, hg, hguard hg hj b hb]
        rw [hw]
        have := hinv.app (d := t.d) (v := t.v) (y := undef) (nb := t.nb) (no := t.no) hdst' (Goes.refl g _) (by rw [hnb, hno]; exact hinv.mem) (by rw [hv]; simp [rep])
        rw [hd] at this
        exact next g _ w (by rw [hd]; exact this)
      · have hw : Region.wanted o2 (yielded l.toArray a.tmps) = true := by simp [Region.wanted, hqi.2.1]
        rw [hw]
        rw [if_pos rfl]
        have hin0 : initB n0 cs0.length (stS (fun j => decide (j < i)) T 0 s).bl = true := by
          rcases hnew with ⟨hf, hnm⟩ | ⟨n1, cs1, e1, _, _, _, hin1⟩
          · have := hnm (n0, cs0) (by rw [hnb]; simp)
            rw [hqi.1] at this; cases this
          · rw [hnb] at e1
            simp only [List.cons.injEq, Prod.mk.injEq, and_true] at e1
            obtain ⟨rfl, rfl⟩ := e1
            exact hin1
        obtain ⟨⟨c0, hc0⟩, hall0⟩ := initB_spec hin0
        have hopt0 : n0 ∈ o2.looksAt l.toArray := looksAt_op hqi.2.2.1
        have hnt : ∀ c : List AV, c.all (fun x => !isTop x) = true → c ≠ [] → c.all isTop = true → False := by
          intro c h1 h2 h3
          cases c with
          | nil => exact h2 rfl
          | cons x c =>
            simp only [List.all_cons, Bool.and_eq_true, Bool.not_eq_true'] at h1 h3
            rw [h3.1] at h1; cases h1.1
        refine (hqi.2.2.2.2 L g a.eval (stS (Lf listed) T 0 s).bl (stS (Lf listed) T 0 s).ow w hinv.mem ⟨c0, ?_⟩ (fun c hc => ?_) operandsOk).mono fun y w' hKy => ?_
        · rcases (mem_bl_stS T 0 s).1 hc0 with h1 | ⟨j, tr, h1, h2, h3⟩
          · exact (mem_bl_stS T 0 s).2 (.inl h1)
          · rw [Nat.zero_add] at h2
            have hji : j < i := of_decide_eq_true h2
            refine (mem_bl_stS T 0 s).2 (.inr ⟨j, tr, h1, ?_, h3⟩)
            rw [Nat.zero_add]
            obtain ⟨hjn, oj, hoj, hjd⟩ := hTd j tr h1
            obtain ⟨oj', t', k1, k2, k3⟩ := hopt j hjn
            have : oj' = oj := Option.some.inj (k1.symm.trans hoj)
            subst this
            rcases (hstep j oj' tr k2 h1).2 with ⟨_, hnm'⟩ | ⟨n2, cs2, e3, _, hnt2, _, _⟩
            · exact depI j ((hord i o2 j oj' n0 hin hjn (by omega) ho hoj (hnm' _ h3) (.inl hopt0)).1 hji)
            · rw [e3] at h3
              simp only [List.mem_singleton, Prod.mk.injEq] at h3
              obtain ⟨rfl, rfl⟩ := h3
              exact (hnt _ hnt2.1 hnt2.2 (hall0 _ hc0).2).elim
        · rcases (mem_bl_stS T 0 s).1 hc with h1 | ⟨j, tr, h1, h2, h3⟩
          · exact hall0 c (inS0 i _ h1)
          · rw [Nat.zero_add] at h2
            rcases Nat.lt_trichotomy j i with h4 | h4 | h4
            · exact hall0 c (inS i t ht j tr h4 h1 _ h3)
            · exact absurd h4 (oth j tr h1 h2)
            · obtain ⟨hjn, oj, hoj, hjd⟩ := hTd j tr h1
              obtain ⟨oj', t', k1, k2, k3⟩ := hopt j hjn
              rcases (hstep j oj' tr k2 h1).2 with ⟨hf', _⟩ | ⟨n2, cs2, e3, _, _, _, hin2⟩
              · exact absurd rfl ((freshB_spec hf').1 _ h3 (n0, cs0) (inS j tr h1 i t h4 ht _ (by rw [hnb]; simp)))
              · rw [e3] at h3
                simp only [List.mem_singleton, Prod.mk.injEq] at h3
                obtain ⟨rfl, rfl⟩ := h3
                have := (initB_spec hin2).2 cs0 (inS j tr h1 i t h4 ht _ (by rw [hnb]; simp))
                exact (hnt _ hqi.2.2.2.1.1 hqi.2.2.2.1.2 this.2).elim
        · obtain ⟨hy, g', h1, h2⟩ := hKy
          have := hinv.app (d := t.d) (v := t.v) (y := y) (nb := t.nb) (no := t.no) hdst' h1 (by rw [hnb, hno]; exact h2) (by
            have hdn : t.d = none := hd.trans hqi.1
            rw [hv, hy]; simp [rep])
          rw [hd] at this
          exact next g' _ w' (by rw [hd]; exact this)
      · have hw : Region.wanted o2 (yielded l.toArray a.tmps) = false := by
          have h1 := hinv.tm dd
          rw [sameLook dd (looksAt_guard hg hj), hb] at h1
          simp only [rep] at h1
          simp [Region.wanted, hg, yielded_un hj h1]
        rw [hw]
        have := hinv.app (d := t.d) (v := t.v) (y := undef) (nb := t.nb) (no := t.no) hdst' (Goes.refl g _) (by rw [hnb, hno]; exact hinv.mem) (by rw [hv]; simp [rep])
        rw [hd] at this
        exact next g _ w (by rw [hd]; exact this)
  refine wpV_region_any hm fun w₁ rw₁ => ?_
  have inv0 : HeadInv .any l.toArray n (Array.replicate l.toArray.size false) :=
    ⟨by simp, fun j oj _ hl => (by rw [getD_replicate_false] at hl; cases hl), fun t _ ht => getD_in (by simpa using ht) (getD_replicate_false _ _)⟩
  have hL0 : Lf (Array.replicate l.toArray.size false) = fun _ => false := by funext i; exact getD_replicate_false _ _
  have := main n (Array.replicate l.toArray.size false) g0 a0 ⟨w00.V, { w₁ with drawn := w₁.drawn + 1 }⟩ (by rw [hL0]; exact cnt_false n) inv0 ?_
  · rwa [show n + (l.toArray.size - n) = l.toArray.size by omega] at this
  · rw [hL0]
    have zero : ∀ (T : List Tr) (i : Nat) (s : St), stS (fun _ => false) T i s = s := by
      intro T
      induction T with
      | nil => intro i s; rfl
      | cons t T ih => intro i s; simp only [stS, cond_false]; exact ih _ s
    rw [zero]
    exact (hi0.rely rw₁).drew
end Go.Eng

namespace Go.Eng
open Go Go.Conc

def thenW (E : En) (y : Code) (Q : Exit → St → Prop) : Exit → St → Prop
  | .normal, s => W E y Q s
  | e, s => Q e s
theorem W_seq {E : En} {x y : Code} {Q : Exit → St → Prop} {s : St} (h : W E x (thenW E y Q) s) : W E (.seq x y) Q s := fun L g a w hi =>
  wpV_seq (wpV_mono (h L g a w hi) fun e a' w' hq => by
    obtain ⟨g', s', h1, h2⟩ := hq
    cases e with
    | normal => exact h1 L g' a' w' h2
    | _ => exact ⟨g', s', h1, h2⟩)
theorem W_skip {E : En} {Q : Exit → St → Prop} {s : St} (h : Q .normal s) : W E .skip Q s := fun _ g _ _ hi => wpV_skip ⟨g, s, h, hi⟩
theorem W_ret {E : En} {Q : Exit → St → Prop} {s : St} (h : Q .ret s) : W E .ret Q s := fun _ g _ _ hi => wpV_ret ⟨g, s, h, hi⟩
theorem W_exit {E : En} {Q : Exit → St → Prop} {s : St} {id : Nat} (h : Q (.exit id) s) : W E (.exit id) Q s := fun _ g _ _ hi => wpV_exit ⟨g, s, h, hi⟩
theorem W_label {E : En} {Q : Exit → St → Prop} {s : St} {id : Nat} (h : Q .normal s) : W E (.label id) Q s := fun _ g _ _ hi => wpV_label ⟨g, s, h, hi⟩
theorem W_cond {E : En} {Q : Exit → St → Prop} {s : St} {c : Operand} {x y : Code} {b : Bool} (hc : ev s.tm c = .v (.bool b)) (ht : b = true → W E x Q s) (hf : b = false → W E y Q s) : W E (.cond c x y) Q s := fun L g a w hi => by
  have h1 := rep_ev hi.tm c
  rw [hc] at h1
  simp only [rep] at h1
  exact wpV_cond_split h1 (fun h => ht h L g a w hi) (fun h => hf h L g a w hi)
def inBlk (id : Nat) (Q : Exit → St → Prop) : Exit → St → Prop
  | .exit i, s => bif Nat.beq i id then Q .normal s else Q (.exit i) s
  | e, s => Q e s
theorem W_block {E : En} {Q : Exit → St → Prop} {s : St} {id : Nat} {c : Code} (h : W E c (inBlk id Q) s) : W E (.block id c) Q s := fun L g a w hi =>
  wpV_block (wpV_mono (h L g a w hi) fun e a' w' hq => by
    obtain ⟨g', s', h1, h2⟩ := hq
    cases e with
    | exit i =>
      simp only [inBlkX]
      simp only [inBlk] at h1
      by_cases hid : i = id
      · subst hid
        rw [if_pos rfl]
        simp only [Nat.beq_refl, cond_true] at h1
        exact ⟨g', s', h1, h2⟩
      · rw [if_neg hid]
        have : Nat.beq i id = false := by
          cases hb : Nat.beq i id
          · rfl
          · exact absurd (Nat.eq_of_beq_eq_true hb) hid
        rw [this] at h1
        exact ⟨g', s', h1, h2⟩
    | _ => exact ⟨g', s', h1, h2⟩)

inductive Le (os0 : List Nat) : AV → AV → Prop where
  | refl {x : AV} : Le os0 x x
  | eq {x y : AV} (h : x = y) : Le os0 x y
  | top {x : AV} : Le os0 x .top
  | nilOwn {n T e : Nat} (h : os0.any (Nat.beq n) = false) : Le os0 (.v (.slice none 0 0)) (.own n T e [])
  | nilSl {e : Nat} : Le os0 (.v (.slice none 0 0)) (.sl e [])
  | ownSl {n T e : Nat} {rows : List (List AV)} : Le os0 (.own n T e rows) (.sl e rows)
inductive Les (os0 : List Nat) : List AV → List AV → Prop where
  | nil : Les os0 [] []
  | cons {x y : AV} {xs ys : List AV} (h : Le os0 x y) (hs : Les os0 xs ys) : Les os0 (x :: xs) (y :: ys)
theorem Les.refl {os0 : List Nat} : ∀ (xs : List AV), Les os0 xs xs
  | [] => .nil
  | _ :: xs => .cons .refl (Les.refl xs)

def Pick (os0 : List Nat) (tm : List (Nat × AV)) : List (Nat × AV) → Prop
  | [] => True
  | (t, v) :: r => Le os0 (look tm t) v ∧ Pick os0 tm r
def PickB (os0 : List Nat) (bl : List (Nat × List AV)) : List (Nat × List AV) → Prop
  | [] => True
  | (n, cs) :: r => (∃ cs0, lookB bl n = some cs0 ∧ Les os0 cs0 cs) ∧ PickB os0 bl r

mutual
def refs (ks os : List Nat) : AV → Bool
  | .top => true
  | .v _ => true
  | .agg cs => refsL ks os cs
  | .tup cs => refsL ks os cs
  | .sl .. => true
  | .own n _ _ _ => os.any (Nat.beq n)
  | .ptr n _ => ks.any (Nat.beq n)
  | .eptr _ => true
  | .fn _ fs cs => refsL ks os fs && refsL ks os cs
  | .arr n _ _ _ => ks.any (Nat.beq n)
def refsL (ks os : List Nat) : List AV → Bool
  | [] => true
  | x :: xs => refs ks os x && refsL ks os xs
end
theorem any_beq {l : List Nat} {n : Nat} (h : l.any (Nat.beq n) = true) : n ∈ l := by
  obtain ⟨k, hk, hb⟩ := List.any_eq_true.1 h
  rw [Nat.eq_of_beq_eq_true hb]; exact hk

section
variable {g g' : Gh} {w : World} {ks os : List Nat}
mutual
theorem rep_refs (hI : g'.I = g.I) (hm : ∀ n b, n ∈ ks → g.m n = some b → g'.m n = some b) (ht : g'.mt = g.mt) (ho : ∀ n, n ∈ os → g.ow n → g'.ow n ∧ g'.om n = g.om n) : ∀ {x : AV} {y : Value}, refs ks os x = true → rep g w x y → rep g' w x y
  | .top, _, _, _ => by simp [rep]
  | .v x, y, _, h => by simpa [rep] using h
  | .agg cs, y, hr, h => by
    simp only [rep, refs] at h hr ⊢
    obtain ⟨a, e, h⟩ := h
    exact ⟨a, e, reps_refs hI hm ht ho hr h⟩
  | .tup cs, y, hr, h => by
    simp only [rep, refs] at h hr ⊢
    obtain ⟨a, e, h⟩ := h
    exact ⟨a, e, reps_refs hI hm ht ho hr h⟩
  | .sl e rows, y, _, h => by
    simp only [rep] at h ⊢
    rw [hI]; exact h
  | .own n T e rows, y, hr, h => by
    simp only [rep, refs] at h hr ⊢
    obtain ⟨h1, h2, xs, h3, h4, h5, h6⟩ := h
    obtain ⟨k1, k2⟩ := ho n (any_beq hr) h1
    exact ⟨k1, h2.trans k2.symm, xs, h3, by rw [hI]; exact h4, h5, by rw [k2, hI]; exact h6⟩
  | .ptr n off, y, hr, h => by
    simp only [rep, refs] at h hr ⊢
    obtain ⟨b, h1, h2⟩ := h
    exact ⟨b, hm n b (any_beq hr) h1, h2⟩
  | .eptr cs, y, _, h => by
    simp only [rep] at h ⊢
    rw [hI]; exact h
  | .fn f fs cs, y, hr, h => by
    simp only [rep, refs, Bool.and_eq_true] at h hr ⊢
    obtain ⟨a, b, h1, h2, h3⟩ := h
    exact ⟨a, b, h1, reps_refs hI hm ht ho hr.1 h2, reps_refs hI hm ht ho hr.2 h3⟩
  | .arr n T e len, y, hr, h => by
    simp only [rep, refs] at h hr ⊢
    obtain ⟨b, c, h1, h2, h3⟩ := h
    exact ⟨b, c, hm n b (any_beq hr) h1, by rw [ht]; exact h2, h3⟩
theorem reps_refs (hI : g'.I = g.I) (hm : ∀ n b, n ∈ ks → g.m n = some b → g'.m n = some b) (ht : g'.mt = g.mt) (ho : ∀ n, n ∈ os → g.ow n → g'.ow n ∧ g'.om n = g.om n) : ∀ {xs : List AV} {ys : List Value}, refsL ks os xs = true → reps g w xs ys → reps g' w xs ys
  | [], ys, _, h => by simpa [reps] using h
  | x :: xs, ys, hr, h => by
    simp only [reps, refsL, Bool.and_eq_true] at h hr ⊢
    obtain ⟨y, zs, e, h1, h2⟩ := h
    exact ⟨y, zs, e, rep_refs hI hm ht ho hr.1 h1, reps_refs hI hm ht ho hr.2 h2⟩
end
end

def Weak (E : En) (s s' : St) : Prop := ∀ g a w, Inv E g s a w → ∃ g', Inv E g' s' a w

def RefsB (ks os : List Nat) : List (Nat × List AV) → Prop
  | [] => True
  | (_, cs) :: r => refsL ks os cs = true ∧ RefsB ks os r
theorem refsB_mem {ks os : List Nat} : ∀ {bl : List (Nat × List AV)}, RefsB ks os bl → ∀ p ∈ bl, refsL ks os p.2 = true
  | [], _, p, hp => by simp at hp
  | (k, cs) :: r, h, p, hp => by
    simp only [RefsB] at h
    rcases List.mem_cons.1 hp with rfl | hp
    · exact h.1
    · exact refsB_mem h.2 p hp
theorem refsL_append {ks os : List Nat} : ∀ {xs ys : List AV}, refsL ks os xs = true → refsL ks os ys = true → refsL ks os (xs ++ ys) = true
  | [], ys, _, h => by simpa using h
  | x :: xs, ys, h, h' => by
    simp only [refsL, Bool.and_eq_true] at h
    simp only [List.cons_append, refsL, Bool.and_eq_true]
    exact ⟨h.1, refsL_append h.2 h'⟩
theorem refsL_flat {ks os : List Nat} : ∀ {rows : List (List AV)}, (∀ r ∈ rows, refsL ks os r = true) → refsL ks os rows.flatten = true
  | [], _ => by simp [refsL]
  | r :: rows, h => by
    rw [List.flatten_cons]
    exact refsL_append (h r (by simp)) (refsL_flat fun r' hr => h r' (by simp [hr]))
theorem refs_map {α : Type} {ks os : List Nat} {f : α → List AV} {l : List α} (hf : ∀ p, refsL ks os (f p) = true) : refsL ks os (l.map f).flatten = true := refsL_flat fun r hr => by
  obtain ⟨p, _, rfl⟩ := List.mem_map.1 hr
  exact hf p
theorem refs_fill {α : Type} {ks os : List Nat} {f : α → List AV} {l : List α} {m : Nat} {z : List AV} (hf : ∀ p, refsL ks os (f p) = true) (hz : refsL ks os z = true) : refsL ks os (l.map f ++ List.replicate m z).flatten = true := refsL_flat fun r hr => by
  rcases List.mem_append.1 hr with h | h
  · obtain ⟨p, _, rfl⟩ := List.mem_map.1 h; exact hf p
  · rw [List.eq_of_mem_replicate h]; exact hz
theorem look_mem : ∀ {tm : List (Nat × AV)} {t : Nat}, look tm t = .top ∨ look tm t ∈ tm.map (·.2)
  | [], _ => .inl rfl
  | (k, v) :: r, t => by
    simp only [look]
    cases Nat.beq k t
    · rcases look_mem (tm := r) (t := t) with h | h
      · exact .inl h
      · exact .inr (by simp only [cond_false, List.map_cons]; exact List.mem_cons_of_mem _ h)
    · exact .inr (by simp)
theorem refsL_mem {ks os : List Nat} : ∀ {xs : List AV} {x : AV}, refsL ks os xs = true → x ∈ xs → refs ks os x = true
  | [], x, _, h => by simp at h
  | y :: xs, x, h, hm => by
    simp only [refsL, Bool.and_eq_true] at h
    rcases List.mem_cons.1 hm with rfl | hm
    · exact h.1
    · exact refsL_mem h.2 hm
theorem pick_look {os0 : List Nat} {tm : List (Nat × AV)} : ∀ {l : List (Nat × AV)} {t : Nat}, Pick os0 tm l → look l t = .top ∨ Le os0 (look tm t) (look l t)
  | [], t, _ => .inl rfl
  | (k, v) :: r, t, h => by
    simp only [Pick] at h
    simp only [look]
    cases hb : Nat.beq k t
    · exact pick_look h.2
    · have := Nat.eq_of_beq_eq_true hb
      subst this
      exact .inr h.1
theorem rep_le {g g' : Gh} {w : World} {ks os os0 : List Nat} (hI : g'.I = g.I) (hm : ∀ n b, n ∈ ks → g.m n = some b → g'.m n = some b) (ht : g'.mt = g.mt) (ho : ∀ n, n ∈ os → g.ow n → g'.ow n ∧ g'.om n = g.om n)
    (hn : ∀ n, n ∈ os → n ∉ os0 → g'.ow n ∧ g'.om n = none) {x v : AV} {y : Value} (hl : Le os0 x v) (hr : refs ks os v = true) (h : rep g w x y) : rep g' w v y := by
  cases hl with
  | refl => exact rep_refs hI hm ht ho hr h
  | eq e => subst e; exact rep_refs hI hm ht ho hr h
  | top => simp [rep]
  | nilOwn hnew =>
    rename_i n T e
    simp only [rep] at h ⊢
    subst h
    simp only [refs] at hr
    obtain ⟨k1, k2⟩ := hn n (any_beq hr) (fun hm => by rw [List.any_eq_true.2 ⟨n, hm, by simp⟩] at hnew; cases hnew)
    exact ⟨k1, by rw [k2]; rfl, [], ⟨by simp, .inl ⟨rfl, rfl⟩⟩, by simp [dreps], by simp, fun b hb => by rw [k2] at hb; cases hb⟩
  | nilSl =>
    simp only [rep] at h
    subst h
    simp only [rep, drep]
    exact ⟨none, 0, rfl, .inl trivial, Nat.zero_le _⟩
  | ownSl =>
    simp only [rep] at h ⊢
    rw [hI]; exact drep_of_own h

theorem weak_mk {E : En} {s s' : St} (h1 : Pick s.ow s.tm s'.tm) (h2 : PickB s.ow s.bl s'.bl) (h3 : refsL (s'.bl.map (·.1)) s'.ow (s'.tm.map (·.2)) = true) (h3' : RefsB (s'.bl.map (·.1)) s'.ow s'.bl) (hpin : ∀ n b T, E.pin n b T → n ∈ s'.bl.map (·.1)) : Weak E s s' := by
  intro g a w hi
  let g' : Gh := { I := g.I, m := fun n => if n ∈ s'.bl.map (·.1) then g.m n else none, om := fun n => if n ∈ s.ow then g.om n else none, ow := fun n => n ∈ s'.ow ∧ (g.ow n ∨ n ∉ s.ow), mt := g.mt }
  have hmm : ∀ n b, g'.m n = some b → n ∈ s'.bl.map (·.1) ∧ g.m n = some b := fun n b h => by
    by_cases e : n ∈ s'.bl.map (·.1)
    · exact ⟨e, by simpa only [g', e, if_true] using h⟩
    · simp only [g', e, if_false] at h; cases h
  have hoo : ∀ n b, g'.ow n → g'.om n = some b → g.ow n ∧ g.om n = some b := fun n b h1 h2 => by
    by_cases e : n ∈ s.ow
    · simp only [g', e, if_true] at h2
      exact ⟨h1.2.resolve_right (fun h => h e), h2⟩
    · simp only [g', e, if_false] at h2; cases h2
  have km : ∀ n b, n ∈ s'.bl.map (·.1) → g.m n = some b → g'.m n = some b := fun n b h1 h2 => by simp only [g', h1, if_true]; exact h2
  have ko : ∀ n, n ∈ s'.ow → g.ow n → g'.ow n ∧ g'.om n = g.om n := fun n h1 h2 => ⟨⟨h1, .inl h2⟩, by simp only [g', hi.mem.mem.own n h2, if_true]⟩
  have kn : ∀ n, n ∈ s'.ow → n ∉ s.ow → g'.ow n ∧ g'.om n = none := fun n h1 h2 => ⟨⟨h1, .inr h2⟩, by simp only [g', h2, if_false]⟩
  have bls : ∀ (l : List (Nat × List AV)), PickB s.ow s.bl l → ∀ n cs, (n, cs) ∈ l → ∃ cs0, lookB s.bl n = some cs0 ∧ Les s.ow cs0 cs := by
    intro l
    induction l with
    | nil => intro _ n cs h; simp at h
    | cons p l ih =>
      intro hp n cs h
      obtain ⟨k, c⟩ := p
      simp only [PickB] at hp
      rcases List.mem_cons.1 h with h | h
      · cases h
        exact hp.1
      · exact ih hp.2 n cs h
  have repsLe : ∀ {cs0 cs : List AV} {ys : List Value}, Les s.ow cs0 cs → refsL (s'.bl.map (·.1)) s'.ow cs = true → reps g w.w cs0 ys → reps g' w.w cs ys := by
    intro cs0 cs ys hl
    induction hl generalizing ys with
    | nil => intro _ h; simpa [reps] using h
    | cons hx hxs ih =>
      intro hr h
      simp only [refsL, Bool.and_eq_true] at hr
      simp only [reps] at h ⊢
      obtain ⟨y, zs, e, k1, k2⟩ := h
      exact ⟨y, zs, e, rep_le (g := g) (g' := g') rfl km rfl ko kn hx hr.1 k1, ih hr.2 k2⟩
  have vis := hi.mem.vis
  have him := hi.mem.mem
  refine ⟨g', ⟨⟨?_, ⟨vis.I, fun n b h => vis.m n b (hmm n b h).2, fun n b h1 h2 => vis.o n b (hoo n b h1 h2).1 (hoo n b h1 h2).2, vis.sub, vis.lt, vis.up, vis.upm, vis.dn, vis.dnm, vis.nM, vis.ext⟩⟩, fun t => ?_, hi.de, hi.sz⟩⟩
  · refine ⟨him.below, him.base, him.cell, fun n b h => him.mfr n b (hmm n b h).2, fun n b h1 h2 => him.ofr n b (hoo n b h1 h2).1 (hoo n b h1 h2).2, fun n n' b h1 h2 => him.minj n n' b (hmm n b h1).2 (hmm n' b h2).2,
      fun n n' b h1 h2 h3 h4 => him.oinj n n' b (hoo n b h1 h3).1 (hoo n' b h2 h4).1 (hoo n b h1 h3).2 (hoo n' b h2 h4).2, fun n n' b h1 h2 h3 => him.disj n n' b (hmm n b h1).2 (hoo n' b h2 h3).1 (hoo n' b h2 h3).2, fun n cs h => ?_, fun n b h => ?_, fun n h => h.1, him.inew, him.iold, fun n b T h => ⟨km n b (hpin n b T h) (him.pin n b T h).1, (him.pin n b T h).2⟩⟩
    · obtain ⟨cs0, e1, e2⟩ := bls _ h2 n cs h
      obtain ⟨b, arr, k1, k2, k3, k4⟩ := him.blk n cs0 (lookB_mem e1)
      exact ⟨b, arr, km n b (List.mem_map.2 ⟨_, h, rfl⟩) k1, k2, repsLe e2 (refsB_mem h3' _ h) k3, k4⟩
    · obtain ⟨h1, _⟩ := hmm n b h
      obtain ⟨p, hp, rfl⟩ := List.mem_map.1 h1
      exact ⟨p.2, hp⟩
  · rcases pick_look (t := t) h1 with h | h
    · rw [h]; simp [rep]
    · rcases look_mem (tm := s'.tm) (t := t) with h6 | h6
      · rw [h6]; simp [rep]
      · exact rep_le (g := g) (g' := g') rfl km rfl ko kn h (refsL_mem h3 h6) (hi.tm t)

theorem Weak.refl {E : En} (s : St) : Weak E s s := fun g _ _ hi => ⟨g, hi⟩
def loopQ (E : En) (R : Nat → St → Prop) (n : Nat) (Q : Exit → St → Prop) : Exit → St → Prop
  | .normal, s => ∃ n' s', n' < n ∧ R n' s' ∧ Weak E s s'
  | e, s => Q e s
theorem W_loop {E : En} {c : Code} {Q : Exit → St → Prop} {s : St} (R : Nat → St → Prop) (h0 : ∃ n s', R n s' ∧ Weak E s s') (round : ∀ n s, R n s → W E c (loopQ E R n Q) s) : W E (.loop c) Q s := by
  intro L g a w hi
  obtain ⟨n, s', hR, hw⟩ := h0
  obtain ⟨g', hi'⟩ := hw g a w hi
  refine wpV_loop (fun n a x => ∃ g s, R n s ∧ Inv E g s a x) (fun n a x ⟨g, s, hR, hI⟩ => wpV_mono (round n s hR L g a x hI) fun e a₁ x₁ hq => ?_) ⟨g', s', hR, hi'⟩
  obtain ⟨g₁, s₁, hq, hi₁⟩ := hq
  cases e with
  | normal =>
    obtain ⟨n', s', hlt, hR', hw'⟩ := hq
    obtain ⟨g₂, hi₂⟩ := hw' g₁ a₁ x₁ hi₁
    exact ⟨n', hlt, g₂, s', hR', hi₂⟩
  | _ => exact ⟨g₁, s₁, hq, hi₁⟩

structure Rigged (x : CW) : Prop where
  sub : ∀ b, x.V.mine b → x.V.vis b
  lt : ∀ b, x.V.vis b → b < x.w.heap.size
structure Grows (x x' : CW) : Prop where
  rig : Rigged x'
  up : ∀ b, x.V.vis b → x'.V.vis b
  upm : ∀ b, x.V.mine b → x'.V.mine b
  dn : ∀ b, x'.V.vis b → x.V.vis b ∨ x.w.heap.size ≤ b
  dnm : ∀ b, x'.V.mine b → x.V.mine b ∨ x.w.heap.size ≤ b
  ext : x'.V.ext = x.V.ext
structure Ret (I : Nat → Nat → Prop) (x : CW) (g' : Gh) (x' : CW) : Prop where
  below : BelowM x.w.heap.size (fun b => ¬ x.V.vis b) x.w x'.w
  old : ∀ b o, I b o → g'.I b o
  new : ∀ b o, g'.I b o → I b o ∨ x.w.heap.size ≤ b
  cell : ∀ b o, g'.I b o → (x'.w.cell? ⟨b, o, none⟩).isSome = true
  own : ∀ n b, g'.ow n → g'.om n = some b → x.w.heap.size ≤ b ∧ b < x'.w.heap.size
  inj : ∀ n n' b, g'.ow n → g'.ow n' → g'.om n = some b → g'.om n' = some b → n = n'
  grows : Grows x x'
  visI : ∀ b o, g'.I b o → x'.V.vis b
  visO : ∀ n b, g'.ow n → g'.om n = some b → x'.V.mine b
def SeesI (I : Nat → Nat → Prop) (x : CW) : Prop := ∀ b o, I b o → (x.w.cell? ⟨b, o, none⟩).isSome = true ∧ x.V.vis b

def CallOk (P : Program) (f : Nat) (args : List AV) (R : AV → Prop) : Prop :=
  ∀ (L : Lg P) (I : Nat → Nat → Prop) (x : CW) (vals : Array Value), SeesI I x → Rigged x → dreps I x.w args vals.toList →
    CallsV L f vals x fun y x' => ∃ r g', R r ∧ rep g' x'.w r y ∧ Ret I x g' x'

def resA (P : Program) (s : St) : List ResultVar → List AV → Prop
  | [], xs => xs = []
  | .tmp t :: r, xs => ∃ ys, xs = look s.tm t :: ys ∧ resA P s r ys
  | .cell a t :: r, xs => ∃ v ys ag sz n o cs, xs = v :: ys ∧ TyOk P t ag sz ∧ look s.tm a = .ptr n o ∧ lookB s.bl n = some cs ∧ aload ag sz (cs.drop o) = some v ∧ resA P s r ys
theorem resA_tmp {P : Program} {s : St} {t : Nat} {r : List ResultVar} {x : AV} {ys : List AV} (h : look s.tm t = x) (hr : resA P s r ys) : resA P s (.tmp t :: r) (x :: ys) := ⟨ys, by rw [h], hr⟩
theorem resA_cell {P : Program} {s : St} {a t : Nat} {r : List ResultVar} {v : AV} {ys : List AV} {ag : Bool} {sz n o : Nat} {cs : List AV} [ht : TyOk P t ag sz] (h : look s.tm a = .ptr n o) (hb : lookB s.bl n = some cs) (hl : aload ag sz (cs.drop o) = some v) (hr : resA P s r ys) : resA P s (.cell a t :: r) (v :: ys) :=
  ⟨v, ys, ag, sz, n, o, cs, rfl, ht, h, hb, hl, hr⟩
def oneA : List AV → AV
  | [x] => x
  | xs => .tup xs
def retQ (E : En) (rs : List ResultVar) (R : AV → Prop) : Exit → St → Prop
  | .normal, s => ∃ s', Weak E s s' ∧ ∃ xs, resA E.P s' rs xs ∧ R (oneA xs) ∧ refs [] s'.ow (oneA xs) = true
  | .ret, s => ∃ s', Weak E s s' ∧ ∃ xs, resA E.P s' rs xs ∧ R (oneA xs) ∧ refs [] s'.ow (oneA xs) = true
  | _, _ => False

theorem load_block {E : En} {g : Gh} {bl : List (Nat × List AV)} {ow : List Nat} {w : World} (hm : Mem E g bl ow w) {t n o sz : Nat} {ag : Bool} {cs : List AV} {v : AV} (ht : TyOk E.P t ag sz) (hb : (n, cs) ∈ bl) {y : Value} (hy : rep g w (.ptr n o) y) (h : aload ag sz (cs.drop o) = some v) :
    ∃ u, (do loadVar t (← asAddr y) : Sem Value).run E.P w = .ok u w ∧ rep g w v u ∧ ∀ es, EvR g es → EvR g ((do loadVar t (← asAddr y) : Sem Value).events E.P w es) := by
  simp only [rep] at hy
  obtain ⟨b, h1, rfl⟩ := hy
  obtain ⟨b', arr, e1, e2, e3, e4⟩ := hm.blk n cs hb
  have : b' = b := by rw [h1] at e1; exact (Option.some.inj e1).symm
  subst this
  have hd := reps_drop (k := o) e3
  have hc : ∀ j z, (arr.toList.drop o)[j]? = some z → w.cell? ⟨b', o + j, none⟩ = some z := fun j z hj => by
    rw [cell_of_heap e2]; simpa [List.getElem?_drop] using hj
  have hlen := reps_length hd
  have evs : (ag = true → sz ≤ (arr.toList.drop o).length) → (ag = false → ∃ z, (arr.toList.drop o)[0]? = some z) → ∀ es, EvR g es → EvR g ((do loadVar t (← asAddr (.pointer (some ⟨b', o, none⟩))) : Sem Value).events E.P w es) := fun hl h0 es hes e he => by
    simp only [asAddr, Sem.events_bind, Sem.events_pure, Sem.run_pure, Result.evThen_ok] at he
    rcases ev_loadVar ht hc hl h0 es e he with h2 | ⟨a, h2, h3, _⟩
    · exact hes e h2
    · exact .inl ⟨a, h2, .inl ⟨n, by rw [h3]; exact e1⟩⟩
  cases ag
  · simp only [aload, cond_false, List.head?_eq_getElem?] at h
    obtain ⟨u, hu, hr⟩ := reps_get hd h
    have hc0 := hc 0 u hu
    rw [Nat.add_zero] at hc0
    exact ⟨u, by simp [asAddr, loadVar, ht.ag, run_load, hc0], hr, evs (fun h => by cases h) (fun _ => ⟨u, hu⟩)⟩
  · simp only [aload, cond_true] at h
    cases hle : Nat.ble sz (cs.drop o).length
    · rw [hle] at h; cases h
    · rw [hle] at h
      simp only [cond_true, Option.some.injEq] at h
      subst h
      have hle' : sz ≤ (arr.toList.drop o).length := by rw [hlen]; exact Nat.le_of_ble_eq_true hle
      have := run_loadVar (P := E.P) (w := w) ht hc hle' (fun h => by cases h)
      refine ⟨.agg ((arr.toList.drop o).take sz).toArray, by simp [asAddr, this], ?_, evs (fun _ => hle') (fun h => by cases h)⟩
      simp only [rep]
      exact ⟨_, rfl, reps_take hd⟩
theorem run_results {E : En} {g : Gh} {s : St} {a : Act} {w : CW} (hi : Inv E g s a w) {fn : Func} {xs : List AV} (h : resA E.P s fn.results.toList xs) : ∃ y, (results fn a.tmps).run E.P w.w = .ok y w.w ∧ rep g w.w (oneA xs) y ∧ EvR g ((results fn a.tmps).events E.P w.w #[]) := by
  have hrun : ∃ vs : Array Value, reps g w.w xs vs.toList ∧ (∀ F : ResultVar → Sem Value, (∀ t, F (.tmp t) = pure (a.tmps.getD t undef)) → (∀ c t, F (.cell c t) = do loadVar t (← asAddr (a.tmps.getD c undef))) → (fn.results.mapM F).run E.P w.w = .ok vs w.w) ∧ (∀ F : ResultVar → Sem Value, (∀ t, F (.tmp t) = pure (a.tmps.getD t undef)) → (∀ c t, F (.cell c t) = do loadVar t (← asAddr (a.tmps.getD c undef))) → EvR g ((fn.results.mapM F).events E.P w.w #[])) := by
    have : ∀ (rs : List ResultVar) (xs : List AV), resA E.P s rs xs → ∃ vs, reps g w.w xs vs ∧ ∀ F : ResultVar → Sem Value, (∀ t, F (.tmp t) = pure (a.tmps.getD t undef)) → (∀ c t, F (.cell c t) = do loadVar t (← asAddr (a.tmps.getD c undef))) → (rs.mapM F).run E.P w.w = .ok vs w.w ∧ ∀ es, EvR g es → EvR g ((rs.mapM F).events E.P w.w es) := by
      intro rs
      induction rs with
      | nil => intro xs h; simp only [resA] at h; subst h; exact ⟨[], by simp [reps], fun _ _ _ => ⟨rfl, fun _ h => h⟩⟩
      | cons r rs ih =>
        intro xs h
        cases r with
        | tmp t =>
          simp only [resA] at h
          obtain ⟨ys, rfl, hr⟩ := h
          obtain ⟨vs, h2, h1⟩ := ih ys hr
          refine ⟨a.tmps.getD t undef :: vs, ?_, fun F hF hG => ⟨?_, fun es hes => ?_⟩⟩
          · simp only [reps]; exact ⟨_, _, rfl, hi.tm t, h2⟩
          · simp only [List.mapM_cons, hF, Sem.run_bind, Sem.run_pure, Result.andThen_ok, (h1 F hF hG).1]
          · simp only [List.mapM_cons, hF, Sem.events_bind, Sem.run_pure, Sem.events_pure, Result.evThen_ok, (h1 F hF hG).1]
            exact (h1 F hF hG).2 es hes
        | cell c t =>
          simp only [resA] at h
          obtain ⟨v, ys, ag, sz, n, o, cs, rfl, ht, k1, k2, k3, hr⟩ := h
          obtain ⟨vs, h2, h1⟩ := ih ys hr
          have hc := hi.tm c
          rw [k1] at hc
          obtain ⟨u, h3, h4, h5⟩ := load_block hi.mem.mem ht (lookB_mem k2) hc k3
          refine ⟨u :: vs, ?_, fun F hF hG => ⟨?_, fun es hes => ?_⟩⟩
          · simp only [reps]; exact ⟨_, _, rfl, h4, h2⟩
          · rw [List.mapM_cons, hG, Sem.run_bind, h3]
            simp only [Result.andThen_ok, Sem.run_bind, (h1 F hF hG).1, Sem.run_pure]
          · have h6 := (h1 F hF hG).2 _ (h5 es hes)
            rw [List.mapM_cons, hG, Sem.events_bind, h3, Result.evThen_ok, Sem.events_bind, (h1 F hF hG).1]
            exact h6
    obtain ⟨vs, h1, h2⟩ := this _ _ h
    refine ⟨vs.toArray, by simpa using h1, fun F hF hG => ?_, fun F hF hG => ?_⟩
    · rw [Array.mapM_eq_mapM_toList, Sem.run_map, (h2 F hF hG).1]; rfl
    · rw [Array.mapM_eq_mapM_toList, Sem.events_map]; exact (h2 F hF hG).2 _ (evR_nil g)
  unfold results
  rw [Sem.run_bind, Sem.events_bind]
  obtain ⟨vs, hr, h1, k2⟩ := hrun
  rw [h1 _ (fun t => rfl) (fun c t => rfl)]
  simp only [Result.andThen_ok, Sem.run_pure, Result.evThen_ok, Sem.events_pure]
  have hl := reps_length hr
  match xs, hr, hl with
  | [], hr, hl => exact ⟨.tuple vs, by simp at hl; simp [hl], by simp only [oneA, rep]; exact ⟨vs, rfl, hr⟩, k2 _ (fun t => rfl) (fun c t => rfl)⟩
  | [x], hr, hl =>
    simp only [reps] at hr
    obtain ⟨y, zs, e, q1, rfl⟩ := hr
    have : vs = #[y] := by apply Array.ext'; simpa using e
    subst this
    exact ⟨y, by simp, by simpa only [oneA] using q1, k2 _ (fun t => rfl) (fun c t => rfl)⟩
  | x :: x' :: xs, hr, hl =>
    have : vs.size ≠ 1 := by simp at hl; omega
    exact ⟨.tuple vs, by simp [this], by simp only [oneA, rep]; exact ⟨vs, rfl, hr⟩, k2 _ (fun t => rfl) (fun c t => rfl)⟩

theorem look_zip : ∀ (xs : List AV) (k t : Nat), look ((xs.zipIdx k).map fun p => (p.2, p.1)) t = if k ≤ t then xs.getD (t - k) .top else .top
  | [], k, t => by simp [look]
  | x :: xs, k, t => by
    simp only [List.zipIdx_cons, List.map_cons, look, look_zip xs (k + 1) t]
    by_cases h : k = t
    · subst h; simp
    · have hb : Nat.beq k t = false := by
        cases hb : Nat.beq k t
        · rfl
        · exact absurd (Nat.eq_of_beq_eq_true hb) h
      rw [hb]
      simp only [cond_false]
      by_cases h2 : k ≤ t
      · rw [if_pos (by omega), if_pos h2, show t - k = (t - (k + 1)) + 1 by omega, List.getD_cons_succ]
      · rw [if_neg (by omega), if_neg h2]

abbrev enC (P : Program) (B : Nat) (w0 : World) (nt : Nat) (M : Nat → Prop) (I0 : Nat → Nat → Prop) (V0 : Rig) : En := ⟨P, B, w0, nt, M, [], I0, fun _ _ _ => False, V0, []⟩
theorem CallOk_of_W {P : Program} {f nt : Nat} {fn : Func} {rs : Array ResultVar} {c : Code} {args : List AV} {R : AV → Prop} (hf : P.funcs[f]? = some fn) (hnt : fn.ntmps = nt) (hrs : fn.results = rs) (hb : fn.body = some c) (hn : args.length ≤ nt)
    (h : ∀ (B : Nat) (w0 : World) (M : Nat → Prop) (I0 : Nat → Nat → Prop) (V0 : Rig), W (enC P B w0 nt M I0 V0) c (retQ (enC P B w0 nt M I0 V0) rs.toList R) ⟨(args.zipIdx 0).map fun p => (p.2, p.1), [], []⟩) : CallOk P f args R := by
  subst hnt; subst hrs
  intro L I x vals hI hx hargs
  let E : En := enC P x.w.heap.size x.w fn.ntmps (fun b => ¬ x.V.vis b) I x.V
  let g : Gh := ⟨I, fun _ => none, fun _ => none, fun _ => False, fun _ => 0⟩
  have hlen := dreps_length hargs
  have hargs' : reps g x.w args vals.toList := reps_of_dreps hargs
  have hi0 : Inv E g ⟨(args.zipIdx 0).map fun p => (p.2, p.1), [], []⟩ { tmps := vals ++ Array.replicate (fn.ntmps - vals.size) undef, defers := [] } x := by
    refine ⟨⟨⟨BelowM.refl _ _ _, Nat.le_refl _, fun b o h => (hI b o h).1, fun n b h => by simp [g] at h, fun n b h => by simp [g] at h, fun n n' b h => by simp [g] at h, fun n n' b h => by simp [g] at h, fun n n' b h => by simp [g] at h,
      fun n cs h => by simp at h, fun n b h => by simp [g] at h, fun n h => by simp [g] at h, fun b o h => .inl h, fun b o h => h, fun n b T h => h.elim⟩,
      ⟨fun b o h => (hI b o h).2, fun n b h => by simp [g] at h, fun n b h => by simp [g] at h, hx.sub, hx.lt, fun _ h => h, fun _ h => h, fun _ h => .inl h, fun _ h => .inl h, fun b h => Classical.not_not.1 h, rfl⟩⟩, fun t => ?_, rfl, ?_⟩
    · simp only [look_zip, Nat.zero_le, if_true, Nat.sub_zero]
      rcases Nat.lt_or_ge t args.length with h1 | h1
      · obtain ⟨y, hy, hr⟩ := reps_get hargs' (List.getElem?_eq_getElem h1)
        have : t < vals.size := by simpa [← hlen] using h1
        have hy' : vals[t] = y := by simpa [this] using hy
        simp only [List.getD_eq_getElem?_getD, List.getElem?_eq_getElem h1, Option.getD_some]
        simp only [Array.getD_eq_getD_getElem?, Array.getElem?_append_left this, Array.getElem?_eq_getElem this, Option.getD_some, hy']
        exact hr
      · simp only [List.getD_eq_getElem?_getD, List.getElem?_eq_none h1, Option.getD_none, rep]
    · have : vals.size = args.length := by simpa using hlen
      show (vals ++ Array.replicate (fn.ntmps - vals.size) undef).size = fn.ntmps
      simp; omega
  refine ⟨fn, c, hf, hb, wpV_mono (h x.w.heap.size x.w (fun b => ¬ x.V.vis b) I x.V L g _ x hi0) fun e a' x' hq => ?_⟩
  obtain ⟨g', s', hq, hi⟩ := hq
  have fin : ∀ s1, Weak E s' s1 → ∀ xs, resA P s1 fn.results.toList xs → R (oneA xs) → refs [] s1.ow (oneA xs) = true → a'.defers = [] ∧ ∀ w₁, Rely x'.V x'.w w₁ → ∃ v, (results fn a'.tmps).run P w₁ = .ok v w₁ ∧
      (∀ e ∈ (results fn a'.tmps).events P w₁ #[], EvG x'.V w₁.heap.size w₁.heap.size e) ∧ ∃ r g', R r ∧ rep g' w₁ r v ∧ Ret I x g' ⟨x'.V, w₁⟩ := by
    intro s1 hw xs h1 h2 h3
    obtain ⟨g', hi⟩ := hw _ _ _ hi
    refine ⟨hi.de, fun w₁ r => ?_⟩
    have hi := hi.rely r
    obtain ⟨y, k1, k2, k3⟩ := run_results hi h1
    let g2 : Gh := { g' with m := fun _ => none }
    refine ⟨y, k1, fun e he => ?_, oneA xs, g2, h2, rep_refs (g := g') (g' := g2) rfl (fun n b hn => by simp at hn) rfl (fun n _ h => ⟨h, rfl⟩) h3 k2, ?_⟩
    · rcases k3 e he with ⟨a, rfl, ha⟩ | hk
      · exact .inl ⟨a, false, rfl, .inl ⟨seen_vis hi.mem.vis ha, fun h => by cases h⟩⟩
      · exact .inr (.inl hk)
    · have hm := hi.mem.mem
      have hv := hi.mem.vis
      have nM : ∀ b, x'.V.vis b → (¬ x.V.vis b) → x.w.heap.size ≤ b := fun b h1 h2 => (hv.dn b h1).resolve_left h2
      exact ⟨hm.below, hm.iold, fun b o h => (hm.inew b o h).imp id (fun h' => h'.elim id (nM b (hv.I b o h))), hm.cell, fun n b h1 h2 => ⟨(hm.ofr n b h1 h2).1.elim id (nM b (hv.sub b (hv.o n b h1 h2))), (hm.ofr n b h1 h2).2⟩, hm.oinj,
        ⟨⟨hv.sub, hv.lt⟩, hv.up, hv.upm, hv.dn, hv.dnm, hv.ext⟩, hv.I, hv.o⟩
  cases e with
  | normal => obtain ⟨s1, hw, xs, h1, h2, h3⟩ := hq; exact Or.inl (fin s1 hw xs h1 h2 h3)
  | ret => obtain ⟨s1, hw, xs, h1, h2, h3⟩ := hq; exact Or.inl (fin s1 hw xs h1 h2 h3)
  | _ => exact hq.elim

class FnOk (P : Program) (f : Nat) : Prop where
  ok : ∃ fn, P.funcs[f]? = some fn ∧ (fn.name == "runtime.NumGoroutine") = false ∧ fn.body.isNone = false

inductive LeD : AV → AV → Prop where
  | v {x : Value} : LeD (.v x) (.v x)
  | top {x : AV} : LeD x .top
  | sl {e : Nat} {rows : List (List AV)} : LeD (.sl e rows) (.sl e rows)
  | own {n T e : Nat} {rows : List (List AV)} : LeD (.own n T e rows) (.sl e rows)
  | nil {e : Nat} : LeD (.v (.slice none 0 0)) (.sl e [])
inductive LeDs : List AV → List AV → Prop where
  | nil : LeDs [] []
  | cons {x y : AV} {xs ys : List AV} (h : LeD x y) (hs : LeDs xs ys) : LeDs (x :: xs) (y :: ys)
  | agg {cs ds xs ys : List AV} (h : LeDs cs ds) (hs : LeDs xs ys) : LeDs (.agg cs :: xs) (.agg ds :: ys)
theorem drep_leD {g : Gh} {w : World} {x y : AV} {v : Value} (h : LeD x y) (hr : rep g w x v) : drep g.I w y v := by
  cases h with
  | v => simpa [rep, drep] using hr
  | top => simp [drep]
  | sl => simpa only [rep] using hr
  | own => simp only [rep] at hr; exact drep_of_own hr
  | nil =>
    simp only [rep] at hr
    subst hr
    simp only [drep]
    exact ⟨none, 0, rfl, .inl trivial, Nat.zero_le _⟩
theorem dreps_leDs {g : Gh} {w : World} {xs ys : List AV} (h : LeDs xs ys) : ∀ {vs : List Value}, reps g w xs vs → dreps g.I w ys vs := by
  induction h with
  | nil => intro vs hr; simpa [reps, dreps] using hr
  | cons h hs ih =>
    intro vs hr
    simp only [reps] at hr
    obtain ⟨y, zs, e, h1, h2⟩ := hr
    simp only [dreps]
    exact ⟨y, zs, e, drep_leD h h1, ih h2⟩
  | agg h hs ih1 ih2 =>
    intro vs hr
    simp only [reps, rep] at hr
    obtain ⟨y, zs, e, ⟨a, e2, h1⟩, h2⟩ := hr
    simp only [dreps, drep]
    exact ⟨y, zs, e, ⟨a, e2, ih1 h1⟩, ih2 h2⟩

mutual
def ren (k : Nat) : AV → AV
  | .agg cs => .agg (renL k cs)
  | .tup cs => .tup (renL k cs)
  | .own n T e rows => .own (k + n) T e rows
  | x => x
def renL (k : Nat) : List AV → List AV
  | [] => []
  | x :: xs => ren k x :: renL k xs
end
/- No pointers, no functions in a result; its own slices' names. -/
mutual
def ownsIn (os : List Nat) : AV → Bool
  | .agg cs => ownsInL os cs
  | .tup cs => ownsInL os cs
  | .own n _ _ _ => os.any (Nat.beq n)
  | .ptr .. => false
  | .fn .. => false
  | .arr .. => false
  | _ => true
def ownsInL (os : List Nat) : List AV → Bool
  | [] => true
  | x :: xs => ownsIn os x && ownsInL os xs
end
mutual
theorem rep_ren {g' gc : Gh} {w : World} {k : Nat} {os : List Nat} (hI : gc.I = g'.I) (ho : ∀ n, n ∈ os → g'.ow n → gc.ow (k + n) ∧ gc.om (k + n) = g'.om n) : ∀ {x : AV} {y : Value}, ownsIn os x = true → rep g' w x y → rep gc w (ren k x) y
  | .top, _, _, _ => by simp [ren, rep]
  | .v x, y, _, h => by simpa [ren, rep] using h
  | .agg cs, y, hr, h => by
    simp only [rep, ownsIn, ren] at h hr ⊢
    obtain ⟨a, e, h⟩ := h
    exact ⟨a, e, reps_ren hI ho hr h⟩
  | .tup cs, y, hr, h => by
    simp only [rep, ownsIn, ren] at h hr ⊢
    obtain ⟨a, e, h⟩ := h
    exact ⟨a, e, reps_ren hI ho hr h⟩
  | .sl e rows, y, _, h => by
    simp only [rep, ren] at h ⊢
    rw [hI]; exact h
  | .own n T e rows, y, hr, h => by
    simp only [rep, ownsIn, ren] at h hr ⊢
    obtain ⟨h1, h2, xs, h3, h4, h5, h6⟩ := h
    obtain ⟨k1, k2⟩ := ho n (any_beq hr) h1
    exact ⟨k1, h2.trans k2.symm, xs, h3, by rw [hI]; exact h4, h5, by rw [k2, hI]; exact h6⟩
  | .ptr n off, y, hr, h => by simp [ownsIn] at hr
  | .eptr cs, y, _, h => by
    simp only [rep, ren] at h ⊢
    rw [hI]; exact h
  | .fn f fs cs, y, hr, h => by simp [ownsIn] at hr
  | .arr n T e len, y, hr, h => by simp [ownsIn] at hr
theorem reps_ren {g' gc : Gh} {w : World} {k : Nat} {os : List Nat} (hI : gc.I = g'.I) (ho : ∀ n, n ∈ os → g'.ow n → gc.ow (k + n) ∧ gc.om (k + n) = g'.om n) : ∀ {xs : List AV} {ys : List Value}, ownsInL os xs = true → reps g' w xs ys → reps gc w (renL k xs) ys
  | [], ys, _, h => by simpa [reps, renL] using h
  | x :: xs, ys, hr, h => by
    simp only [reps, ownsInL, renL, Bool.and_eq_true] at h hr ⊢
    obtain ⟨y, zs, e, h1, h2⟩ := h
    exact ⟨y, zs, e, rep_ren hI ho hr.1 h1, reps_ren hI ho hr.2 h2⟩
end

theorem MemV.called {E : En} {g g' : Gh} {bl : List (Nat × List AV)} {ow : List Nat} {x x' : CW} (hmv : MemV E g bl ow x) (hr : Ret g.I x g' x') (k : Nat) (os : List Nat) (hf : ∀ n ∈ os, k + n ∉ ow) :
    ∃ gc, Goes g x.w gc x'.w ∧ MemV E gc bl (os.map (k + ·) ++ ow) x' ∧ gc.I = g'.I ∧ ∀ n, n ∈ os → g'.ow n → gc.ow (k + n) ∧ gc.om (k + n) = g'.om n := by
  have h := hmv.mem
  have hv := hmv.vis
  have hG := hr.grows
  let gc : Gh := { I := g'.I, m := g.m, om := fun j => if j ∈ ow then g.om j else g'.om (j - k), ow := fun j => g.ow j ∨ (j ∉ ow ∧ ∃ n ∈ os, j = k + n ∧ g'.ow n), mt := g.mt }
  have heap : ∀ b, x.V.vis b → x'.w.heap[b]? = x.w.heap[b]? := fun b hb => hr.below.block b (hv.lt b hb) (fun h => h hb)
  have keeps : Keeps g.I x.w x'.w := fun b o hb => World.cell?_of_block (a := ⟨b, o, none⟩) (heap b (hv.I b o hb))
  have how : ∀ j, g.ow j → gc.ow j ∧ gc.om j = g.om j := fun j hj => ⟨.inl hj, by simp only [gc, h.own j hj, if_true]⟩
  have hI2 : ∀ b o, b < x.w.heap.size → g'.I b o → g.I b o := fun b o hb hI => (hr.new b o hI).resolve_right (by omega)
  have hoc : ∀ j b, gc.ow j → gc.om j = some b → (g.ow j ∧ g.om j = some b) ∨ (∃ n ∈ os, j = k + n ∧ g'.ow n ∧ g'.om n = some b) := by
    intro j b h1 h2
    rcases h1 with h1 | ⟨h1, n, hn, rfl, h3⟩
    · exact .inl ⟨h1, by rw [(how j h1).2] at h2; exact h2⟩
    · simp only [gc, h1, if_false, Nat.add_sub_cancel_left] at h2
      exact .inr ⟨n, hn, rfl, h3, h2⟩
  have goes : Goes g x.w gc x'.w := ⟨hr.old, keeps, fun _ _ h => h, fun _ _ _ => rfl, fun n T e rows y hy => ownRep_goes (g := g) (g' := gc) hr.old keeps how (fun n b h1 h2 => heap b (hv.sub b (hv.o n b h1 h2))) (fun n b o h1 h2 h3 => hI2 b o (h.ofr n b h1 h2).2 h3) hy, fun n b _ _ hn hc => hc.same (heap b (hv.m n b hn).1)⟩
  refine ⟨gc, goes, ?_, rfl, fun n hn h1 => ⟨.inr ⟨hf n hn, n, hn, rfl, h1⟩, by simp only [gc, hf n hn, if_false, Nat.add_sub_cancel_left]⟩⟩
  have hsz := hr.below.size
  refine ⟨?_, { I := hr.visI, m := fun n b hn => ⟨hG.up b (hv.m n b hn).1, fun hr => hG.upm b ((hv.m n b hn).2 hr)⟩, o := fun j b h1 h2 => ?_, sub := hG.rig.sub, lt := hG.rig.lt, up := fun b hb => hG.up b (hv.up b hb), upm := fun b hb => hG.upm b (hv.upm b hb), dn := fun b hb => (hG.dn b hb).elim (hv.dn b) (fun h1 => .inr (Nat.le_trans h.base h1)), dnm := fun b hb => (hG.dnm b hb).elim (hv.dnm b) (fun h1 => .inr (Nat.le_trans h.base h1)), nM := hv.nM, ext := hG.ext.trans hv.ext }⟩
  rotate_left
  · rcases hoc j b h1 h2 with ⟨h3, h4⟩ | ⟨n, _, _, h3, h4⟩
    · exact hG.upm b (hv.o j b h3 h4)
    · exact hr.visO n b h3 h4
  refine { below := ⟨hr.below.os.trans h.below.os, hr.below.tape.trans h.below.tape, hr.below.output.trans h.below.output, Nat.le_trans h.below.size hsz, fun j hj hM => (heap j (hv.up j (hv.nM j hM))).trans (h.below.block j hj hM)⟩,
           base := Nat.le_trans h.base hsz, cell := hr.cell, mfr := fun n b hn => ⟨(h.mfr n b hn).1, Nat.lt_of_lt_of_le (h.mfr n b hn).2 hsz⟩, ofr := ?_, minj := h.minj, oinj := ?_, disj := ?_, blk := ?_, key := h.key, own := ?_, inew := ?_, iold := fun b o hb => hr.old b o (h.iold b o hb), pin := h.pin }
  · intro j b h1 h2
    rcases hoc j b h1 h2 with ⟨h3, h4⟩ | ⟨n, _, _, h3, h4⟩
    · exact ⟨(h.ofr j b h3 h4).1, Nat.lt_of_lt_of_le (h.ofr j b h3 h4).2 hsz⟩
    · have := hr.own n b h3 h4
      exact ⟨.inl (Nat.le_trans h.base this.1), this.2⟩
  · intro j j' b h1 h1' h2 h2'
    rcases hoc j b h1 h2 with ⟨h3, h4⟩ | ⟨n, _, rfl, h3, h4⟩ <;> rcases hoc j' b h1' h2' with ⟨h5, h6⟩ | ⟨n', _, rfl, h5, h6⟩
    · exact h.oinj j j' b h3 h5 h4 h6
    · have h7 := (h.ofr j b h3 h4).2; have h8 := (hr.own n' b h5 h6).1; omega
    · have h7 := (h.ofr j' b h5 h6).2; have h8 := (hr.own n b h3 h4).1; omega
    · rw [hr.inj n n' b h3 h5 h4 h6]
  · intro j j' b h1 h2 h3
    rcases hoc j' b h2 h3 with ⟨h4, h5⟩ | ⟨n, _, rfl, h4, h5⟩
    · exact h.disj j j' b h1 h4 h5
    · have h7 := (h.mfr j b h1).2; have h8 := (hr.own n b h4 h5).1; omega
  · intro n cs hn
    obtain ⟨b, arr, h1, h2, h3, h4⟩ := h.blk n cs hn
    have hb := (h.mfr n b h1).2
    exact ⟨b, arr, h1, (heap b (hv.m n b h1).1).trans h2, reps_goes goes h3, fun o ho => h4 o (hI2 b o hb ho)⟩
  · intro j hj
    rcases hj with hj | ⟨_, n, hn, rfl, _⟩
    · exact List.mem_append_right _ (h.own j hj)
    · exact List.mem_append_left _ (List.mem_map.2 ⟨n, hn, rfl⟩)
  · intro b o hb
    rcases hr.new b o hb with h1 | h1
    · exact h.inew b o h1
    · exact .inr (.inl (Nat.le_trans h.base h1))

section
variable {E : En} {bl : List (Nat × List AV)} {tm : List (Nat × AV)} {d : Option Tmp} {ty : TypeId} {pos : String} {af : Array Edge} {gd : Option (Nat × Bool)}
theorem QV_call {x : Operand} {xs : Array Operand} {ts : Array TypeId} {f : Nat} {ys : List AV} {r : AV} (k : Nat) (os : List Nat) [hf : FnOk E.P f] (h : CallOk E.P f ys (fun r' => r' = r)) (hx : ev tm x = .v (.func (.func f) #[] #[])) (ha : LeDs (xs.toList.map (ev tm)) ys) (ho : ownsIn os r = true) :
    QV E bl tm ⟨d, .call ⟨.value x, xs, ts⟩, ty, pos, af, gd⟩ (ren k r) [] (os.map (k + ·)) := by
  intro L g ρ bl' ow' w hm hbl _ hno hop w₁ rw₁
  have hg := hm.goes rw₁
  have hm1 := hm.rely rw₁
  have h1 := rep_goes hg (hop x (by simp [Op.operands, Call.operands]))
  have h2 : reps g w₁ (xs.toList.map (ev tm)) (xs.toList.map ρ) := reps_map _ fun y hy => rep_goes hg (hop y (by simp [Op.operands, Call.operands] at hy ⊢; exact .inr hy))
  rw [hx] at h1
  simp only [rep] at h1
  obtain ⟨fn, f1, f2, f3⟩ := hf.ok
  have f2' : fn.name ≠ "runtime.NumGoroutine" := by simpa using f2
  have f3' : fn.body ≠ none := fun e => by rw [e] at f3; simp at f3
  have hrun : (execOp ρ ⟨d, .call ⟨.value x, xs, ts⟩, ty, pos, af, gd⟩).run E.P w₁ = .ok (.enter f (xs.map ρ)) w₁ := by
    simp [execOp, resolve, Deferred.ofValue, h1, invoke, callFunc, f1, f2', f3']
  have hevs : (execOp ρ ⟨d, .call ⟨.value x, xs, ts⟩, ty, pos, af, gd⟩).events E.P w₁ #[] = #[] := by
    simp [execOp, resolve, Deferred.ofValue, h1, invoke, callFunc, f1, f2', f3']
  rw [hrun]
  have hc := h L g.I ⟨w.V, w₁⟩ (xs.map ρ) (fun b o hb => ⟨hm1.mem.cell b o hb, hm1.vis.I b o hb⟩) ⟨hm1.vis.sub, hm1.vis.lt⟩ (by rw [Array.toList_map]; exact dreps_leDs ha h2)
  refine ⟨rfl, hevs, hc.mono fun y w' he => ?_⟩
  obtain ⟨r', g', rfl, h3, h4⟩ := he
  obtain ⟨gc, h5, h6, h7, h8⟩ := hm1.called h4 k os (fun n hn => hno _ (List.mem_map.2 ⟨n, hn, rfl⟩))
  exact ⟨gc, hg.trans h5, by simpa using h6, rep_ren h7 h8 ho h3⟩
end
end Go.Eng
