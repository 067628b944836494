/- My walking engine, part 2: abstract values of Go, and the rules of a walk over them. No program in sight. -/
import Derived.Conc.CrowdStepC2
import Derived.Conc.Beside
import Derived.Conc.CompanyDraw
namespace Go.Eng
open Go Go.Conc

structure CDat where
  pay : Go.ConcR.Payload
  ty : TypeId
  Wg : Nat
  C : Nat
  n : Nat
  off : Nat
  Res : Nat → (Nat → Prop) → Value → World → Prop
  dn : Nat → Prop
  keep : ∀ {i : Nat} {vis : Nat → Prop} {v : Value} {w w₁ : World}, (∀ b, vis b → w₁.heap[b]? = w.heap[b]?) → Res i vis v w → Res i vis v w₁
inductive Tag
  | opn (p d b : Nat) | reg | fin (d : Nat)
inductive Ext
  | alone
  | crew (d : CDat) (j : Nat) (tag : Tag)
  | hand (d : CDat) (i : Nat)
structure Rig where
  vis : Nat → Prop
  mine : Nat → Prop
  ext : Ext
def Rig.grow (V : Rig) (n m : Nat) : Rig := ⟨fun b => V.vis b ∨ (n ≤ b ∧ b < m), fun b => V.mine b ∨ (n ≤ b ∧ b < m), V.ext⟩
theorem Rig.grow_self (V : Rig) (n : Nat) : V.grow n n = V := by
  have h : ∀ b, ¬ (n ≤ b ∧ b < n) := fun b => by omega
  cases V
  simp [Rig.grow, h]
def Ext.rel : Ext → World → World → Prop
  | .alone, _, _ => True
  | .crew d _ _, w, w₁ => ConcN.WgLive d.ty d.Wg w → ConcN.WgLive d.ty d.Wg w₁
  | .hand d i, w, w₁ => @ConcN.RW d.pay d.ty d.Wg d.C d.n 0 i w w₁
theorem Ext.rel_refl : ∀ (e : Ext) (w : World), e.rel w w
  | .alone, _ => trivial
  | .crew _ _ _, _ => id
  | .hand d _, _ => @ConcN.RW.refl d.pay _ _ _ _ _ _ _
theorem Ext.rel_trans : ∀ (e : Ext) {a b c : World}, e.rel a b → e.rel b c → e.rel a c
  | .alone, _, _, _, _, _ => trivial
  | .crew _ _ _, _, _, _, h, k => k ∘ h
  | .hand d _, _, _, _, h, k => @ConcN.RW.trans d.pay _ _ _ _ _ _ _ _ _ h k
def Ext.live : Ext → World → Prop
  | .hand d _, w => @ConcN.PayAt d.pay d.C d.n w ∧ ConcN.WgLive d.ty d.Wg w
  | _, _ => True
def Ext.act : Ext → World → World → Array Event → Prop
  | .hand d i, w, w', es => @ConcN.AsideCell d.pay d.C d.n i w w' ∧ ∀ e ∈ es, e = ⟨.cell ⟨d.C, i, none⟩, true, false⟩ ∨ ∃ k, e = ⟨.mark k, false, true⟩ ∧ Neutral k
  | _, _, _, _ => False

structure RelyB (vis : Nat → Prop) (w w₁ : World) : Prop where
  os : w₁.os = w.os
  tape : w₁.tape = w.tape
  output : w₁.output = w.output
  size : w.heap.size ≤ w₁.heap.size
  block : ∀ b, vis b → w₁.heap[b]? = w.heap[b]?
structure Rely (V : Rig) (w w₁ : World) : Prop extends RelyB V.vis w w₁ where
  ext : V.ext.rel w w₁
  live : V.ext.live w₁
theorem RelyB.refl (vis : Nat → Prop) (w : World) : RelyB vis w w := ⟨rfl, rfl, rfl, Nat.le_refl _, fun _ _ => rfl⟩
theorem RelyB.trans {vis : Nat → Prop} {a b c : World} (h : RelyB vis a b) (k : RelyB vis b c) : RelyB vis a c :=
  ⟨k.os.trans h.os, k.tape.trans h.tape, k.output.trans h.output, Nat.le_trans h.size k.size, fun x hx => (k.block x hx).trans (h.block x hx)⟩
theorem Rely.refl {V : Rig} {w : World} (hl : V.ext.live w) : Rely V w w := ⟨.refl _ _, V.ext.rel_refl w, hl⟩
theorem Rely.trans {V : Rig} {a b c : World} (h : Rely V a b) (k : Rely V b c) : Rely V a c := ⟨h.toRelyB.trans k.toRelyB, V.ext.rel_trans h.ext k.ext, k.live⟩

def EvG (V : Rig) (n m : Nat) (e : Event) : Prop := (∃ (a : Addr) (wr : Bool), e = ⟨.cell a, wr, false⟩ ∧ ((V.vis a.block ∧ (wr = true → V.mine a.block)) ∨ (n ≤ a.block ∧ a.block < m))) ∨ (∃ k, e = ⟨.mark k, false, true⟩ ∧ Neutral k) ∨ (V.ext = .alone ∧ ∃ (r : Nat) (wr : Bool), e = ⟨.obj r, wr, false⟩ ∧ (V.mine r ∨ (n ≤ r ∧ r < m)))
structure Guar0 (V : Rig) (w w' : World) (es : Array Event) : Prop where
  os : w'.os = w.os
  tape : w'.tape = w.tape
  output : w'.output = w.output
  size : w.heap.size ≤ w'.heap.size
  block : ∀ b, b < w.heap.size → ¬ V.mine b → w'.heap[b]? = w.heap[b]?
  evs : ∀ e ∈ es, EvG V w.heap.size w'.heap.size e
def Guar (V : Rig) (w w' : World) (es : Array Event) : Prop := Guar0 V w w' es ∨ V.ext.act w w' es
theorem Guar.of {V : Rig} {w w' : World} {es : Array Event} (h1 : w'.os = w.os) (h2 : w'.tape = w.tape) (h3 : w'.output = w.output) (h4 : w.heap.size ≤ w'.heap.size) (h5 : ∀ b, b < w.heap.size → ¬ V.mine b → w'.heap[b]? = w.heap[b]?) (h6 : ∀ e ∈ es, EvG V w.heap.size w'.heap.size e) : Guar V w w' es :=
  .inl ⟨h1, h2, h3, h4, h5, h6⟩
theorem Guar.idle (V : Rig) (w : World) : Guar V w w #[] := .of rfl rfl rfl (Nat.le_refl _) (fun _ _ _ => rfl) (fun e he => by simp at he)
theorem Guar.drew (V : Rig) (w : World) : Guar V w { w with drawn := w.drawn + 1 } #[] := .of rfl rfl rfl (Nat.le_refl _) (fun _ _ _ => rfl) (fun e he => by simp at he)
theorem mem_seen {P : Program} {fn : FuncId} {es : Array Event} {e : Event} (h : e ∈ seen P fn es) : e ∈ es := by
  unfold seen at h
  revert h
  refine Array.foldl_induction (motive := fun _ (x : Bool × Array Event) => e ∈ x.2 → e ∈ es) (fun h => by simp at h) fun i x ih h => ?_
  dsimp only at h
  split at h
  · exact ih h
  · split at h
    · exact ih h
    · rcases Array.mem_push.1 h with h | h
      · exact ih h
      · rw [h]; exact Array.getElem_mem _
theorem Guar.seen {V : Rig} {w w' : World} {es : Array Event} (P : Program) (fn : FuncId) (h : Guar V w w' es) : Guar V w w' (Go.seen P fn es) := by
  rcases h with h | h
  · exact .of h.os h.tape h.output h.size h.block fun e he => h.evs e (mem_seen he)
  · refine .inr ?_
    revert h
    cases V.ext with
    | hand d i => exact fun h => ⟨h.1, fun e he => h.2 e (mem_seen he)⟩
    | _ => exact id

structure CI0 (P : Program) (V : Rig) (gs : Array Goroutine) (w : World) (t : Trace) : Prop where
  ext : V.ext = .alone
  ex : ∃ q Shun, Leavers P t gs q ∧ Past Shun w.heap.size t ∧ ∀ l, Shun l → ∃ a : Addr, l = .cell a ∧ a.block < w.heap.size ∧ ¬ V.vis a.block
  lt : ∀ b, V.vis b → b < w.heap.size
  sub : ∀ b, V.mine b → V.vis b
def Reached (P : Program) (ok : Rig → Goroutine → World → Prop) (m : Machine) (t : Trace) : Prop :=
  ∃ (N : Nat) (gs : Array Goroutine) (w : World) (sl : Option (Nat × Nat)) (t' : Trace) (V : Rig) (g : Goroutine), runNT P N m t = (.next (crowd gs w sl), t') ∧ gs[0]? = some g ∧ CI0 P V gs w t' ∧ ok V g w
def Big (P : Program) (ok : Rig → Goroutine → World → Prop) (V : Rig) (g : Goroutine) (w : World) : Prop :=
  ∀ (gs : Array Goroutine) (w₁ : World) (sl : Option (Nat × Nat)) (t : Trace), Rely V w w₁ → gs[0]? = some g → CI0 P V gs w₁ t → Reached P ok (crowd gs w₁ sl) t
end Go.Eng
