/- My walking engine, part 3: abstract values of Go, and the rules of a walk over them. No program in sight. -/
import Derived.Test.YtkieepmkcaipaaaGreatZ1
import Derived.Conc.WgGenN2
import Derived.Test.YtkieepmkcaipaaaGreatZ2
import Derived.Laws.StructEq
import Derived.Conc.WgGenN3
namespace Go.Eng
open Go Go.Conc Go.ConcN
open Go.ConcR (KK wgBlock WgAt stA smA rd wr mk DC0 Bk g_of_ofEvents bk_of_mute ofEvent_loc_mark)

/-! ### (1) -/
inductive Rk
  | zero
  | sup (f : World → Rk)
def Rk.lt (a b : Rk) : Prop := ∃ f w, b = .sup f ∧ a = f w
theorem Rk.acc : ∀ r : Rk, Acc Rk.lt r
  | .zero => ⟨_, fun _ ⟨_, _, h, _⟩ => by cases h⟩
  | .sup f => ⟨_, fun a ⟨g, w, h, e⟩ => by cases h; rw [e]; exact Rk.acc (f w)⟩
abbrev Ms := Nat × Rk × Nat
def Ms.lt : Ms → Ms → Prop := Prod.Lex (· < ·) (Prod.Lex Rk.lt (· < ·))
theorem Ms.wf : WellFounded Ms.lt := (Prod.lex ⟨_, Nat.lt_wfRel.wf⟩ (Prod.lex ⟨_, ⟨Rk.acc⟩⟩ ⟨_, Nat.lt_wfRel.wf⟩)).wf
/-- One of the first n goes down, the others stay. -/
def Dec (n : Nat) (f' f : Nat → Ms) : Prop := ∃ i, i < n ∧ Ms.lt (f' i) (f i) ∧ ∀ j, j ≠ i → f' j = f j
theorem Dec.congr {n : Nat} {f : Nat → Ms} (h : Acc (Dec n) f) : ∀ g, (∀ i, i < n → g i = f i) → Acc (Dec n) g := by
  induction h with
  | intro f _ ih =>
    intro g hg
    refine ⟨_, fun g' ⟨i, hi, hlt, ho⟩ => ih (upd f i (g' i)) ⟨i, hi, by rw [upd_same, ← hg i hi]; exact hlt, fun j hj => upd_ne f _ hj⟩ g' fun j hj => ?_⟩
    by_cases e : j = i
    · subst e; rw [upd_same]
    · rw [upd_ne f _ e, ho j e, hg j hj]
theorem Dec.acc : ∀ (n : Nat) (f : Nat → Ms), Acc (Dec n) f
  | 0, _ => ⟨_, fun _ ⟨_, h, _⟩ => absurd h (Nat.not_lt_zero _)⟩
  | n + 1, f => by
    have key : ∀ a, Acc Ms.lt a → ∀ f, Acc (Dec n) f → f n = a → Acc (Dec (n + 1)) f := by
      intro a ha
      induction ha with
      | intro a _ iha =>
        intro f hf
        induction hf with
        | intro f hf' ihf =>
          intro he
          refine ⟨_, fun f' ⟨i, hi, hlt, ho⟩ => ?_⟩
          by_cases e : i = n
          · subst e
            exact iha (f' i) (he ▸ hlt) f' (Dec.congr ⟨_, hf'⟩ f' fun j hj => ho j (by omega)) rfl
          · exact ihf f' ⟨i, by omega, hlt, ho⟩ (by rw [ho n (Ne.symm e), he])
    exact key (f n) (Ms.wf.apply _) f (Dec.acc n f) rfl

/-! ### (2) -/
section
variable (Sh : Loc → Prop) (B : Nat) (vis mine : Nat → Nat → Prop) (cel : Nat → Addr → Prop)
/-- What the goroutines see and own lies apart. -/
structure TG : Prop where
  sub : ∀ g b, mine g b → vis g b
  lt : ∀ g b, vis g b → b < B
  ap : ∀ g g' b, g ≠ g' → mine g b → ¬ vis g' b
  cv : ∀ g g' a, cel g a → ¬ vis g' a.block
  cc : ∀ g g' a, cel g a → cel g' a → g = g'
  sv : ∀ g a, Sh (.cell a) → ¬ vis g a.block
  sc : ∀ g a, Sh (.cell a) → ¬ cel g a
  sb : ∀ a, Sh (.cell a) → a.block < B
  cb : ∀ g a, cel g a → a.block < B
structure TI (t : Trace) : Prop where
  nr : ∀ said, ¬ Race said t
  low : ∀ op ∈ t, op.act.low B
  quiet : Quiet Sh t
  pv : ∀ g (a : Addr), vis g a.block → PermW t g (.cell a)
  pm : ∀ g (a : Addr), mine g a.block → Perm t g (.cell a)
  pc : ∀ g a, cel g a → Perm t g (.cell a)
/-- What goroutine g may touch. -/
def OkT (g : Nat) (x : Touch) : Prop :=
  (Sh x.loc ∧ x.kind ≠ .plain ∧ (x.kind = .said → g = 0)) ∨
    ∃ a, x.loc = .cell a ∧ x.kind = .plain ∧ ((vis g a.block ∧ (x.write = true → mine g a.block)) ∨ cel g a ∨ B ≤ a.block)
end
section
variable {Sh : Loc → Prop} {B B' : Nat} {vis mine vis' mine' : Nat → Nat → Prop} {cel : Nat → Addr → Prop} {t u : Trace} {g : Nat}
theorem low_touch {op : MemOp} {x : Touch} {a : Addr} (h : op.act.low B) (hx : op.act.touch? = some x) (hl : x.loc = .cell a) : a.block < B := by
  revert h hx
  cases op.act with
  | access e =>
    intro h hx
    simp only [MemAct.touch?, Option.some.injEq] at hx
    subst hx
    simp only at hl
    rw [MemAct.low, hl] at h
    exact h
  | mark m =>
    cases m <;> intro h hx <;> simp only [MemAct.touch?, Option.some.injEq] at hx <;> first | (cases hx; done) | (subst hx; cases (show Loc.cell _ = Loc.cell a from hl); exact h)
  | _ => intro _ hx; simp [MemAct.touch?] at hx
theorem TI.grow (h : TI Sh B vis mine cel t) (G : TG Sh B vis mine cel) (hB : B ≤ B') (hu : ∀ op ∈ u, op.g = g) (hlow : ∀ op ∈ u, op.act.low B') (hok : ∀ op ∈ u, ∀ x, op.act.touch? = some x → OkT Sh B vis mine cel g x)
    (hv : ∀ k b, vis' k b → vis k b ∨ (k = g ∧ B ≤ b ∧ b < B')) (hm : ∀ k b, mine' k b → mine k b ∨ (k = g ∧ B ≤ b ∧ b < B')) : TI Sh B' vis' mine' cel (t ++ u) := by
  have fresh : ∀ {a : Addr}, B ≤ a.block → ∀ (k : Nat), k = g → Perm (t ++ u) k (.cell a) := by
    rintro a ha k rfl i x hx hl
    obtain ⟨op, ho, hox⟩ := touch_of hx
    rcases getElem?_append_cases ho with ⟨_, ho'⟩ | ⟨_, hou⟩
    · have := low_touch (h.low op (Array.mem_of_getElem? ho')) hox hl
      omega
    · have := knows_own ho
      rwa [hu op hou] at this
  have pw : ∀ k (a : Addr), vis k a.block → PermW (t ++ u) k (.cell a) := fun k a hk => (h.pv k a hk).app fun op hop x hx hl hw => by
    rcases hok op hop x hx with ⟨hs, _⟩ | ⟨a', e, _, h1 | h1 | h1⟩
    · rw [hl] at hs; exact absurd hk (G.sv k a hs)
    · rw [hl] at e; cases e
      by_cases hkg : g = k
      · rw [hu op hop, hkg]
      · exact absurd hk (G.ap g k _ hkg (h1.2 hw))
    · rw [hl] at e; cases e
      exact absurd hk (G.cv g k _ h1)
    · rw [hl] at e; cases e
      have := G.lt k _ hk
      omega
  have pm : ∀ k (a : Addr), mine k a.block → Perm (t ++ u) k (.cell a) := fun k a hk => (h.pm k a hk).app fun op hop x hx hl => by
    rcases hok op hop x hx with ⟨hs, _⟩ | ⟨a', e, _, h1 | h1 | h1⟩
    · rw [hl] at hs; exact absurd (G.sub k _ hk) (G.sv k a hs)
    · rw [hl] at e; cases e
      by_cases hkg : k = g
      · rw [hu op hop, hkg]
      · exact absurd h1.1 (G.ap k g _ hkg hk)
    · rw [hl] at e; cases e
      exact absurd (G.sub k _ hk) (G.cv g k _ h1)
    · rw [hl] at e; cases e
      have := G.lt k _ (G.sub k _ hk)
      omega
  refine ⟨fun said => noRace_append (h.nr said) hu fun i a ha op hop b hb hc => ?_, fun op hop => (Array.mem_append.1 hop).elim (fun h' => MemAct.low_mono hB (h.low op h')) (hlow op), h.quiet.app fun op hop x hx hs => ?_, fun k a hk => ?_, fun k a hk => ?_, fun k a hk => (h.pc k a hk).app fun op hop x hx hl => ?_⟩
  · rcases hok op hop b hb with ⟨hs, h1, h2⟩ | ⟨a', e, _, h1 | h1 | h1⟩
    · exact h.quiet.known hs h1 h2 i a ha hc
    · cases hbw : b.write with
      | true => exact h.pm g a' (h1.2 hbw) i a ha (hc.1.trans e)
      | false => exact h.pv g a' h1.1 i a ha (hc.1.trans e) (hc.2.2.1.resolve_right (by simp [hbw]))
    · exact h.pc g a' h1 i a ha (hc.1.trans e)
    · obtain ⟨op', ho', hox'⟩ := touch_of ha
      have := low_touch (h.low op' (Array.mem_of_getElem? ho')) hox' (hc.1.trans e)
      omega
  · rcases hok op hop x hx with ⟨_, h1, h2⟩ | ⟨a', e, hk, h1 | h1 | h1⟩
    · exact ⟨h1, fun e => by rw [hu op hop]; exact h2 e⟩
    · rw [e] at hs; exact absurd h1.1 (G.sv g a' hs)
    · rw [e] at hs; exact absurd h1 (G.sc g a' hs)
    · rw [e] at hs; have := G.sb a' hs; omega
  · rcases hv k _ hk with h1 | ⟨h1, h2, _⟩
    · exact pw k a h1
    · exact .of (fresh h2 k h1)
  · rcases hm k _ hk with h1 | ⟨h1, h2, _⟩
    · exact pm k a h1
    · exact fresh h2 k h1
  · rcases hok op hop x hx with ⟨hs, _⟩ | ⟨a', e, _, h1 | h1 | h1⟩
    · rw [hl] at hs; exact absurd hk (G.sc k a hs)
    · rw [hl] at e; cases e
      exact absurd h1.1 (G.cv k g _ hk)
    · rw [hl] at e; cases e
      rw [hu op hop]; exact G.cc g k _ h1 hk
    · rw [hl] at e; cases e
      have := G.cb k _ hk
      omega
/-- Less is seen, less is owned. -/
theorem TI.less {cel' : Nat → Addr → Prop} (h : TI Sh B vis mine cel t) (hv : ∀ k b, vis' k b → vis k b) (hm : ∀ k b, mine' k b → mine k b) (hc : ∀ k a, cel' k a → cel k a) : TI Sh B vis' mine' cel' t :=
  ⟨h.nr, h.low, h.quiet, fun g a hk => h.pv g a (hv g _ hk), fun g a hk => h.pm g a (hm g _ hk), fun g a hk => h.pc g a (hc g a hk)⟩
/-- A go STATEMENT: the child sees what the starter sees; a cell of the starter's goes over to it. -/
theorem TI.fork {cel' : Nat → Addr → Prop} {c : Nat} (h : TI Sh B vis mine cel t) {x y : MemOp} (hx : x.g = 0 ∧ x.act = .go c) (hy : y.g = c ∧ y.act = .start) (h0 : Deaf t 0 = 0) (hk : Deaf t c = 0)
    (hv : ∀ k b, vis' k b → vis k b ∨ (k = c ∧ vis 0 b)) (hm : ∀ k b, mine' k b → mine k b) (hc : ∀ k a, cel' k a → cel k a ∨ (k = c ∧ cel 0 a)) : TI Sh B vis' mine' cel' (t ++ #[x, y]) := by
  have hnt : ∀ op ∈ #[x, y], ∀ b, op.act.touch? = some b → False := by
    intro op hop b hb
    simp only [List.mem_toArray, List.mem_cons, List.not_mem_nil, or_false] at hop
    rcases hop with rfl | rfl
    · rw [hx.2] at hb; cases hb
    · rw [hy.2] at hb; cases hb
  have old : ∀ {i : Nat} {a : Touch}, touchAt (t ++ #[x, y]) i = some a → touchAt t i = some a := by
    intro i a ha
    obtain ⟨z, hz, hza⟩ := touch_of ha
    rcases getElem?_append_cases hz with ⟨_, hz'⟩ | ⟨_, hzu⟩
    · rw [touchAt_of hz']; exact hza
    · exact (hnt z hzu a hza).elim
  refine ⟨fun said => ?_, fun op hop => ?_, h.quiet.app fun op hop b hb _ => (hnt op hop b hb).elim, fun k a hkv => ?_, fun k a hkm => (h.pm k a (hm k _ hkm)).app fun op hop b hb _ => (hnt op hop b hb).elim, fun k a hkc => ?_⟩
  · have e : t ++ #[x, y] = (t ++ #[x]) ++ #[y] := by apply Array.ext'; simp
    rw [e]
    refine noRace_append (g := c) (noRace_append (g := 0) (h.nr said) (fun op hop => by simp at hop; rw [hop]; exact hx.1) (fun i a _ op hop b hb _ => (hnt op (by simp at hop ⊢; exact .inl hop) b hb).elim))
      (fun op hop => by simp at hop; rw [hop]; exact hy.1) (fun i a _ op hop b hb _ => (hnt op (by simp at hop ⊢; exact .inr hop) b hb).elim)
  · rcases Array.mem_append.1 hop with h1 | h1
    · exact h.low op h1
    · simp only [List.mem_toArray, List.mem_cons, List.not_mem_nil, or_false] at h1
      rcases h1 with rfl | rfl
      · rw [hx.2]; trivial
      · rw [hy.2]; trivial
  · rcases hv k _ hkv with h1 | ⟨rfl, h1⟩
    · exact (h.pv k a h1).app fun op hop b hb _ _ => (hnt op hop b hb).elim
    · exact fun i z hz e hw => fork_knows hx hy h0 hk (h.pv 0 a h1 i z (old hz) e hw)
  · rcases hc k a hkc with h1 | ⟨rfl, h1⟩
    · exact (h.pc k a h1).app fun op hop b hb _ => (hnt op hop b hb).elim
    · exact fun i z hz e => fork_knows hx hy h0 hk (h.pc 0 a h1 i z (old hz) e)
end

/-! ### (3) -/
/-- Whatever the others do, within a number of steps that falls it stands where S holds. -/
def TreeR (P : Program) (S : Rig → Goroutine → World → Prop) : Rk → Rig → Goroutine → World → Prop
  | .zero, V, g, w => g.status = .running ∧ ∀ w₁, Rely V w w₁ → S V g w₁
  | .sup f, V, g, w => g.status = .running ∧ ((∀ w₁, Rely V w w₁ → S V g w₁) ∨ ∀ w₁, Rely V w w₁ → ∃ g' w' es, stepG P false g w₁ = .go g' w' es ∧ Guar V w₁ w' es ∧ TreeR P S (f w₁) (V.grow w₁.heap.size w'.heap.size) g' w')
section
variable {P : Program} {S : Rig → Goroutine → World → Prop}
theorem TreeR.rely : ∀ {r : Rk} {V : Rig} {g : Goroutine} {w w₁ : World}, TreeR P S r V g w → Rely V w w₁ → TreeR P S r V g w₁
  | .zero, _, _, _, _, h, r => ⟨h.1, fun w₂ r₂ => h.2 w₂ (r.trans r₂)⟩
  | .sup _, _, _, _, _, h, r => ⟨h.1, h.2.imp (fun h w₂ r₂ => h w₂ (r.trans r₂)) fun h w₂ r₂ => h w₂ (r.trans r₂)⟩
theorem TreeR.running {r : Rk} {V : Rig} {g : Goroutine} {w : World} (h : TreeR P S r V g w) : g.status = .running := by
  cases r <;> exact h.1
theorem TreeR.cases {r : Rk} {V : Rig} {g : Goroutine} {w : World} (h : TreeR P S r V g w) (hl : V.ext.live w) : S V g w ∨ ∃ r', Rk.lt r' r ∧ ∃ g' w' es, stepG P false g w = .go g' w' es ∧ Guar V w w' es ∧ TreeR P S r' (V.grow w.heap.size w'.heap.size) g' w' := by
  cases r with
  | zero => exact .inl (h.2 w (Rely.refl hl))
  | sup f =>
    rcases h.2 with h | h
    · exact .inl (h w (Rely.refl hl))
    · exact .inr ⟨f w, ⟨f, w, rfl, rfl⟩, h w (Rely.refl hl)⟩
end
/-- A hand's logic: it comes to where S holds. -/
def LH (P : Program) (S : Rig → Goroutine → World → Prop) : Lg P where
  main := false
  ok V g w := V.ext = .alone ∨ ∃ r, TreeR P S r V g w
  rely h r := h.imp id fun ⟨k, h⟩ => ⟨k, h.rely r⟩
  step := by
    intro V g w hs h
    by_cases e : V.ext = .alone
    · exact .inl e
    refine .inr ?_
    have key : ∀ w₁, ∃ r : Rk, Rely V w w₁ → ∃ g' w' es, stepG P false g w₁ = .go g' w' es ∧ Guar V w₁ w' es ∧ TreeR P S r (V.grow w₁.heap.size w'.heap.size) g' w' := by
      intro w₁
      by_cases hr : Rely V w w₁
      · obtain ⟨g', w', es, h1, h2, h3⟩ := h w₁ hr
        rcases h3 with h3 | ⟨r, h3⟩
        · exact absurd h3 e
        · exact ⟨r, fun _ => ⟨g', w', es, h1, h2, h3⟩⟩
      · exact ⟨.zero, fun h => absurd h hr⟩
    exact ⟨.sup fun w₁ => (key w₁).choose, hs, .inr fun w₁ hr => (key w₁).choose_spec hr⟩
  big h _ := .inl h
theorem LH.stop {P : Program} {S : Rig → Goroutine → World → Prop} {V : Rig} {g : Goroutine} {w : World} (hs : g.status = .running) (h : ∀ w₁, Rely V w w₁ → S V g w₁) : (LH P S).ok V g w := .inr ⟨.zero, hs, h⟩

/-! ### (4) THE CREW -/
def Tag.k : Tag → CTag
  | .opn p _ _ => if p = 1 then .sp 0 3 else .anch
  | .reg => .w3
  | .fin _ => .w4
def Tag.deaf : Tag → Nat
  | .opn _ d _ => d
  | .reg => 1
  | .fin d => d
def Tag.p : Tag → Nat
  | .opn p _ _ => if p = 1 then 1 else 0
  | _ => 0
def Tag.bound (tag : Tag) (v : Nat) : Prop := match tag with
  | .opn _ _ b => v ≤ b
  | _ => True
/-- Where a hand hands in. -/
def HStop (P : Program) (d : CDat) (i : Nat) (V : Rig) (g : Goroutine) (w : World) : Prop := ∃ v, @Go.ConcN.AtR0 d.pay P d.ty d.Wg d.C d.n 0 (i + 1) v g w ∧ d.Res i V.vis v w
def Sit (P : Program) (d : CDat) (i : Nat) (R : Rig) (D : WD) (r : Rk) (v : Value) (g : Goroutine) (w : World) : Prop :=
  (D.stage = 7 ∧ D.deaf = 0 ∧ TreeR P (HStop P d i) r R g w) ∨ (D.stage ≤ 6 ∧ @WSit d.pay P d.ty d.Wg d.C d.n (fun _ _ => False) (fun _ _ => False) 0 (i + 1) v D.stage D.fuel D.deaf g w)
def crewCel (d : CDat) (j : Nat) (g : Nat) (a : Addr) : Prop := ∃ i, i < d.n ∧ a = ⟨d.C, i, none⟩ ∧ ((g = 0 ∧ j ≤ i) ∨ (g = d.off + i ∧ i < j))
structure Crew (P : Program) (d : CDat) (j : Nat) (tag : Tag) (R : Nat → Rig) (gs : Array Goroutine) (w : World) (t : Trace) (D : Nat → WD) (rk : Nat → Rk) (val : Nat → Value) (q : Nat → Nat) (Shun : Loc → Prop) : Prop where
  ext0 : (R 0).ext = .crew d j tag
  jn : j + tag.p ≤ d.n
  n31 : d.n < 2147483648
  off : 1 ≤ d.off
  size : gs.size = d.off + j
  old : ∀ k g, 0 < k → k < d.off → gs[k]? = some g → QuitsD P (q k) (Deaf t k) g
  wk : ∀ i, i < j → ∃ g, gs[d.off + i]? = some g ∧ Sit P d i (R (d.off + i)) (D i) (rk i) (val i) g w
  dfw : ∀ i, i < j → Deaf t (d.off + i) = (D i).deaf
  above : ∀ k, d.off + j ≤ k → Deaf t k = 0
  deaf0 : Deaf t 0 = tag.deaf
  ext : ∀ i, i < j → (R (d.off + i)).ext = .hand d i
  tg : TG (ShN d.Wg) w.heap.size (fun g => (R g).vis) (fun g => (R g).mine) (crewCel d j)
  ti : TI (ShN d.Wg) w.heap.size (fun g => (R g).vis) (fun g => (R g).mine) (crewCel d j) t
  visC : ∀ g, ¬ (R g).vis d.C
  dn : ∀ g b, (R g).vis b → d.dn b
  dnw : ∀ b, d.Wg ≤ b → d.dn b
  nob : ∀ k, 0 < k → k < d.off ∨ d.off + j ≤ k → ∀ b, ¬ (R k).vis b
  CW : d.C ≠ d.Wg
  Wlt : d.Wg < w.heap.size
  Clt : d.C < w.heap.size
  shun : ∀ a, Shun (.cell a) → a.block < w.heap.size ∧ a.block ≠ d.C ∧ a.block ≠ d.Wg ∧ ∀ g, ¬ (R g).vis a.block
  norel : ∀ op ∈ t, op.act ≠ .mark (.release (stA d.Wg))
  rel : ∀ i, i < j → (D i).stage ≤ 6 → ∃ r, RelBy (stA d.Wg) t (d.off + i) r
  has : ∀ i, i < j → (D i).stage ≤ 6 → Has d.C i (val i) w ∧ d.Res i (R (d.off + i)).vis (val i) w
  pay : @PayAt d.pay d.C d.n w
  bound : tag.bound (Vc j D)
  known : ∀ i a, touchAt t i = some a → a.loc.isMemory = true → Knows t 0 i ∨ (Shun a.loc ∧ a.kind = .atomic) ∨ (ShN d.Wg a.loc ∧ a.kind = .atomic) ∨ (∃ k, k < j ∧ t.g? i = some (d.off + k) ∧ a.kind ≠ .atomic)
  over : ∀ i g, t.g? i = some g → g ≠ 0 → t.counts i → (∃ m, t.g? m = some 0 ∧ HappensBefore t i m) ∨ ∃ k, k < j ∧ g = d.off + k
section
variable {Sh : Loc → Prop} {B B' : Nat} {vis mine vis' mine' : Nat → Nat → Prop} {cel : Nat → Addr → Prop} {g : Nat}
theorem TG.grow (G : TG Sh B vis mine cel) (hB : B ≤ B') (hs : ∀ k b, mine' k b → vis' k b)
    (hv : ∀ k b, vis' k b → vis k b ∨ (k = g ∧ B ≤ b ∧ b < B')) (hm : ∀ k b, mine' k b → mine k b ∨ (k = g ∧ B ≤ b ∧ b < B')) : TG Sh B' vis' mine' cel where
  sub := hs
  lt k b h := (hv k b h).elim (fun h => Nat.lt_of_lt_of_le (G.lt k b h) hB) (·.2.2)
  ap k k' b hne h h' := by
    rcases hm k b h with h1 | ⟨rfl, h1, _⟩ <;> rcases hv k' b h' with h2 | ⟨e, h2, _⟩
    · exact G.ap k k' b hne h1 h2
    · have := G.lt k b (G.sub k b h1); omega
    · have := G.lt k' b h2; omega
    · exact hne e.symm
  cv k k' a h h' := by
    rcases hv k' _ h' with h2 | ⟨_, h2, _⟩
    · exact G.cv k k' a h h2
    · have := G.cb k a h; omega
  cc := G.cc
  sv k a h h' := by
    rcases hv k _ h' with h2 | ⟨_, h2, _⟩
    · exact G.sv k a h h2
    · have := G.sb a h; omega
  sc := G.sc
  sb a h := Nat.lt_of_lt_of_le (G.sb a h) hB
  cb k a h := Nat.lt_of_lt_of_le (G.cb k a h) hB
end

section
variable {P : Program} {d : CDat} {i : Nat} {R : Rig} {D : WD} {r : Rk} {v : Value} {g : Goroutine} {w w₁ : World}
theorem HStop.running {V : Rig} (h : HStop P d i V g w) : g.status = .running := h.choose_spec.1.1
theorem Sit.rely (h : Sit P d i R D r v g w) (hr : @Go.ConcN.RW d.pay d.ty d.Wg d.C d.n 0 i w w₁) (hR : Rely R w w₁) : Sit P d i R D r v g w₁ := by
  letI := d.pay
  exact h.imp (fun h => ⟨h.1, h.2.1, h.2.2.rely hR⟩) fun h => ⟨h.1, h.2.rely hr⟩
theorem Sit.status (h : Sit P d i R D r v g w) : g.status = .running ∨ g.status = .finished := by
  letI := d.pay
  exact h.elim (fun h => .inl h.2.2.running) fun h => h.2.status
theorem Sit.woken (h : Sit P d i R D r v g w) (a a' : Goroutine) (w' : World) : woken P a a' w' g = g := by
  unfold Go.Conc.woken
  split
  · exact again_running _ h.status
  · rfl
end

section
variable {P : Program} {d : CDat} {j : Nat} {tag tag' : Tag} {R : Nat → Rig} {gs : Array Goroutine} {w w' : World} {t : Trace} {D D' : Nat → WD} {rk rk' : Nat → Rk} {val val' : Nat → Value} {q : Nat → Nat} {Shun : Loc → Prop}
theorem Crew.visW (h : Crew P d j tag R gs w t D rk val q Shun) (g : Nat) : ¬ (R g).vis d.Wg := h.tg.sv g ⟨d.Wg, 0, none⟩ ⟨_, rfl, rfl⟩
/-- What one goroutine does leaves what the others see. -/
theorem Crew.keeps (h : Crew P d j tag R gs w t D rk val q Shun) {k : Nat} (hB : RelyB (fun b => b < w.heap.size ∧ b ≠ d.Wg ∧ b ≠ d.C ∧ ¬ (R k).mine b) w w') {g : Nat} (hg : g ≠ k) : RelyB (R g).vis w w' :=
  ⟨hB.os, hB.tape, hB.output, hB.size, fun b hb => hB.block b ⟨h.tg.lt g b hb, fun e => h.visW g (e ▸ hb), fun e => h.visC g (e ▸ hb), fun hm => h.tg.ap k g b (Ne.symm hg) hm hb⟩⟩
/-- A STEP OF GOROUTINE k's: the starter's or a hand's. -/
theorem Crew.step (h : Crew P d j tag R gs w t D rk val q Shun) {k : Nat} {g g' : Goroutine} {fn : FuncId} {pos : String} {es : Array Event} {Rk' : Rig}
    {q' : Nat → Nat} (hk : (k = 0 ∨ ∃ i, i < j ∧ k = d.off + i) ∨ (0 < k ∧ k < d.off ∧ ∀ op ∈ MemOp.ofEvents k fn pos es, op.act.touch? = none))
    (hq : ∀ k', 0 < k' → k' < d.off → k' ≠ k → q' k' = q k') (hqk : 0 < k → k < d.off → QuitsD P (q' k) (deafBehind (Deaf t k) es) g')
    (hnew : k < d.off → 0 < k → ∀ b, ¬ (w.heap.size ≤ b ∧ b < w'.heap.size))
    (hsame : ∀ i, i < j → d.off + i ≠ k → D' i = D i ∧ rk' i = rk i ∧ val' i = val i)
    (hv : ∀ b, Rk'.vis b → (R k).vis b ∨ (w.heap.size ≤ b ∧ b < w'.heap.size)) (hm : ∀ b, Rk'.mine b → (R k).mine b ∨ (w.heap.size ≤ b ∧ b < w'.heap.size)) (hsub : ∀ b, Rk'.mine b → Rk'.vis b)
    (hB : RelyB (fun b => b < w.heap.size ∧ b ≠ d.Wg ∧ b ≠ d.C ∧ ¬ (R k).mine b) w w')
    (hcell : ∀ i, i < j → d.off + i ≠ k → w'.cell? ⟨d.C, i, none⟩ = w.cell? ⟨d.C, i, none⟩) (hlive : WgLive d.ty d.Wg w') (hpay : @PayAt d.pay d.C d.n w')
    (hok : ∀ op ∈ MemOp.ofEvents k fn pos es, ∀ x, op.act.touch? = some x → OkT (ShN d.Wg) w.heap.size (fun g => (R g).vis) (fun g => (R g).mine) (crewCel d j) k x)
    (hlow : ∀ op ∈ MemOp.ofEvents k fn pos es, op.act.low w'.heap.size) (hnr : ∀ op ∈ MemOp.ofEvents k fn pos es, op.act ≠ .mark (.release (stA d.Wg)))
    (hkind : k < d.off ∨ ∀ op ∈ MemOp.ofEvents k fn pos es, ∀ x, op.act.touch? = some x → (ShN d.Wg x.loc ∧ x.kind = .atomic) ∨ x.kind ≠ .atomic)
    (hext0 : (upd R k Rk' 0).ext = .crew d j tag') (hdf0 : Deaf (t ++ MemOp.ofEvents k fn pos es) 0 = tag'.deaf) (hjn : j + tag'.p ≤ d.n) (hbd : tag'.bound (Vc j D'))
    (hsit : ∀ i, i < j → d.off + i = k → Sit P d i Rk' (D' i) (rk' i) (val' i) g' w' ∧ Rk'.ext = .hand d i ∧ deafBehind (Deaf t k) es = (D' i).deaf ∧
      ((D' i).stage ≤ 6 → ∃ r, RelBy (stA d.Wg) (t ++ MemOp.ofEvents k fn pos es) k r) ∧ ((D' i).stage ≤ 6 → Has d.C i (val' i) w' ∧ d.Res i Rk'.vis (val' i) w')) :
    Crew P d j tag' (upd R k Rk') ((gs.map (woken P g g' w')).setIfInBounds k g') w' (t ++ MemOp.ofEvents k fn pos es) D' rk' val' q' Shun := by
  letI := d.pay
  have off := h.off
  have hkl : k < gs.size := by rw [h.size]; rcases hk with (rfl | ⟨i, _, rfl⟩) | hk <;> omega
  have hvis : ∀ g b, (upd R k Rk' g).vis b → (R g).vis b ∨ (g = k ∧ w.heap.size ≤ b ∧ b < w'.heap.size) := fun g b hb => by
    by_cases e : g = k
    · subst e; rw [upd_same] at hb; exact (hv b hb).imp id fun x => ⟨rfl, x⟩
    · rw [upd_ne R _ e] at hb; exact .inl hb
  have hmine : ∀ g b, (upd R k Rk' g).mine b → (R g).mine b ∨ (g = k ∧ w.heap.size ≤ b ∧ b < w'.heap.size) := fun g b hb => by
    by_cases e : g = k
    · subst e; rw [upd_same] at hb; exact (hm b hb).imp id fun x => ⟨rfl, x⟩
    · rw [upd_ne R _ e] at hb; exact .inl hb
  have hrw : ∀ i, i < j → d.off + i ≠ k → RW d.ty d.Wg d.C d.n 0 i w w' := fun i hi e => ⟨fun b hb => absurd hb (Nat.not_lt_zero _), fun _ => hlive, fun _ => hpay, hcell i hi e⟩
  have hother : ∀ {k'}, k ≠ k' → Deaf (t ++ MemOp.ofEvents k fn pos es) k' = Deaf t k' := fun e => Deaf_other t e _ g_of_ofEvents
  refine { ext0 := hext0, jn := hjn, n31 := h.n31, off := off, size := by simp [h.size], old := fun k' x h0 h1 hx => ?_, wk := fun i hi => ?_, dfw := fun i hi => ?_, above := fun k' hk' => ?_, deaf0 := hdf0, ext := fun i hi => ?_,
           tg := h.tg.grow (g := k) hB.size (fun k' b hb => ?_) hvis hmine, ti := h.ti.grow h.tg (g := k) hB.size g_of_ofEvents hlow hok hvis hmine, visC := fun g' hg' => ?_, dn := fun g' b hb => ?_, dnw := h.dnw, nob := fun k' h0 h1 b hb => ?_, CW := h.CW, Wlt := Nat.lt_of_lt_of_le h.Wlt hB.size, Clt := Nat.lt_of_lt_of_le h.Clt hB.size,
           shun := fun a ha => ?_, norel := fun op hop => (Array.mem_append.1 hop).elim (h.norel op) (hnr op), rel := fun i hi hs => ?_, has := fun i hi hs => ?_, pay := hpay, bound := hbd, known := fun i a ha hmem => ?_, over := fun i g hgi hne hc => ?_ }
  · by_cases e : k = k'
    · subst e
      rw [get_map_set_same _ _ _ hkl] at hx
      cases hx
      rw [Deaf_own]
      exact hqk h0 h1
    · rw [get_map_set _ _ _ _ e] at hx
      obtain ⟨y, hy, rfl⟩ := Option.map_eq_some_iff.1 hx
      have hq0 := h.old k' y h0 h1 hy
      rw [woken_quitsD hq0, hother e, hq k' h0 h1 (Ne.symm e)]
      exact hq0
  · by_cases e : d.off + i = k
    · exact ⟨g', by rw [e]; exact get_map_set_same _ _ _ hkl, by rw [e, upd_same]; exact (hsit i hi e).1⟩
    · obtain ⟨x, hx, hsx⟩ := h.wk i hi
      obtain ⟨e1, e2, e3⟩ := hsame i hi e
      refine ⟨x, by rw [get_map_set _ _ _ _ (Ne.symm e), hx, Option.map_some, hsx.woken], ?_⟩
      rw [e1, e2, e3, upd_ne R _ e]
      refine hsx.rely (hrw i hi e) ⟨h.keeps hB e, ?_, ?_⟩
      · rw [h.ext i hi]
        exact hrw i hi e
      · rw [h.ext i hi]
        exact ⟨hpay, hlive⟩
  · by_cases e : d.off + i = k
    · rw [← (hsit i hi e).2.2.1, e, Deaf_own]
    · rw [hother (Ne.symm e), h.dfw i hi, (hsame i hi e).1]
  · have : k ≠ k' := by rcases hk with (rfl | ⟨i, _, rfl⟩) | hk <;> omega
    rw [hother this]
    exact h.above k' hk'
  · by_cases e : d.off + i = k
    · rw [e, upd_same]; exact (hsit i hi e).2.1
    · rw [upd_ne R _ e]; exact h.ext i hi
  · by_cases e : k' = k
    · subst e; simp only [upd_same] at hb ⊢; exact hsub b hb
    · simp only [upd_ne R _ e] at hb ⊢; exact h.tg.sub k' b hb
  · rcases hvis g' _ hg' with h1 | ⟨_, h1, _⟩
    · exact h.visC g' h1
    · have := h.Clt; omega
  · rcases hvis g' _ hb with h1 | ⟨_, h1, _⟩
    · exact h.dn g' b h1
    · exact h.dnw b (by have := h.Wlt; omega)
  · by_cases e : k' = k
    · subst e
      rw [upd_same] at hb
      rcases hk with (rfl | ⟨i, _, rfl⟩) | hk
      · omega
      · omega
      · exact h.nob k' h0 h1 b ((hv b hb).resolve_right (hnew hk.2.1 h0 b))
    · rw [upd_ne R _ e] at hb
      exact h.nob k' h0 h1 b hb
  · obtain ⟨h1, h2, h3, h4⟩ := h.shun a ha
    refine ⟨Nat.lt_of_lt_of_le h1 hB.size, h2, h3, fun g hg => ?_⟩
    rcases hvis g _ hg with h5 | ⟨_, h5, _⟩
    · exact h4 g h5
    · omega
  · by_cases e : d.off + i = k
    · rw [e]; exact (hsit i hi e).2.2.2.1 hs
    · rw [(hsame i hi e).1] at hs
      obtain ⟨r, hr⟩ := h.rel i hi hs
      exact ⟨r, hr.appOther g_of_ofEvents (Ne.symm e)⟩
  · by_cases e : d.off + i = k
    · rw [e, upd_same]; exact (hsit i hi e).2.2.2.2 hs
    · obtain ⟨e1, _, e3⟩ := hsame i hi e
      rw [e1] at hs
      rw [e3, upd_ne R _ e]
      obtain ⟨h1, h2⟩ := h.has i hi hs
      exact ⟨(hcell i hi e).trans h1, d.keep (h.keeps hB e).block h2⟩
  · obtain ⟨x, hx, hxa⟩ := touch_of ha
    rcases getElem?_append_cases hx with ⟨hlt, hx'⟩ | ⟨_, hxu⟩
    · rcases h.known i a (by rw [touchAt_of hx']; exact hxa) hmem with h1 | h1 | h1 | ⟨k', h1, h2, h3⟩
      · exact .inl (h1.app _)
      · exact .inr (.inl h1)
      · exact .inr (.inr (.inl h1))
      · exact .inr (.inr (.inr ⟨k', h1, by rw [g?_old hlt]; exact h2, h3⟩))
    · have hg : x.g = k := g_of_ofEvents x hxu
      rcases hk with (rfl | ⟨i', hi', rfl⟩) | hk
      · have := knows_own hx
        rw [hg] at this
        exact .inl this
      · rcases hkind with h0 | hkind
        · omega
        rcases hkind x hxu a hxa with h1 | h1
        · exact .inr (.inr (.inl h1))
        · exact .inr (.inr (.inr ⟨i', hi', by simp [Trace.g?, hx, hg], h1⟩))
      · rw [hk.2.2 x hxu] at hxa; cases hxa
  · obtain ⟨op, hop, hog⟩ := Option.map_eq_some_iff.1 hgi
    rcases getElem?_append_cases hop with ⟨hi, hop'⟩ | ⟨_, hopu⟩
    · rcases h.over i g (by simp [Trace.g?, hop', hog]) hne ((counts_old hi).1 hc) with ⟨m, hm, hb⟩ | h1
      · obtain ⟨z, hz, _⟩ := Option.map_eq_some_iff.1 hm
        exact .inl ⟨m, by rw [g?_old (lt_size_of_getElem? hz)]; exact hm, hb_app _ hb⟩
      · exact .inr h1
    · have hg : op.g = k := g_of_ofEvents op hopu
      rw [hg] at hog
      rcases hk with (rfl | ⟨i', hi', rfl⟩) | hk
      · exact absurd hog.symm hne
      · exact .inr ⟨i', hi', hog.symm⟩
      · obtain ⟨x, hx, _⟩ := hc
        obtain ⟨y, hy, hyx⟩ := touch_of hx
        rw [hop] at hy; cases hy
        rw [hk.2.2 op hopu] at hyx; cases hyx
end

/-! ### (5) A STEP OF ANOTHER's -/
def crewMs (d : CDat) (D : Nat → WD) (rk : Nat → Rk) (q : Nat → Nat) (k : Nat) : Ms := if k < d.off then (1, .zero, q k) else ((D (k - d.off)).stage, rk (k - d.off), (D (k - d.off)).fuel)
/-- The starter runs, or is blocked at the semaphore. -/
def StartAt (a : Goroutine) (ct : CTag) : Prop := (a.status = .running ∧ ct ≠ .blk) ∨ (ct = .blk ∧ ∃ g0 : Goroutine, g0.status = .running ∧ g0.offers = none ∧ a = { g0 with status := .blocked })
/-- .. under another's step. -/
def StartBy (a : Goroutine) (ct : CTag) (a' : Goroutine) (ct' : CTag) : Prop := (a' = a ∧ ct' = ct) ∨ (ct = .blk ∧ ct' = .w3 ∧ a'.status = .running ∧ a'.offers = none ∧ a = { a' with status := .blocked })
theorem StartAt.woken {P : Program} {a : Goroutine} {ct : CTag} (h : StartAt a ct) (g g' : Goroutine) (w' : World) :
    ∃ ct', StartBy a ct (woken P g g' w' a) ct' ∧ StartAt (woken P g g' w' a) ct' ∧ (ct' = ct ∨ (ct = .blk ∧ ct' = .w3)) ∧ (mayWake P g = true → g'.status = .running → ct' ≠ .blk) := by
  unfold Go.Conc.woken
  split
  · rcases h with ⟨hs, hne⟩ | ⟨rfl, g0, h1, h2, rfl⟩
    · rw [again_running _ (.inl hs)]
      exact ⟨ct, .inl ⟨rfl, rfl⟩, .inl ⟨hs, hne⟩, .inl rfl, fun _ _ => hne⟩
    · rw [Go.ConcR.again_blocked h1 h2]
      exact ⟨.w3, .inr ⟨rfl, rfl, h1, h2, rfl⟩, .inl ⟨h1, by simp⟩, .inr ⟨rfl, rfl⟩, fun _ _ => by simp⟩
  · rename_i hc
    exact ⟨ct, .inl ⟨rfl, rfl⟩, h, .inl rfl, fun h1 h2 => absurd (by simp [h1, h2]) hc⟩
/-- What the crew is like, in short: with the group's state. -/
structure CrewM (P : Program) (d : CDat) (j : Nat) (tag : Tag) (ct : CTag) (R : Nat → Rig) (gs : Array Goroutine) (w : World) (t : Trace) (D : Nat → WD) (rk : Nat → Rk) (val : Nat → Value) (q : Nat → Nat) (Shun : Loc → Prop) : Prop extends Crew P d j tag R gs w t D rk val q Shun where
  mode : ∃ st sm, WgAt d.ty d.Wg w st sm ∧ Go.ConcN.Mode j D ct st sm
  ctp : pend ct = tag.p
theorem okT_book {d : CDat} {B : Nat} {vis mine : Nat → Nat → Prop} {cel : Nat → Addr → Prop} {k : Nat} {fn : FuncId} {pos : String} {es : Array Event} (h : ∀ e ∈ es, Bk d.Wg e) :
    ∀ op ∈ MemOp.ofEvents k fn pos es, ∀ x, op.act.touch? = some x → OkT (ShN d.Wg) B vis mine cel k x ∧ ShN d.Wg x.loc ∧ x.kind = .atomic := by
  intro op hop x hx
  obtain ⟨e, he, rfl⟩ := Go.Conc.mem_ofEvents hop
  rcases h e he with h1 | h1 | ⟨a, wr, rfl, ha⟩
  · simp only [ofEvent_loc_mark h1] at hx; cases hx
  · simp only [ofEvent_loc_mark h1] at hx; cases hx
  · simp only [Go.ConcR.ofEvent_cell, MemAct.touch?, Option.some.injEq] at hx
    subst hx
    exact ⟨.inl ⟨⟨a, rfl, ha⟩, by simp, by simp⟩, ⟨a, rfl, ha⟩, by simp⟩
theorem low_book {Wg B : Nat} {k : Nat} {fn : FuncId} {pos : String} {es : Array Event} (h : ∀ e ∈ es, Bk Wg e) (hW : Wg < B) : ∀ op ∈ MemOp.ofEvents k fn pos es, op.act.low B := by
  intro op hop
  obtain ⟨e, he, rfl⟩ := Go.Conc.mem_ofEvents hop
  rcases h e he with h1 | h1 | ⟨a, wr, rfl, ha⟩
  · simp only [ofEvent_loc_mark h1]; trivial
  · simp only [ofEvent_loc_mark h1]; trivial
  · simp only [Go.ConcR.ofEvent_cell]; show a.block < B; omega
theorem norel_book {Wg : Nat} {k : Nat} {fn : FuncId} {pos : String} {es : Array Event} (h : ∀ e ∈ es, Bk Wg e) : ∀ op ∈ MemOp.ofEvents k fn pos es, op.act ≠ .mark (.release (stA Wg)) := norel_of (norel_of_Bk h)
theorem touch_guar {V : Rig} {n m k : Nat} {fn : FuncId} {pos : String} {es : Array Event} (h : ∀ e ∈ es, EvG V n m e) : ∀ op ∈ MemOp.ofEvents k fn pos es, (op.act = .mark .noRoom) ∨ ∃ a wr, op.act.touch? = some ⟨.cell a, wr, .plain⟩ ∧ op.act = .access ⟨.cell a, wr, false⟩ ∧ ((V.vis a.block ∧ (wr = true → V.mine a.block)) ∨ (n ≤ a.block ∧ a.block < m)) := by
  intro op hop
  obtain ⟨e, he, rfl⟩ := Go.Conc.mem_ofEvents hop
  rcases h e he with ⟨a, wr, rfl, ha⟩ | ⟨k, rfl, hk⟩
  · exact .inr ⟨a, wr, by simp [Go.ConcR.ofEvent_cell, MemAct.touch?], by simp [Go.ConcR.ofEvent_cell], ha⟩
  · unfold Neutral at hk
    subst hk
    exact .inl rfl
theorem Tag.bound_mono {tag : Tag} {v v' : Nat} (h : tag.bound v) (hv : v' ≤ v) : tag.bound v' := by
  cases tag with
  | opn _ _ _ => exact Nat.le_trans hv h
  | _ => trivial
section
variable {P : Program} {d : CDat} {j : Nat} {tag : Tag} {ct : CTag} {R : Nat → Rig} {gs : Array Goroutine} {w : World} {t : Trace} {D : Nat → WD} {rk : Nat → Rk} {val : Nat → Value} {q : Nat → Nat} {Shun : Loc → Prop}
set_option maxHeartbeats 3200000 in
theorem CrewM.other (h : CrewM P d j tag ct R gs w t D rk val q Shun) {a : Goroutine} (ha : gs[0]? = some a) (hst0 : StartAt a ct) {k : Nat} {g : Goroutine} (hk : k ≠ 0) (hg : gs[k]? = some g) (hrun : g.status = .running) (sl : Option (Nat × Nat)) :
    ∃ gs' w' ops, runT P (crowd gs w sl) k = (.next (crowd gs' w' sl), ops) ∧ ∃ ct' R' D' rk' val' q' a', CrewM P d j tag ct' R' gs' w' (t ++ ops) D' rk' val' q' Shun ∧ R' 0 = R 0 ∧ Rely (R 0) w w' ∧ gs'[0]? = some a' ∧ StartBy a ct a' ct' ∧ StartAt a' ct' ∧
      Dec gs.size (crewMs d D' rk' q') (crewMs d D rk q) ∧ gs'.size = gs.size := by
  letI := d.pay
  have hc := h.toCrew
  have off := h.off
  have hk0 : (k == 0) = false := by simpa using hk
  have hkl : k < gs.size := (Array.getElem?_eq_some_iff.1 hg).1
  obtain ⟨st, sm, hwg, hmode⟩ := h.mode
  have fin : ∀ {g' : Goroutine} {w' : World} {es : Array Event} {Rk' : Rig} {D' : Nat → WD} {rk' : Nat → Rk} {val' : Nat → Value} {q' : Nat → Nat}, stepG P false g w = .go g' w' es →
      Crew P d j tag (upd R k Rk') ((gs.map (woken P g g' w')).setIfInBounds k g') w' (t ++ MemOp.ofEvents k g.frame.fn g.frame.place es) D' rk' val' q' Shun → Rely (R 0) w w' →
      (∀ ct', (ct' = ct ∨ (ct = .blk ∧ ct' = .w3)) → (mayWake P g = true → g'.status = .running → ct' ≠ .blk) → ∃ st sm, WgAt d.ty d.Wg w' st sm ∧ Go.ConcN.Mode j D' ct' st sm) → Dec gs.size (crewMs d D' rk' q') (crewMs d D rk q) →
      ∃ gs' w' ops, runT P (crowd gs w sl) k = (.next (crowd gs' w' sl), ops) ∧ ∃ ct' R' D' rk' val' q' a', CrewM P d j tag ct' R' gs' w' (t ++ ops) D' rk' val' q' Shun ∧ R' 0 = R 0 ∧ Rely (R 0) w w' ∧ gs'[0]? = some a' ∧ StartBy a ct a' ct' ∧ StartAt a' ct' ∧
      Dec gs.size (crewMs d D' rk' q') (crewMs d D rk q) ∧ gs'.size = gs.size := by
    intro g' w' es Rk' D' rk' val' q' hgo hcr hrely hmo hdec
    obtain ⟨ct', h1, h2, h3, h4⟩ := hst0.woken (P := P) g g' w'
    refine ⟨_, w', _, runT_crowd_go hg (by rw [hk0]; exact hgo), ct', upd R k Rk', D', rk', val', q', Go.Conc.woken P g g' w' a, ⟨hcr, hmo ct' h3 h4, ?_⟩, upd_ne R _ (Ne.symm hk), hrely, by rw [get_map_set _ _ _ _ hk, ha]; rfl, h1, h2, hdec, by simp⟩
    rcases h3 with rfl | ⟨rfl, rfl⟩
    · exact h.ctp
    · exact h.ctp
  have live : WgLive d.ty d.Wg w := ⟨st, sm, hwg⟩
  by_cases hko : k < d.off
  · -- A LEAVER
    have hq := h.old k g (by omega) hko hg
    cases hqi : q k with
    | zero => rw [hqi] at hq; rw [hq.1] at hrun; cases hrun
    | succ n =>
      rw [hqi] at hq
      rcases hq with ⟨hf, _⟩ | ⟨_, g', es, hm, hstp, hq'⟩
      · rw [hf] at hrun; cases hrun
      have hnt : ∀ op ∈ MemOp.ofEvents k g.frame.fn g.frame.place es, op.act.touch? = none := fun op hop => by obtain ⟨e, he, rfl⟩ := Go.Conc.mem_ofEvents hop; exact touch_mute (hm e he)
      refine fin (hstp w) (D' := D) (rk' := rk) (val' := val) (q' := upd q k n) (Rk' := R k) (hc.step (.inr ⟨by omega, hko, hnt⟩) (fun k' _ _ e => upd_ne q _ e) (fun _ _ => by rw [upd_same]; exact hq') (fun _ _ b => by omega) (fun _ _ _ => ⟨rfl, rfl, rfl⟩)
        (fun b hb => .inl hb) (fun b hb => .inl hb) (h.tg.sub k) (.refl _ _) (fun _ _ _ => rfl) live h.pay (fun op hop x hx => by rw [hnt op hop] at hx; cases hx) (fun op hop => by obtain ⟨e, he, rfl⟩ := Go.Conc.mem_ofEvents hop; exact low_mute (hm e he) _)
        (norel_book fun e he => bk_of_mute (hm e he)) (.inl hko) (by rw [upd_ne R _ (Ne.symm hk)]; exact h.ext0) (by rw [Deaf_other t hk _ g_of_ofEvents]; exact h.deaf0) h.jn h.bound (fun i _ e => by omega)) (.refl (by rw [h.ext0]; trivial)) (fun ct' e _ => ⟨st, sm, hwg, hmode.retag e⟩) ⟨k, hkl, ?_, fun k' hk' => ?_⟩
      · simp only [crewMs, hko, if_true, upd_same, hqi]
        exact .right _ (.right _ (by omega))
      · simp only [crewMs]
        split
        · rw [upd_ne q _ hk']
        · rfl
  -- A HAND
  obtain ⟨i, rfl⟩ : ∃ i, k = d.off + i := ⟨k - d.off, by omega⟩
  have hi : i < j := by rw [h.size] at hkl; omega
  obtain ⟨g₁, hg₁, hs⟩ := h.wk i hi
  obtain rfl : g = g₁ := by rw [hg] at hg₁; exact Option.some.inj hg₁
  have hVj := Vc_le j D
  have hdk : Deaf t (d.off + i) = (D i).deaf := h.dfw i hi
  have hCne : d.C ≠ d.Wg := h.CW
  have hand : ∀ {g' : Goroutine} {w' : World} {es : Array Event} {x : WD} {r' : Rk} {v' : Value}, stepG P false g w = .go g' w' es → RelyB (fun b => b < w.heap.size ∧ b ≠ d.Wg ∧ b ≠ d.C ∧ ¬ (R (d.off + i)).mine b) w w' →
      (∀ i', i' ≠ i → w'.cell? ⟨d.C, i', none⟩ = w.cell? ⟨d.C, i', none⟩) → WgLive d.ty d.Wg w' → PayAt d.C d.n w' →
      (∀ op ∈ MemOp.ofEvents (d.off + i) g.frame.fn g.frame.place es, ∀ x, op.act.touch? = some x → OkT (ShN d.Wg) w.heap.size (fun g => (R g).vis) (fun g => (R g).mine) (crewCel d j) (d.off + i) x) →
      (∀ op ∈ MemOp.ofEvents (d.off + i) g.frame.fn g.frame.place es, op.act.low w'.heap.size) → (∀ op ∈ MemOp.ofEvents (d.off + i) g.frame.fn g.frame.place es, op.act ≠ .mark (.release (stA d.Wg))) →
      (∀ op ∈ MemOp.ofEvents (d.off + i) g.frame.fn g.frame.place es, ∀ x, op.act.touch? = some x → (ShN d.Wg x.loc ∧ x.kind = .atomic) ∨ x.kind ≠ .atomic) →
      Sit P d i ((R (d.off + i)).grow w.heap.size w'.heap.size) x r' v' g' w' → deafBehind (D i).deaf es = x.deaf → (x.stage ≤ 6 → ∃ r, RelBy (stA d.Wg) (t ++ MemOp.ofEvents (d.off + i) g.frame.fn g.frame.place es) (d.off + i) r) →
      (x.stage ≤ 6 → Has d.C i v' w' ∧ d.Res i ((R (d.off + i)).grow w.heap.size w'.heap.size).vis v' w') → Vc j (upd D i x) ≤ Vc j D →
      (∀ ct', (ct' = ct ∨ (ct = .blk ∧ ct' = .w3)) → (mayWake P g = true → g'.status = .running → ct' ≠ .blk) → ∃ st sm, WgAt d.ty d.Wg w' st sm ∧ Go.ConcN.Mode j (upd D i x) ct' st sm) → Ms.lt (x.stage, r', x.fuel) ((D i).stage, rk i, (D i).fuel) →
      ∃ gs' w' ops, runT P (crowd gs w sl) (d.off + i) = (.next (crowd gs' w' sl), ops) ∧ ∃ ct' R' D' rk' val' q' a', CrewM P d j tag ct' R' gs' w' (t ++ ops) D' rk' val' q' Shun ∧ R' 0 = R 0 ∧ Rely (R 0) w w' ∧ gs'[0]? = some a' ∧ StartBy a ct a' ct' ∧ StartAt a' ct' ∧
      Dec gs.size (crewMs d D' rk' q') (crewMs d D rk q) ∧ gs'.size = gs.size := by
    intro g' w' es x r' v' hgo hB hcell hlive hpay hok hlow hnr hkind hsit hdf hrel hhas hV hmo hlt
    refine fin hgo (Rk' := (R (d.off + i)).grow w.heap.size w'.heap.size) (D' := upd D i x) (rk' := upd rk i r') (val' := upd val i v') (q' := q) (hc.step (.inl (.inr ⟨i, hi, rfl⟩)) (fun _ _ _ _ => rfl) (fun _ e => by omega) (fun e => by omega) (fun i' _ e => ?_) (fun b hb => hb) (fun b hb => hb) (fun b hb => hb.imp (h.tg.sub _ b) id) hB
      (fun i' _ e => hcell i' (by omega)) hlive hpay hok hlow hnr (.inr hkind) (by rw [upd_ne R _ (Ne.symm hk)]; exact h.ext0) (by rw [Deaf_other t hk _ g_of_ofEvents]; exact h.deaf0) h.jn (Tag.bound_mono h.bound hV) (fun i' _ e => ?_))
      ⟨hc.keeps hB (Ne.symm hk), by rw [h.ext0]; exact fun _ => hlive, by rw [h.ext0]; trivial⟩ hmo ⟨d.off + i, hkl, ?_, fun k' hk' => ?_⟩
    · have : i' ≠ i := by omega
      rw [upd_ne D _ this, upd_ne rk _ this, upd_ne val _ this]
      exact ⟨rfl, rfl, rfl⟩
    · obtain rfl : i' = i := by omega
      rw [upd_same, upd_same, upd_same, hdk]
      exact ⟨hsit, h.ext i' hi, hdf, hrel, hhas⟩
    · have e1 : ¬ (d.off + i < d.off) := by omega
      simp only [crewMs, e1, if_false, Nat.add_sub_cancel_left, upd_same]
      exact hlt
    · simp only [crewMs]
      split
      · rfl
      · have : k' - d.off ≠ i := by omega
        rw [upd_ne D _ this, upd_ne rk _ this]
  rcases hs with ⟨h7, hde, htree⟩ | ⟨h6, hs⟩
  · have hcnt : ∀ s' m' dd', s' = 7 → Vc j (upd D i ⟨s', m', dd'⟩) ≤ Vc j D := by
      rintro s' m' dd' rfl
      have := Vc_upd D (⟨7, m', dd'⟩ : WD) hi
      have c1 : cnt (D i) = 1 := by simp [cnt, h7]
      have c2 : cnt (⟨7, m', dd'⟩ : WD) = 1 := by simp [cnt]
      omega
    rcases htree.cases (by rw [h.ext i hi]; exact ⟨h.pay, live⟩) with hstop | ⟨r', hr', g', w', es, hgo, hgu, htree'⟩
    · -- IT HANDS IN
      obtain ⟨v, ⟨_, hhas, g', hgo, m, hk1⟩, hres⟩ := hstop
      have hbk : ∀ op ∈ MemOp.ofEvents (d.off + i) g.frame.fn g.frame.place #[Go.ConcR.mk (.releaseMerge (stA d.Wg))], op.act = .mark (.releaseMerge (stA d.Wg)) := by
        intro op hop
        obtain ⟨e, he, rfl⟩ := Go.Conc.mem_ofEvents hop
        simp at he; subst he; rfl
      have e0 : (R (d.off + i)).grow w.heap.size w.heap.size = R (d.off + i) := Rig.grow_self _ _
      refine hand hgo (x := ⟨6, m, 0⟩) (r' := rk i) (v' := v) (.refl _ _) (fun _ _ => rfl) live h.pay (fun op hop x hx => by rw [hbk op hop] at hx; cases hx) (fun op hop => by rw [hbk op hop]; exact h.Wlt) (fun op hop => by rw [hbk op hop]; simp)
        (fun op hop x hx => by rw [hbk op hop] at hx; cases hx) (.inr ⟨by simp, .k1 hk1⟩) (by rw [hde]; rfl) (fun _ => ⟨t.size, RelBy.new (by rw [hdk, hde]) _ _⟩) (fun _ => ⟨by simpa using hhas, by rw [e0]; exact hres⟩) ?_
        (fun ct' e _ => ⟨st, sm, hwg, (hmode.counted hi (by omega) (.inl rfl) _ _).retag e⟩) (.left _ _ (by rw [h7]; simp))
      have := Vc_upd D (⟨6, m, 0⟩ : WD) hi
      have c1 : cnt (D i) = 1 := by simp [cnt, h7]
      have c2 : cnt (⟨6, m, 0⟩ : WD) = 1 := by simp [cnt]
      omega
    · have hmo : ∀ {w' : World}, w'.heap[d.Wg]? = w.heap[d.Wg]? → ∀ ct', (ct' = ct ∨ (ct = .blk ∧ ct' = .w3)) → (mayWake P g = true → g'.status = .running → ct' ≠ .blk) → ∃ st sm, WgAt d.ty d.Wg w' st sm ∧ Go.ConcN.Mode j (upd D i ⟨7, (D i).fuel, 0⟩) ct' st sm :=
        fun e ct' e' _ => ⟨st, sm, hwg.of_block e, Mode.retag (by have := hmode.same (i := i) (D i).fuel 0; rwa [h7] at this) e'⟩
      rcases hgu with hgu | hact
      · have hW : w'.heap[d.Wg]? = w.heap[d.Wg]? := hgu.block _ h.Wlt fun hm => hc.visW _ (h.tg.sub _ _ hm)
        have hC : w'.heap[d.C]? = w.heap[d.C]? := hgu.block _ h.Clt fun hm => h.visC _ (h.tg.sub _ _ hm)
        have htg := touch_guar (k := d.off + i) (fn := g.frame.fn) (pos := g.frame.place) hgu.evs
        obtain ⟨cs, hp1, hp2⟩ := h.pay
        refine hand hgo (x := ⟨7, (D i).fuel, 0⟩) (r' := r') (v' := val i) ⟨hgu.os, hgu.tape, hgu.output, hgu.size, fun b hb => hgu.block b hb.1 hb.2.2.2⟩ (fun i' _ => cell_of_block hC i') ⟨st, sm, hwg.of_block hW⟩ ⟨cs, hC.trans hp1, hp2⟩ (fun op hop x hx => ?_) (fun op hop => ?_) (fun op hop => ?_) (fun op hop x hx => ?_)
          (.inl ⟨rfl, rfl, htree'⟩) ?_ (fun h => absurd h (by simp)) (fun h => absurd h (by simp)) (hcnt _ _ _ rfl) (hmo hW) ?_
        · rcases htg op hop with e | ⟨a, wr, e1, _, e3⟩
          · rw [e] at hx; cases hx
          · rw [e1] at hx; cases hx
            exact .inr ⟨a, rfl, rfl, e3.elim .inl fun e => .inr (.inr e.1)⟩
        · rcases htg op hop with e | ⟨a, wr, _, e2, e3⟩
          · rw [e]; trivial
          · rw [e2]
            rcases e3 with e3 | e3
            · exact Nat.lt_of_lt_of_le (h.tg.lt _ _ e3.1) hgu.size
            · exact e3.2
        · rcases htg op hop with e | ⟨a, wr, _, e2, e3⟩
          · rw [e]; simp
          · rw [e2]; simp
        · rcases htg op hop with e | ⟨a, wr, e1, _, e3⟩
          · rw [e] at hx; cases hx
          · rw [e1] at hx; cases hx
            exact .inr (by simp)
        · rw [hde]
          refine deafBehind_idle (fun e he => ?_) 0
          rcases hgu.evs e he with ⟨a, wr, rfl, _⟩ | ⟨k, rfl, hk⟩
          · simp
          · unfold Neutral at hk; subst hk; simp
        · rw [h7]; exact .right _ (.left _ _ hr')
      · rw [h.ext i hi] at hact
        obtain ⟨hac, hev⟩ := hact
        have hW : w'.heap[d.Wg]? = w.heap[d.Wg]? := hac.block _ (Ne.symm hCne)
        have hev' : ∀ op ∈ MemOp.ofEvents (d.off + i) g.frame.fn g.frame.place es, op.act = .mark .noRoom ∨ op.act = .access ⟨.cell ⟨d.C, i, none⟩, true, false⟩ := by
          intro op hop
          obtain ⟨e, he, rfl⟩ := Go.Conc.mem_ofEvents hop
          rcases hev e he with rfl | ⟨k, rfl, hk⟩
          · exact .inr rfl
          · unfold Neutral at hk; subst hk; exact .inl rfl
        have hin : i < d.n := by have := h.jn; omega
        refine hand hgo (x := ⟨7, (D i).fuel, 0⟩) (r' := r') (v' := val i) ⟨hac.os, hac.tape, hac.output, by rw [hac.size]; exact Nat.le_refl _, fun b hb => hac.block b hb.2.2.1⟩ (fun i' e => hac.cells i' e) ⟨st, sm, hwg.of_block hW⟩ (hac.pay h.pay) (fun op hop x hx => ?_) (fun op hop => ?_) (fun op hop => ?_) (fun op hop x hx => ?_)
          (.inl ⟨rfl, rfl, htree'⟩) ?_ (fun h => absurd h (by simp)) (fun h => absurd h (by simp)) (hcnt _ _ _ rfl) (hmo hW) ?_
        · rcases hev' op hop with e | e
          · rw [e] at hx; cases hx
          · rw [e] at hx; cases hx
            exact .inr ⟨⟨d.C, i, none⟩, rfl, rfl, .inr (.inl ⟨i, hin, rfl, .inr ⟨rfl, hi⟩⟩)⟩
        · rcases hev' op hop with e | e
          · rw [e]; trivial
          · rw [e]; show d.C < _; rw [hac.size]; exact h.Clt
        · rcases hev' op hop with e | e <;> rw [e] <;> simp
        · rcases hev' op hop with e | e
          · rw [e] at hx; cases hx
          · rw [e] at hx; cases hx
            exact .inr (by simp)
        · rw [hde]
          refine deafBehind_idle (fun e he => ?_) 0
          rcases hev e he with rfl | ⟨k, rfl, hk⟩
          · simp
          · unfold Neutral at hk; subst hk; simp
        · rw [h7]; exact .right _ (.left _ _ hr')
  · have h6r := h.rel i hi h6
    obtain ⟨hhas, hres⟩ := h.has i hi h6
    generalize hst : (D i).stage = s at hs h6
    generalize hfu : (D i).fuel = m at hs
    generalize hde : (D i).deaf = dd at hs
    have hdk' : Deaf t (d.off + i) = dd := by rw [hdk, hde]
    have bookG : ∀ {g' : Goroutine} {w' : World} {es : Array Event} {s' m' dd' : Nat} {st' sm' : Int}, stepG P false g w = .go g' w' es → Aside d.Wg w w' → WgAt d.ty d.Wg w' st' sm' → (∀ e ∈ es, Bk d.Wg e) →
        (∀ jx e, es[jx]? = some e → (MemAct.ofEvent e).touch? = none ∨ 0 < deafBehind dd (es.extract 0 jx)) → WSit P d.ty d.Wg d.C d.n (fun _ _ => False) (fun _ _ => False) 0 (i + 1) (val i) s' m' dd' g' w' → deafBehind dd es = dd' → s' ≤ 6 →
        (∀ ct', (ct' = ct ∨ (ct = .blk ∧ ct' = .w3)) → (mayWake P g = true → g'.status = .running → ct' ≠ .blk) → Go.ConcN.Mode j (upd D i ⟨s', m', dd'⟩) ct' st' sm') → ((s' < s ∧ cnt ⟨s', m', dd'⟩ ≤ cnt (D i)) ∨ (s' = s ∧ m' + 1 = m)) →
        ∃ gs' w' ops, runT P (crowd gs w sl) (d.off + i) = (.next (crowd gs' w' sl), ops) ∧ ∃ ct' R' D' rk' val' q' a', CrewM P d j tag ct' R' gs' w' (t ++ ops) D' rk' val' q' Shun ∧ R' 0 = R 0 ∧ Rely (R 0) w w' ∧ gs'[0]? = some a' ∧ StartBy a ct a' ct' ∧ StartAt a' ct' ∧
        Dec gs.size (crewMs d D' rk' q') (crewMs d D rk q) ∧ gs'.size = gs.size := by
      intro g' w' es s' m' dd' st' sm' hgo hAs hwg' hbk hd hs' hdd h6' hmode' hlt
      have e0 : (R (d.off + i)).grow w.heap.size w'.heap.size = R (d.off + i) := by rw [hAs.size, Rig.grow_self]
      have hC : w'.heap[d.C]? = w.heap[d.C]? := hAs.block _ hCne
      obtain ⟨cs, hp1, hp2⟩ := h.pay
      refine hand hgo (x := ⟨s', m', dd'⟩) (r' := rk i) (v' := val i) ⟨hAs.os, hAs.tape, hAs.output, by rw [hAs.size]; exact Nat.le_refl _, fun b hb => hAs.block b hb.2.1⟩ (fun i' _ => cell_of_block hC i') ⟨_, _, hwg'⟩ ⟨cs, hC.trans hp1, hp2⟩
        (fun op hop x hx => (okT_book hbk op hop x hx).1) (low_book hbk (by rw [hAs.size]; exact h.Wlt)) (norel_book hbk) (fun op hop x hx => .inl (okT_book (B := 0) (vis := fun _ _ => False) (mine := fun _ _ => False) (cel := fun _ _ => False) hbk op hop x hx).2)
        (.inr ⟨h6', hs'⟩) (by rw [hde]; exact hdd) (fun _ => let ⟨r, hr⟩ := h6r; ⟨r, hr.book hdk' _ _ hbk hd⟩) (fun _ => ⟨(cell_of_block hC i).trans hhas, by rw [e0]; exact d.keep (fun b hb => hAs.block b fun e => hc.visW _ (e ▸ hb)) hres⟩) ?_
        (fun ct' e1 e2 => ⟨_, _, hwg', hmode' ct' e1 e2⟩) ?_
      · have := Vc_upd D (⟨s', m', dd'⟩ : WD) hi
        rcases hlt with ⟨_, h1⟩ | ⟨h1, _⟩
        · omega
        · have : cnt (⟨s', m', dd'⟩ : WD) = cnt (D i) := by simp only [cnt, h1, hst]
          omega
      · rw [hst, hfu]
        rcases hlt with ⟨h1, _⟩ | ⟨rfl, h1⟩
        · exact .left _ _ h1
        · exact .right _ (.right _ (by show m' < m; omega))
    have book : ∀ {g' : Goroutine} {w' : World} {es : Array Event} {s' m' dd' : Nat} {st' sm' : Int}, stepG P false g w = .go g' w' es → Aside d.Wg w w' → WgAt d.ty d.Wg w' st' sm' → (∀ e ∈ es, Bk d.Wg e) →
        (∀ jx e, es[jx]? = some e → (MemAct.ofEvent e).touch? = none ∨ 0 < deafBehind dd (es.extract 0 jx)) → WSit P d.ty d.Wg d.C d.n (fun _ _ => False) (fun _ _ => False) 0 (i + 1) (val i) s' m' dd' g' w' → deafBehind dd es = dd' → s' ≤ 6 →
        Go.ConcN.Mode j (upd D i ⟨s', m', dd'⟩) ct st' sm' → ((s' < s ∧ cnt ⟨s', m', dd'⟩ ≤ cnt (D i)) ∨ (s' = s ∧ m' + 1 = m)) →
        ∃ gs' w' ops, runT P (crowd gs w sl) (d.off + i) = (.next (crowd gs' w' sl), ops) ∧ ∃ ct' R' D' rk' val' q' a', CrewM P d j tag ct' R' gs' w' (t ++ ops) D' rk' val' q' Shun ∧ R' 0 = R 0 ∧ Rely (R 0) w w' ∧ gs'[0]? = some a' ∧ StartBy a ct a' ct' ∧ StartAt a' ct' ∧
        Dec gs.size (crewMs d D' rk' q') (crewMs d D rk q) ∧ gs'.size = gs.size :=
      fun hgo hAs hwg' hbk hd hs' hdd h6' hmode' hlt => bookG hgo hAs hwg' hbk hd hs' hdd h6' (fun _ ht _ => hmode'.retag ht) hlt
    have idle : ∀ {g' : Goroutine} {m' : Nat}, stepG P false g w = .go g' w #[] → WSit P d.ty d.Wg d.C d.n (fun _ _ => False) (fun _ _ => False) 0 (i + 1) (val i) s m' dd g' w → m' + 1 = m → 
        ∃ gs' w' ops, runT P (crowd gs w sl) (d.off + i) = (.next (crowd gs' w' sl), ops) ∧ ∃ ct' R' D' rk' val' q' a', CrewM P d j tag ct' R' gs' w' (t ++ ops) D' rk' val' q' Shun ∧ R' 0 = R 0 ∧ Rely (R 0) w w' ∧ gs'[0]? = some a' ∧ StartBy a ct a' ct' ∧ StartAt a' ct' ∧
        Dec gs.size (crewMs d D' rk' q') (crewMs d D rk q) ∧ gs'.size = gs.size := by
      intro g' m' hgo hs' hm
      exact book hgo (.refl d.Wg w) hwg (by simp) (by simp) hs' rfl h6 (by have := hmode.same (i := i) m' dd; rwa [hst] at this) (.inr ⟨rfl, hm⟩)
    cases hs with
    | r0 _ => omega
    | k1 h' =>
      rcases Goes.cases h' with hstop | ⟨m', rfl, hstep⟩
      · obtain ⟨_, g', hgo, m₂, hk1⟩ := hstop w (RW.refl w)
        exact book hgo (.refl d.Wg w) hwg (by intro e he; simp at he; subst he; exact .inl rfl) (by intro jx e he; exact .inl (by have := Array.mem_of_getElem? he; simp at this; subst this; rfl)) (.d1 hk1) rfl (by omega)
          (hmode.counted hi (by omega) (.inr rfl) _ _) (.inl ⟨by omega, by simp [cnt, hst]⟩)
      · obtain ⟨g', w', es, hgo, ⟨rfl, rfl⟩, hg'⟩ := hstep w (RW.refl w)
        exact idle hgo (.k1 hg') rfl
    | d1 h' =>
      rcases Goes.cases h' with hstop | ⟨m', rfl, hstep⟩
      · obtain ⟨_, hall⟩ := hstop w (RW.refl w)
        have hc1 : cnt (D i) = 1 := by simp [cnt, hst]
        have hV1 : 1 ≤ Vc j D := by have := le_sumTo (f := fun x => cnt (D x)) hi; simp only [Vc]; omega
        have hjn := h.jn
        have hn31 := h.n31
        have hctp := h.ctp
        have bk2 : ∀ e ∈ #[rd (stA d.Wg), wr (stA d.Wg)], Bk d.Wg e := by intro e he; simp at he; rcases he with rfl | rfl <;> exact bk_cell _ _ rfl
        have df2 : ∀ jx e, (#[rd (stA d.Wg), wr (stA d.Wg)] : Array Event)[jx]? = some e → (MemAct.ofEvent e).touch? = none ∨ 0 < deafBehind 1 ((#[rd (stA d.Wg), wr (stA d.Wg)] : Array Event).extract 0 jx) := by
          intro jx e he
          match jx, he with
          | 0, _ => exact .inr (by simp [deafBehind])
          | 1, _ => exact .inr (by simp [deafBehind, rd])
          | jx + 2, he => simp at he
        have hq0 : ∀ q, cnt (⟨1, q, 1⟩ : WD) = 0 := fun _ => rfl
        have opq : ∀ q, OpenSt j D → OpenSt j (upd D i ⟨1, q, 1⟩) := fun q h a ha => by
          by_cases e : a = i
          · subst e; rw [upd_same]; simp
          · rw [upd_ne D _ e]; exact h a ha
        cases hmode with
        | opn h1 h2 h3 =>
          obtain ⟨v, hv⟩ : ∃ v, Vc j D + pend ct = v + 1 := ⟨Vc j D + pend ct - 1, by omega⟩
          rw [hv] at hwg
          have hw1 : WgAt d.ty d.Wg w (((v : Nat) + 1) * KK + ((0 : Nat) : Int)) 0 := by simpa using hwg
          obtain ⟨g', hgo, _, hq⟩ := hall v 0 (by omega) (by omega) hw1
          obtain ⟨q, hq⟩ := hq (by omega)
          have hv' : Vc j (upd D i ⟨1, q, 1⟩) + pend ct = v := by have := Vc_upd D (⟨1, q, 1⟩ : WD) hi; have := hq0 q; omega
          refine book hgo (aside_setCell w (stA d.Wg) _) (hwg.setSt _) bk2 df2 (.quit hq) rfl (by omega) ?_ (.inl ⟨by omega, by simp [cnt]⟩)
          have e : ((v : Nat) : Int) * KK + ((0 : Nat) : Int) = ((Vc j (upd D i ⟨1, q, 1⟩) + pend ct : Nat) : Int) * KK := by rw [hv']; simp
          rw [e]
          exact .opn h1 (opq q h2) (fun vs ev => by have := h3 vs ev; omega)
        | reg h1 h2 h3 =>
          obtain ⟨v, hv⟩ : ∃ v, Vc j D = v + 1 := ⟨Vc j D - 1, by omega⟩
          rw [hv] at hwg
          have hw1 : WgAt d.ty d.Wg w (((v : Nat) + 1) * KK + ((1 : Nat) : Int)) 0 := by simpa using hwg
          obtain ⟨g', hgo, hl, hq⟩ := hall v 1 (by omega) (by omega) hw1
          by_cases hv0 : v = 0
          · subst hv0
            obtain ⟨m₂, hk1⟩ := hl ⟨rfl, rfl⟩
            refine book hgo (aside_setCell w (stA d.Wg) _) (hwg.setSt _) bk2 df2 (.d2 hk1) rfl (by omega) ?_ (.inl ⟨by omega, by simp [cnt]⟩)
            have hoth : ∀ a, a < j → a ≠ i → (D a).stage = 1 := fun a ha e => by
              have c0 := others_uncounted hi hv hc1 a ha e
              have := h2 a ha
              simp only [cnt] at c0
              split at c0 <;> omega
            have := Mode.last (j := j) (D := upd D i ⟨4, m₂, 1⟩) (tag := ct) i h1 hi (by rw [upd_same]; simp) (fun a ha e => by rw [upd_ne D _ e]; exact hoth a ha e)
            rw [upd_same] at this
            simpa using this
          · obtain ⟨q, hq⟩ := hq (by omega)
            have hv' : Vc j (upd D i ⟨1, q, 1⟩) = v := by have := Vc_upd D (⟨1, q, 1⟩ : WD) hi; have := hq0 q; omega
            refine book hgo (aside_setCell w (stA d.Wg) _) (hwg.setSt _) bk2 df2 (.quit hq) rfl (by omega) ?_ (.inl ⟨by omega, by simp [cnt]⟩)
            have e : ((v : Nat) : Int) * KK + ((1 : Nat) : Int) = ((Vc j (upd D i ⟨1, q, 1⟩) : Nat) : Int) * KK + 1 := by rw [hv']; simp
            rw [e]
            exact .reg h1 (opq q h2) (by omega)
        | last L _ h2 h3 h4 =>
          by_cases e : i = L
          · subst e; omega
          · have := h4 i hi e; omega
        | sema h2 => have := h2 i hi; omega
        | fin _ h2 => have := h2 i hi; omega
      · obtain ⟨g', w', es, hgo, ⟨rfl, rfl⟩, hg'⟩ := hstep w (RW.refl w)
        exact idle hgo (.d1 hg') rfl
    | d2 h' =>
      rcases Goes.cases h' with hstop | ⟨m', rfl, hstep⟩
      · obtain ⟨_, hx⟩ := hstop w (RW.refl w)
        obtain ⟨hW3, hoth, rfl, rfl⟩ := hmode.isLast hi (by omega)
        simp only [hst] at hwg
        obtain ⟨g', hgo, m₂, hk1⟩ := hx (by simpa using hwg)
        refine book hgo (.refl d.Wg w) hwg (by intro e he; simp at he; subst he; exact bk_cell _ _ rfl) (by intro jx e he; match jx, he with | 0, _ => exact .inr (by simp [deafBehind]) | jx + 1, he => simp at he) (.d3 hk1) rfl (by omega) ?_ (.inl ⟨by omega, by simp [cnt]⟩)
        have := Mode.last (j := j) (D := upd D i ⟨3, m₂, 1⟩) (tag := ct) i hW3 hi (by rw [upd_same]; simp) (fun a ha e => by rw [upd_ne D _ e]; exact hoth a ha e)
        rw [upd_same] at this
        simpa using this
      · obtain ⟨g', w', es, hgo, ⟨rfl, rfl⟩, hg'⟩ := hstep w (RW.refl w)
        exact idle hgo (.d2 hg') rfl
    | d3 h' =>
      rcases Goes.cases h' with hstop | ⟨m', rfl, hstep⟩
      · obtain ⟨_, hx⟩ := hstop w (RW.refl w)
        obtain ⟨hW3, hoth, rfl, rfl⟩ := hmode.isLast hi (by omega)
        simp only [hst] at hwg
        obtain ⟨g', hgo, m₂, hk1⟩ := hx (by simpa using hwg)
        refine book hgo (aside_setCell w (stA d.Wg) _) (hwg.setSt 0) (by intro e he; simp at he; subst he; exact bk_cell _ _ rfl) (by intro jx e he; match jx, he with | 0, _ => exact .inr (by simp [deafBehind]) | jx + 1, he => simp at he) (.d4 hk1) rfl (by omega) ?_ (.inl ⟨by omega, by simp [cnt]⟩)
        have := Mode.last (j := j) (D := upd D i ⟨2, m₂, 1⟩) (tag := ct) i hW3 hi (by rw [upd_same]; simp) (fun a ha e => by rw [upd_ne D _ e]; exact hoth a ha e)
        rw [upd_same] at this
        simpa using this
      · obtain ⟨g', w', es, hgo, ⟨rfl, rfl⟩, hg'⟩ := hstep w (RW.refl w)
        exact idle hgo (.d3 hg') rfl
    | d4 h' =>
      rcases Goes.cases h' with hstop | ⟨m', rfl, hstep⟩
      · obtain ⟨_, hmw, hx⟩ := hstop w (RW.refl w)
        obtain ⟨hW3, hoth, rfl, rfl⟩ := hmode.isLast hi (by omega)
        simp only [hst] at hwg
        obtain ⟨g', hgo, q, hq⟩ := hx (by simpa using hwg)
        have hrun' : g'.status = .running := by
          cases q with
          | zero => exact absurd hq.2 (by decide)
          | succ q => exact hq.elim (fun x => absurd x.2 (by decide)) (fun x => x.1)
        refine bookG hgo (aside_setCell w (smA d.Wg) _) (hwg.setSm 1) (es := semEvents (smA d.Wg)) ?_ ?_ (.quit hq) (by simp [deafBehind, semEvents]) (by omega) ?_ (.inl ⟨by omega, by simp [cnt]⟩)
        · intro e he
          simp [semEvents] at he
          rcases he with rfl | rfl | rfl | rfl
          · exact .inl rfl
          · exact bk_cell _ _ rfl
          · exact bk_cell _ _ rfl
          · exact .inr (.inl rfl)
        · intro jx e he
          match jx, he with
          | 0, he => simp [semEvents] at he; subst he; exact .inl rfl
          | 1, _ => exact .inr (by simp [deafBehind, semEvents])
          | 2, _ => exact .inr (by simp [deafBehind, semEvents])
          | 3, he => simp [semEvents] at he; subst he; exact .inl rfl
          | jx + 4, he => simp [semEvents] at he
        · intro tag' ht hw
          have hnb := hw hmw hrun'
          have e3 : tag' = .w3 := by
            rcases ht with rfl | ⟨_, rfl⟩
            · cases tag' <;> first | rfl | exact hW3.elim | exact absurd rfl hnb
            · rfl
          subst e3
          simp only [if_true]
          exact .sema fun a ha => by
            by_cases e : a = i
            · subst e; rw [upd_same]
            · rw [upd_ne D _ e]; exact hoth a ha e
      · obtain ⟨g', w', es, hgo, ⟨rfl, rfl⟩, hg'⟩ := hstep w (RW.refl w)
        exact idle hgo (.d4 hg') rfl
    | quit h' =>
      cases m with
      | zero => rw [h'.1] at hrun; cases hrun
      | succ q =>
        rcases h' with ⟨hf, _⟩ | ⟨_, g', es, hmute, hstep, hq⟩
        · rw [hf] at hrun; cases hrun
        · have hbk : ∀ e ∈ es, Bk d.Wg e := fun e he => bk_of_mute (hmute e he)
          have hno : ∀ jx e, es[jx]? = some e → (MemAct.ofEvent e).touch? = none ∨ 0 < deafBehind dd (es.extract 0 jx) := fun jx e he => .inl (touch_mute (hmute e (Array.mem_of_getElem? he)))
          exact book (hstep w) (.refl d.Wg w) hwg hbk hno (.quit hq) rfl (by omega) (by have := hmode.same (i := i) q (deafBehind dd es); rwa [hst] at this) (.inr ⟨rfl, rfl⟩)
end
end Go.Eng

namespace Go.Eng
open Go Go.Conc Go.ConcN
open Go.ConcR (KK wgBlock WgAt stA smA rd wr DC0 Bk g_of_ofEvents bk_of_mute ofEvent_loc_mark)

/-- A property of machines that a step hands back. -/
def Back (P : Program) (F : Machine → Trace → Prop) : Prop := ∀ m t m' ops, stepT P m = (.next m', ops) → F m' (t ++ ops) → F m t
section
variable {P : Program} {d : CDat} {j : Nat} {tag : Tag} {ct : CTag} {R : Nat → Rig} {gs : Array Goroutine} {w : World} {t : Trace} {D : Nat → WD} {rk : Nat → Rk} {val : Nat → Value} {q : Nat → Nat} {Shun : Loc → Prop} {F : Machine → Trace → Prop}
theorem Rely.at {V : Rig} {w : World} (hl : V.ext.live w) (n : Nat) : Rely V w (w.at n) := by
  refine ⟨⟨rfl, rfl, rfl, Nat.le_refl _, fun _ _ => rfl⟩, ?_, ?_⟩
  · cases V.ext with
    | alone => trivial
    | crew d j tag => exact id
    | hand d i => letI := d.pay; exact RW.at w n
  · revert hl
    cases V.ext with
    | hand d i => exact id
    | _ => exact id
theorem CrewM.at (h : CrewM P d j tag ct R gs w t D rk val q Shun) (n : Nat) : CrewM P d j tag ct R gs (w.at n) t D rk val q Shun := by
  letI := d.pay
  exact { h with
    wk := fun i hi => let ⟨g, hg, hs⟩ := h.wk i hi; ⟨g, hg, hs.rely (RW.at w n) (Rely.at (by rw [h.ext i hi]; exact ⟨h.pay, let ⟨st, sm, k, _⟩ := h.mode; ⟨st, sm, k⟩⟩) n)⟩
    has := fun i hi hs => ⟨(h.has i hi hs).1, d.keep (w := w) (w₁ := w.at n) (fun _ _ => rfl) (h.has i hi hs).2⟩ }
theorem Tag.k_ne (tag : Tag) : tag.k ≠ .blk := by
  cases tag with
  | opn p _ _ => simp only [Tag.k]; split <;> simp
  | reg => simp [Tag.k]
  | fin _ => simp [Tag.k]
theorem Crew.awake (h : Crew P d j tag R gs w t D rk val q Shun) {a : Goroutine} (h0 : gs[0]? = some a) (ha : a.status = .running ∨ a.status = .blocked) : ∀ g ∈ gs, Go.Conc.awake g := by
  intro g hg
  obtain ⟨i, hi, rfl⟩ := Array.mem_iff_getElem.1 hg
  rcases Nat.eq_zero_or_pos i with rfl | hpos
  · have : gs[0] = a := by simpa [Array.getElem?_eq_getElem hi] using h0
    rw [this]; exact awake_of (ha.imp id .inl)
  · rcases Nat.lt_or_ge i d.off with hlt | hge
    · exact awake_of ((h.old i _ hpos hlt (Array.getElem?_eq_getElem hi)).status.imp id .inr)
    · obtain ⟨g, hg, hs⟩ := h.wk (i - d.off) (by rw [h.size] at hi; omega)
      rw [show d.off + (i - d.off) = i by omega, Array.getElem?_eq_getElem hi] at hg
      cases hg
      exact awake_of (hs.status.imp id .inr)
theorem crew_turn (hF : Back P F) {g : Goroutine} (hrun : g.status = .running) (V : Rig) (w : World)
    (H : ∀ (gs : Array Goroutine) (w₁ : World) (sl : Option (Nat × Nat)) (t : Trace) (R : Nat → Rig) (D : Nat → WD) (rk : Nat → Rk) (val : Nat → Value) (q : Nat → Nat), Rely V w w₁ → gs[0]? = some g → R 0 = V → CrewM P d j tag tag.k R gs w₁ t D rk val q Shun →
      ∀ w0 sl0, stepT P (crowd gs w0 sl0) = runT P (crowd gs w₁ sl) 0 → F (crowd gs w0 sl0) t) :
    ∀ (f : Nat → Ms), Acc (Dec (d.off + j)) f → ∀ (gs : Array Goroutine) (w₁ : World) (sl : Option (Nat × Nat)) (t : Trace) (R : Nat → Rig) (D : Nat → WD) (rk : Nat → Rk) (val : Nat → Value) (q : Nat → Nat), crewMs d D rk q = f → Rely V w w₁ → gs[0]? = some g → R 0 = V →
      CrewM P d j tag tag.k R gs w₁ t D rk val q Shun → F (crowd gs w₁ sl) t := by
  intro f hf
  induction hf with
  | intro f _ ih =>
    intro gs w₁ sl t R D rk val q hfe hr h0 hR h
    subst hfe
    obtain ⟨i, g1, n, sl', hi, hg, hst⟩ := crowd_pick (P := P) (w := w₁) (sl := sl) (h.awake h0 (.inl hrun)) ⟨0, g, h0, hrun⟩
    rcases Nat.eq_zero_or_pos i with rfl | hpos
    · exact H gs (w₁.at n) sl' t R D rk val q (hr.trans (Rely.at hr.live n)) h0 hR (h.at n) w₁ sl hst
    · obtain ⟨gs', w', ops, hrn, ct', R', D', rk', val', q', a', h', hR', hrl, h0', hby, _, hdec, hsz⟩ := (h.at n).other h0 (.inl ⟨hrun, tag.k_ne⟩) (by omega) hi hg sl'
      rcases hby with ⟨rfl, rfl⟩ | ⟨e, _⟩
      · rw [hR] at hR' hrl
        rw [h.size] at hdec
        exact hF _ _ _ _ (hst.trans hrn) (ih _ hdec gs' w' sl' _ R' D' rk' val' q' rfl (hr.trans ((Rely.at hr.live n).trans hrl)) h0' hR' h')
      · exact absurd e tag.k_ne
theorem alone_turn (hF : Back P F) {g : Goroutine} (hrun : g.status = .running) (V : Rig) (w : World)
    (H : ∀ (gs : Array Goroutine) (w₁ : World) (sl : Option (Nat × Nat)) (t : Trace), Rely V w w₁ → gs[0]? = some g → CI0 P V gs w₁ t → ∀ w0 sl0, stepT P (crowd gs w0 sl0) = runT P (crowd gs w₁ sl) 0 → F (crowd gs w0 sl0) t) :
    ∀ (n : Nat) (gs : Array Goroutine) (w₁ : World) (sl : Option (Nat × Nat)) (t : Trace) (q : Nat → Nat) (Shun : Loc → Prop), sumTo gs.size q ≤ n → Rely V w w₁ → gs[0]? = some g → CI0 P V gs w₁ t → Leavers P t gs q → Past Shun w₁.heap.size t → (∀ a : Addr, Shun (.cell a) → a.block < w₁.heap.size ∧ ¬ V.vis a.block) → F (crowd gs w₁ sl) t := by
  intro n
  induction n with
  | zero =>
    intro gs w₁ sl t q Shun hn hr h0 h hL hP hS
    have haw : ∀ g ∈ gs, Go.Conc.awake g := by
      intro g' hg
      obtain ⟨i, hi, rfl⟩ := Array.mem_iff_getElem.1 hg
      rcases Nat.eq_zero_or_pos i with rfl | hpos
      · have : gs[0] = g := by simpa [Array.getElem?_eq_getElem hi] using h0
        rw [this]; exact awake_of (.inl hrun)
      · exact awake_of ((hL.old i _ hpos (Array.getElem?_eq_getElem hi)).status.imp id .inr)
    obtain ⟨i, g1, n, sl', hi, hg, hst⟩ := crowd_pick (P := P) (w := w₁) (sl := sl) haw ⟨0, g, h0, hrun⟩
    rcases Nat.eq_zero_or_pos i with rfl | hpos
    · exact H gs (w₁.at n) sl' t (hr.trans (Rely.at hr.live n)) h0 ⟨h.ext, h.ex, h.lt, h.sub⟩ w₁ sl hst
    · have hlt : i < gs.size := (Array.getElem?_eq_some_iff.1 hi).1
      have := le_sumTo (f := q) hlt
      have hq := hL.old i g1 hpos hi
      rw [show q i = 0 by omega] at hq
      rw [hq.1] at hg; cases hg
  | succ n ih =>
    intro gs w₁ sl t q Shun hn hr h0 h hL hP hS
    have haw : ∀ g ∈ gs, Go.Conc.awake g := by
      intro g' hg
      obtain ⟨i, hi, rfl⟩ := Array.mem_iff_getElem.1 hg
      rcases Nat.eq_zero_or_pos i with rfl | hpos
      · have : gs[0] = g := by simpa [Array.getElem?_eq_getElem hi] using h0
        rw [this]; exact awake_of (.inl hrun)
      · exact awake_of ((hL.old i _ hpos (Array.getElem?_eq_getElem hi)).status.imp id .inr)
    obtain ⟨i, g1, nn, sl', hi, hg, hst⟩ := crowd_pick (P := P) (w := w₁) (sl := sl) haw ⟨0, g, h0, hrun⟩
    rcases Nat.eq_zero_or_pos i with rfl | hpos
    · exact H gs (w₁.at nn) sl' t (hr.trans (Rely.at hr.live nn)) h0 ⟨h.ext, h.ex, h.lt, h.sub⟩ w₁ sl hst
    · have hlt : i < gs.size := (Array.getElem?_eq_some_iff.1 hi).1
      have hq := hL.old i g1 hpos hi
      have hi0 : (i == 0) = false := by simp; omega
      cases hqi : q i with
      | zero => rw [hqi] at hq; rw [hq.1] at hg; cases hg
      | succ k =>
        rw [hqi] at hq
        rcases hq with ⟨hf, _⟩ | ⟨_, g', es, hm, hstp, hq'⟩
        · rw [hf] at hg; cases hg
        have hrunT := runT_crowd_go (P := P) (sl := sl') (i := i) hi (by rw [hi0]; exact hstp (w₁.at nn))
        have hsz : ((gs.map (woken P g1 g' (w₁.at nn))).setIfInBounds i g').size = gs.size := by simp
        have hsum : sumTo gs.size (upd q i k) + (k + 1) = sumTo gs.size q + k := by
          have := sumTo_upd q k id hlt
          simpa [hqi] using this
        have hL' : Leavers P (t ++ MemOp.ofEvents i g1.frame.fn g1.frame.place es) ((gs.map (woken P g1 g' (w₁.at nn))).setIfInBounds i g') (upd q i k) := ⟨fun jj x hj hx => by
              by_cases hji : i = jj
              · subst hji
                rw [Array.getElem?_setIfInBounds_self_of_lt (by simpa using hlt)] at hx
                obtain rfl := Option.some.inj hx
                rw [upd_same, Deaf_own]
                exact hq'
              · rw [Array.getElem?_setIfInBounds_ne hji, Array.getElem?_map] at hx
                obtain ⟨y, hy, rfl⟩ := Option.map_eq_some_iff.1 hx
                have hqj := hL.old jj y hj hy
                rw [woken_quitsD hqj, upd_ne q k (Ne.symm hji), Deaf_other t hji _ g_of_ofEvents]
                exact hqj, fun jj hj => by
              rw [Deaf_other t (g' := i) (by simp at hj; omega) _ g_of_ofEvents]
              exact hL.above jj (by simpa using hj)⟩
        have hP' := hP.mute (g := i) (by omega) (fn := g1.frame.fn) (pos := g1.frame.place) hm
        refine hF _ _ _ _ (hst.trans hrunT) (ih _ (w₁.at nn) sl' _ (upd q i k) Shun (by rw [hsz]; omega) (hr.trans (Rely.at hr.live nn)) ?_ ⟨h.ext, ⟨_, Shun, hL', hP', hS⟩, h.lt, h.sub⟩ hL' hP' hS)
        have hne : i ≠ 0 := by omega
        rw [Array.getElem?_setIfInBounds_ne hne, Array.getElem?_map, h0]
        simp [woken_run hrun]
end

/-! ### Goroutine 0's logic -/
inductive CIx (P : Program) (V : Rig) (gs : Array Goroutine) (w : World) (t : Trace) : Prop
  | alone : CI0 P V gs w t → CIx P V gs w t
  | crew {d : CDat} {j : Nat} {tag : Tag} {R : Nat → Rig} {D : Nat → WD} {rk : Nat → Rk} {val : Nat → Value} {q : Nat → Nat} {Shun : Loc → Prop} : R 0 = V → CrewM P d j tag tag.k R gs w t D rk val q Shun → CIx P V gs w t
theorem CIx.live {P : Program} {V : Rig} {gs : Array Goroutine} {w : World} {t : Trace} (h : CIx P V gs w t) : V.ext.live w := by
  cases h with
  | alone h => rw [h.ext]; trivial
  | crew hR h => rw [← hR, h.ext0]; trivial
section
variable {P : Program} {F : Machine → Trace → Prop}
def FOk (P : Program) (F : Machine → Trace → Prop) (V : Rig) (g : Goroutine) (w : World) : Prop := ∀ gs w₁ sl t, Rely V w w₁ → gs[0]? = some g → CIx P V gs w₁ t → F (crowd gs w₁ sl) t
theorem f_turn (hF : Back P F) {V : Rig} {g : Goroutine} {w : World} (hrun : g.status = .running)
    (H : ∀ (gs : Array Goroutine) (w₁ : World) (sl : Option (Nat × Nat)) (t : Trace), Rely V w w₁ → gs[0]? = some g → CIx P V gs w₁ t → ∀ w0 sl0, stepT P (crowd gs w0 sl0) = runT P (crowd gs w₁ sl) 0 → F (crowd gs w0 sl0) t) : FOk P F V g w := by
  intro gs w₁ sl t hr h0 hc
  cases hc with
  | alone hc =>
    obtain ⟨q, Shun, hL, hP, hS⟩ := hc.ex
    exact alone_turn hF hrun V w (fun gs w₁ sl t hr h0 hc => H gs w₁ sl t hr h0 (.alone hc)) _ gs w₁ sl t q Shun (Nat.le_refl _) hr h0 hc hL hP hS
  | crew hR hc => exact crew_turn hF hrun V w (fun gs w₁ sl t R D rk val q hr h0 hR hc => H gs w₁ sl t hr h0 (.crew hR hc)) _ (Dec.acc _ _) gs w₁ sl t _ _ _ _ _ rfl hr h0 hR hc
theorem CI0.leavers {gs : Array Goroutine} {t : Trace} {q : Nat → Nat} (hL : Leavers P t gs q) (h0 : 0 < gs.size) (a a' : Goroutine) (w' : World) (fn : FuncId) (pos : String) (es : Array Event) :
    Leavers P (t ++ MemOp.ofEvents 0 fn pos es) ((gs.map (woken P a a' w')).setIfInBounds 0 a') q :=
  ⟨fun j x hj hx => by
    have hne : 0 ≠ j := by omega
    rw [Array.getElem?_setIfInBounds_ne hne, Array.getElem?_map] at hx
    obtain ⟨y, hy, rfl⟩ := Option.map_eq_some_iff.1 hx
    have hq := hL.old j y hj hy
    rw [woken_quitsD hq, Deaf_other t (by omega) _ g_of_ofEvents]
    exact hq, fun j hj => by
    rw [Deaf_other t (g' := 0) (by simp at hj; omega) _ g_of_ofEvents]
    exact hL.above j (by simpa using hj)⟩
theorem evL_guar {V : Rig} {Shun : Loc → Prop} {n m : Nat} (hn : n ≤ m) (hS : ∀ a : Addr, Shun (.cell a) → a.block < n ∧ ¬ V.vis a.block) (hlt : ∀ b, V.vis b → b < n) {es : Array Event} (h : ∀ e ∈ es, EvG V n m e) : ∀ e ∈ es, EvL Shun m e := by
  intro e he
  rcases h e he with ⟨a, wr, rfl, ha⟩ | ⟨k, rfl, hk⟩
  · refine evL_cell a wr (fun hs => ?_) ?_
    · obtain ⟨h1, h2⟩ := hS a hs
      rcases ha with ha | ha
      · exact h2 ha.1
      · omega
    · rcases ha with ha | ha
      · exact Nat.lt_of_lt_of_le (hlt _ ha.1) hn
      · exact ha.2
  · unfold Neutral at hk
    subst hk
    exact ⟨fun x hx => (by cases hx), by simp, by simp, trivial⟩
theorem CI0.step {V : Rig} {gs : Array Goroutine} {w w' : World} {t : Trace} (h : CI0 P V gs w t) (h0 : 0 < gs.size) {a a' : Goroutine} {fn : FuncId} {pos : String} {es : Array Event} (hg : Guar0 V w w' es) :
    CI0 P (V.grow w.heap.size w'.heap.size) ((gs.map (woken P a a' w')).setIfInBounds 0 a') w' (t ++ MemOp.ofEvents 0 fn pos es) := by
  obtain ⟨q, Shun, hL, hP, hS⟩ := h.ex
  refine ⟨h.ext, ⟨q, Shun, CI0.leavers hL h0 a a' w' fn pos es, (hP.mono hg.size).own (evL_guar hg.size hS h.lt hg.evs), fun a ha => ?_⟩, fun b hb => ?_, fun b hb => hb.imp (h.sub b) id⟩
  · obtain ⟨h1, h2⟩ := hS a ha
    refine ⟨Nat.lt_of_lt_of_le h1 hg.size, fun hv => hv.elim h2 fun hv => ?_⟩
    omega
  · exact hb.elim (fun h' => Nat.lt_of_lt_of_le (h.lt b h') hg.size) (·.2)
theorem Back.runNT (hF : Back P F) : ∀ (N : Nat) (m : Machine) (t : Trace) (m' : Machine) (t' : Trace), runNT P N m t = (.next m', t') → F m' t' → F m t
  | 0, m, t, m', t', h, k => by
    simp only [Go.runNT, Prod.mk.injEq] at h
    cases h.1; cases h.2
    exact k
  | N + 1, m, t, m', t', h, k => by
    simp only [Go.runNT] at h
    cases hs : stepT P m with
    | mk s ops =>
      rw [hs] at h
      cases s with
      | next m1 => exact hF m t m1 ops hs (Back.runNT hF N m1 _ m' t' h k)
      | _ => simp at h
theorem cix_step {V : Rig} {gs : Array Goroutine} {w w' : World} {t : Trace} (hc : CIx P V gs w t) {a a' : Goroutine} (h0 : gs[0]? = some a) {fn : FuncId} {pos : String} {es : Array Event} (hg : Guar V w w' es) :
    CIx P (V.grow w.heap.size w'.heap.size) ((gs.map (woken P a a' w')).setIfInBounds 0 a') w' (t ++ MemOp.ofEvents 0 fn pos es) := by
  have hlt : 0 < gs.size := (Array.getElem?_eq_some_iff.1 h0).1
  cases hc with
  | alone hc =>
    rcases hg with hg | hg
    · exact .alone (hc.step hlt hg)
    · rw [hc.ext] at hg; exact hg.elim
  | @crew d j tag R D rk val q Shun hR h =>
    letI := d.pay
    have hext : V.ext = .crew d j tag := hR ▸ h.ext0
    rcases hg with hg | hg
    · subst hR
      obtain ⟨st, sm, hwg, hmo⟩ := h.mode
      have hW : w'.heap[d.Wg]? = w.heap[d.Wg]? := hg.block _ h.Wlt fun hm => h.toCrew.visW _ (h.tg.sub _ _ hm)
      have hC : w'.heap[d.C]? = w.heap[d.C]? := hg.block _ h.Clt fun hm => h.visC _ (h.tg.sub _ _ hm)
      obtain ⟨cs, hp1, hp2⟩ := h.pay
      have htg := touch_guar (k := 0) (fn := fn) (pos := pos) hg.evs
      have hoff := h.off
      refine .crew (R := upd R 0 ((R 0).grow w.heap.size w'.heap.size)) (upd_same _ _ _) ⟨h.toCrew.step (.inl (.inl rfl)) (fun _ _ _ _ => rfl) (fun e => by omega) (fun _ e => by omega) (fun _ _ _ => ⟨rfl, rfl, rfl⟩) (Rk' := (R 0).grow w.heap.size w'.heap.size) (fun b hb => hb) (fun b hb => hb) (fun b hb => hb.imp (h.tg.sub 0 b) id)
        ⟨hg.os, hg.tape, hg.output, hg.size, fun b hb => hg.block b hb.1 hb.2.2.2⟩ (fun i _ _ => cell_of_block hC i) ⟨st, sm, hwg.of_block hW⟩ ⟨cs, hC.trans hp1, hp2⟩ (fun op hop x hx => ?_) (fun op hop => ?_) (fun op hop => ?_) (.inl (by omega)) (by rw [upd_same]; exact h.ext0) ?_ h.jn h.bound (fun i _ e => by omega), ⟨st, sm, hwg.of_block hW, hmo⟩, h.ctp⟩
      · rcases htg op hop with e | ⟨a, wr, e1, _, e3⟩
        · rw [e] at hx; cases hx
        · rw [e1] at hx; cases hx
          exact .inr ⟨a, rfl, rfl, e3.elim .inl fun e => .inr (.inr e.1)⟩
      · rcases htg op hop with e | ⟨a, wr, _, e2, e3⟩
        · rw [e]; trivial
        · rw [e2]
          rcases e3 with e3 | e3
          · exact Nat.lt_of_lt_of_le (h.tg.lt _ _ e3.1) hg.size
          · exact e3.2
      · rcases htg op hop with e | ⟨a, wr, _, e2, e3⟩
        · rw [e]; simp
        · rw [e2]; simp
      · rw [Deaf_own, h.deaf0]
        refine deafBehind_idle (fun e he => ?_) _
        rcases hg.evs e he with ⟨a, wr, rfl, _⟩ | ⟨k, rfl, hk⟩
        · simp
        · unfold Neutral at hk; subst hk; simp
    · rw [hext] at hg; exact hg.elim
def LF (P : Program) (F : Machine → Trace → Prop) (hF : Back P F) : Lg P where
  main := true
  ok := FOk P F
  rely h r gs w₁ sl t r₁ h0 hc := h gs w₁ sl t (r.trans r₁) h0 hc
  step := by
    intro V g w hs h
    refine f_turn hF hs fun gs w₁ sl t hr h0 hc w0 sl0 hst => ?_
    obtain ⟨g', w', es, hgo, hg, hk⟩ := h w₁ hr
    have hlt : 0 < gs.size := (Array.getElem?_eq_some_iff.1 h0).1
    have hrn := runT_crowd_go (P := P) (sl := sl) (i := 0) h0 (show stepG P (0 == 0) g w₁ = _ from hgo)
    exact hF _ _ _ _ (hst.trans hrn) (hk _ w' sl _ (Rely.refl (cix_step (a := g) (a' := g') (fn := g.frame.fn) (pos := g.frame.place) hc h0 hg).live) (get_map_set_same _ _ _ hlt) (cix_step hc h0 hg))
  big := by
    intro V g w he h gs w₁ sl t hr h0 hc
    cases hc with
    | alone hc =>
      obtain ⟨N, gs', w', sl', t', V', g', hrn, h0', hc', hk⟩ := h gs w₁ sl t hr h0 hc
      exact hF.runNT N _ _ _ _ hrn (hk gs' w' sl' t' (Rely.refl (CIx.alone hc').live) h0' (.alone hc'))
    | crew hR hc => rw [← hR, hc.ext0] at he; cases he
end

/-! ### The starter's own steps -/
def Rig.as (V : Rig) (e : Ext) : Rig := ⟨V.vis, V.mine, e⟩
/-- The library's bookkeeping, by the starter: 'race.Read', 'race.Write' too. -/
def BkS (Wg : Nat) (e : Event) : Prop := Bk Wg e ∨ ∃ a : Addr, a.block = Wg ∧ (e = ⟨.mark (.read a), false, true⟩ ∨ e = ⟨.mark (.write a), false, true⟩)
section
variable {P : Program} {F : Machine → Trace → Prop} {hF : Back P F} {d : CDat} {j : Nat} {tag : Tag} {V : Rig} {g : Goroutine} {w : World}
theorem bkS_ops {d : CDat} {vis mine : Nat → Nat → Prop} {cel : Nat → Addr → Prop} {B : Nat} (hB : d.Wg < B) {fn : FuncId} {pos : String} {es : Array Event} (h : ∀ e ∈ es, BkS d.Wg e) :
    (∀ op ∈ MemOp.ofEvents 0 fn pos es, ∀ x, op.act.touch? = some x → OkT (ShN d.Wg) B vis mine cel 0 x) ∧ (∀ op ∈ MemOp.ofEvents 0 fn pos es, op.act.low B) ∧ (∀ op ∈ MemOp.ofEvents 0 fn pos es, op.act ≠ .mark (.release (stA d.Wg))) := by
  have key : ∀ op ∈ MemOp.ofEvents 0 fn pos es, (∃ e, op.act = .ofEvent e ∧ Bk d.Wg e) ∨ ∃ a : Addr, a.block = d.Wg ∧ (op.act = .mark (.read a) ∨ op.act = .mark (.write a)) := by
    intro op hop
    obtain ⟨e, he, rfl⟩ := Go.Conc.mem_ofEvents hop
    rcases h e he with h1 | ⟨a, ha, rfl | rfl⟩
    · exact .inl ⟨e, rfl, h1⟩
    · exact .inr ⟨a, ha, .inl rfl⟩
    · exact .inr ⟨a, ha, .inr rfl⟩
  refine ⟨fun op hop x hx => ?_, fun op hop => ?_, fun op hop => ?_⟩
  · rcases key op hop with ⟨e, e1, h1⟩ | ⟨a, ha, e1 | e1⟩
    · rw [e1] at hx
      rcases h1 with h1 | h1 | ⟨a, wr, rfl, ha⟩
      · simp only [ofEvent_loc_mark h1] at hx; cases hx
      · simp only [ofEvent_loc_mark h1] at hx; cases hx
      · simp only [Go.ConcR.ofEvent_cell, MemAct.touch?, Option.some.injEq] at hx
        subst hx
        exact .inl ⟨⟨a, rfl, ha⟩, by simp, by simp⟩
    · rw [e1] at hx; cases hx
      exact .inl ⟨⟨a, rfl, ha⟩, by simp, fun _ => rfl⟩
    · rw [e1] at hx; cases hx
      exact .inl ⟨⟨a, rfl, ha⟩, by simp, fun _ => rfl⟩
  · rcases key op hop with ⟨e, e1, h1⟩ | ⟨a, ha, e1 | e1⟩
    · rw [e1]
      rcases h1 with h1 | h1 | ⟨a, wr, rfl, ha⟩
      · simp only [ofEvent_loc_mark h1]; trivial
      · simp only [ofEvent_loc_mark h1]; trivial
      · simp only [Go.ConcR.ofEvent_cell]; show a.block < B; omega
    · rw [e1]; show a.block < B; omega
    · rw [e1]; show a.block < B; omega
  · rcases key op hop with ⟨e, e1, h1⟩ | ⟨a, ha, e1 | e1⟩
    · rw [e1]
      rcases h1 with h1 | h1 | ⟨a, wr, rfl, ha⟩
      · simp [ofEvent_loc_mark h1]
      · simp [ofEvent_loc_mark h1]
      · simp [Go.ConcR.ofEvent_cell]
    · rw [e1]; simp
    · rw [e1]; simp
/-- The crew behind a step of the library's bookkeeping by the starter. -/
theorem Crew.book {R : Nat → Rig} {gs : Array Goroutine} {w w' : World} {t : Trace} {D : Nat → WD} {rk : Nat → Rk} {val : Nat → Value} {q : Nat → Nat} {Shun : Loc → Prop} (h : Crew P d j tag R gs w t D rk val q Shun) {a a' : Goroutine} {fn : FuncId} {pos : String} {es : Array Event} {tag' : Tag}
    (hAs : Aside d.Wg w w') (hlive : WgLive d.ty d.Wg w') (hbk : ∀ e ∈ es, BkS d.Wg e) (hdf : deafBehind tag.deaf es = tag'.deaf) (hjn : j + tag'.p ≤ d.n) (hbd : tag'.bound (Vc j D)) :
    Crew P d j tag' (upd R 0 ((R 0).as (.crew d j tag'))) ((gs.map (woken P a a' w')).setIfInBounds 0 a') w' (t ++ MemOp.ofEvents 0 fn pos es) D rk val q Shun := by
  letI := d.pay
  have hC : w'.heap[d.C]? = w.heap[d.C]? := hAs.block _ h.CW
  obtain ⟨cs, hp1, hp2⟩ := h.pay
  have hoff := h.off
  obtain ⟨k1, k2, k3⟩ := bkS_ops (d := d) (vis := fun g => (R g).vis) (mine := fun g => (R g).mine) (cel := crewCel d j) h.Wlt (fn := fn) (pos := pos) hbk
  exact h.step (.inl (.inl rfl)) (fun _ _ _ _ => rfl) (fun e => by omega) (fun _ e => by omega) (fun _ _ _ => ⟨rfl, rfl, rfl⟩) (fun b hb => .inl hb) (fun b hb => .inl hb) (h.tg.sub 0) ⟨hAs.os, hAs.tape, hAs.output, by rw [hAs.size]; exact Nat.le_refl _, fun b hb => hAs.block b hb.2.1⟩
    (fun i _ _ => cell_of_block hC i) hlive ⟨cs, hC.trans hp1, hp2⟩ k1 (by rw [hAs.size]; exact k2) k3 (.inl (by omega)) (by rw [upd_same]; rfl) (by rw [Deaf_own, h.deaf0]; exact hdf) hjn hbd (fun i _ e => by omega)
theorem f_book (hV : V.ext = .crew d j tag) (hrun : g.status = .running)
    (H : ∀ (w₁ : World) (D : Nat → WD) (st sm : Int), Rely V w w₁ → WgAt d.ty d.Wg w₁ st sm → Go.ConcN.Mode j D tag.k st sm → tag.bound (Vc j D) → j + tag.p ≤ d.n → ¬ V.vis d.Wg → ∃ g' w' es tag', stepG P true g w₁ = .go g' w' es ∧ Aside d.Wg w₁ w' ∧ (∀ e ∈ es, BkS d.Wg e) ∧ deafBehind tag.deaf es = tag'.deaf ∧ j + tag'.p ≤ d.n ∧
      tag'.bound (Vc j D) ∧ (∃ st' sm', WgAt d.ty d.Wg w' st' sm' ∧ Go.ConcN.Mode j D tag'.k st' sm') ∧ pend tag'.k = tag'.p ∧ (LF P F hF).ok (V.as (.crew d j tag')) g' w') : (LF P F hF).ok V g w := by
  refine f_turn hF hrun fun gs w₁ sl t hr h0 hc w0 sl0 hst => ?_
  have hlt : 0 < gs.size := (Array.getElem?_eq_some_iff.1 h0).1
  cases hc with
  | alone hc => rw [hc.ext] at hV; cases hV
  | @crew d' j' tag0 R D rk val q Shun hR h =>
    have e := h.ext0
    rw [hR, hV] at e
    cases e
    obtain ⟨st, sm, hwg, hmo⟩ := h.mode
    obtain ⟨g', w', es, tag', hgo, hAs, hbk, hdf, hjn, hbd, ⟨st', sm', hwg', hmo'⟩, hp, hk⟩ := H w₁ D st sm hr hwg hmo h.bound h.jn (hR ▸ h.toCrew.visW 0)
    have hrn := runT_crowd_go (P := P) (sl := sl) (i := 0) h0 (show stepG P (0 == 0) g w₁ = _ from hgo)
    subst hR
    exact hF _ _ _ _ (hst.trans hrn) (hk _ w' sl _ (Rely.refl trivial) (get_map_set_same _ _ _ hlt) (.crew (upd_same _ _ _) ⟨h.toCrew.book hAs ⟨_, _, hwg'⟩ hbk hdf hjn hbd, ⟨st', sm', hwg', hmo'⟩, hp⟩))
end
theorem Rig.as_self {V : Rig} {e : Ext} (h : V.ext = e) : V.as e = V := by subst h; rfl
section
variable {P : Program} {F : Machine → Trace → Prop} {hF : Back P F} {d : CDat} {j : Nat} {tag : Tag} {V : Rig} {g : Goroutine} {w : World}
theorem Sit.running {P : Program} {d : CDat} {i : Nat} {R : Rig} {D : WD} {r : Rk} {v : Value} {g : Goroutine} {w : World} (h : Sit P d i R D r v g w) (h2 : 2 ≤ D.stage) : g.status = .running := by
  letI := d.pay
  rcases h with h | ⟨h6, h⟩
  · exact h.2.2.running
  · generalize hs : D.stage = s at h
    generalize D.fuel = m at h
    generalize D.deaf = dd at h
    cases h with
    | r0 h => exact Goes.running (fun _ _ x => x.1) w (RW.refl w) h
    | k1 h => exact Goes.running (fun _ _ x => x.1) w (RW.refl w) h
    | d1 h => exact Goes.running (fun _ _ x => x.1) w (RW.refl w) h
    | d2 h => exact Goes.running (fun _ _ x => x.1) w (RW.refl w) h
    | d3 h => exact Goes.running (fun _ _ x => x.1) w (RW.refl w) h
    | d4 h => exact Goes.running (fun _ _ x => x.1) w (RW.refl w) h
    | quit h => omega
theorem exists_counted {D : Nat → WD} : ∀ {j : Nat}, 1 ≤ Vc j D → ∃ i, i < j ∧ 5 ≤ (D i).stage
  | 0, h => absurd h (by simp [Vc, sumTo])
  | j + 1, h => by
    by_cases e : 5 ≤ (D j).stage
    · exact ⟨j, by omega, e⟩
    · have : cnt (D j) = 0 := by simp [cnt, e]
      obtain ⟨i, hi, hs⟩ := exists_counted (D := D) (j := j) (by simp only [Vc, sumTo] at h ⊢; omega)
      exact ⟨i, by omega, hs⟩
theorem unblock {a b : Goroutine} (ha : a.status = .running) (hb : b.status = .running) (h : ({ a with status := .blocked } : Goroutine) = { b with status := .blocked }) : a = b := by
  cases a; cases b
  simp only at ha hb
  subst ha; subst hb
  simp only [Goroutine.mk.injEq] at h ⊢
  simp_all
theorem f_sema (hV : V.ext = .crew d j .reg) (hrun : g.status = .running) (hoffers : g.offers = none)
    (H1 : ∀ (w₁ : World) (st : Int), Rely V w w₁ → WgAt d.ty d.Wg w₁ st 0 → stepG P true g w₁ = .go { g with status := .blocked } w₁ #[])
    (H2 : ∀ (w₁ : World), Rely V w w₁ → WgAt d.ty d.Wg w₁ 0 1 → ¬ V.vis d.Wg → ∃ g', stepG P true g w₁ = .go g' (w₁.setCell (smA d.Wg) (.int .u32 0)) (semEvents (smA d.Wg)) ∧ (LF P F hF).ok (V.as (.crew d j (.fin 1))) g' (w₁.setCell (smA d.Wg) (.int .u32 0))) : (LF P F hF).ok V g w := by
  have key : ∀ (f : Nat → Ms), Acc (Dec (d.off + j)) f → ∀ (gs : Array Goroutine) (w₁ : World) (sl : Option (Nat × Nat)) (t : Trace) (R : Nat → Rig) (D : Nat → WD) (rk : Nat → Rk) (val : Nat → Value) (q : Nat → Nat) (Shun : Loc → Prop) (a : Goroutine) (ct : CTag), crewMs d D rk q = f → Rely V w w₁ → gs[0]? = some a → R 0 = V →
      CrewM P d j .reg ct R gs w₁ t D rk val q Shun → (a = g ∧ ct = .w3) ∨ (a = { g with status := .blocked } ∧ ct = .blk) → F (crowd gs w₁ sl) t := by
    intro f hf
    induction hf with
    | intro f _ ih =>
      have blocked : ∀ (gs : Array Goroutine) (w₁ : World) (sl : Option (Nat × Nat)) (t : Trace) (R : Nat → Rig) (D : Nat → WD) (rk : Nat → Rk) (val : Nat → Value) (q : Nat → Nat) (Shun : Loc → Prop), crewMs d D rk q = f → Rely V w w₁ → gs[0]? = some { g with status := .blocked } → R 0 = V →
          CrewM P d j .reg .blk R gs w₁ t D rk val q Shun → F (crowd gs w₁ sl) t := by
        intro gs w₁ sl t R D rk val q Shun hfe hr h0 hR h
        subst hfe
        have hex : ∃ (i : Nat) (g : Goroutine), gs[i]? = some g ∧ g.status = .running := by
          obtain ⟨st, sm, hwg, hmo⟩ := h.mode
          have : ∃ i, i < j ∧ 2 ≤ (D i).stage := by
            cases hmo with
            | opn h1 _ _ => exact h1.elim
            | reg _ _ h3 => exact (exists_counted h3).imp fun i hi => ⟨hi.1, by omega⟩
            | last L _ h2 h3 _ => exact ⟨L, h2, by omega⟩
            | fin h1 _ => exact h1.elim
          obtain ⟨i, hi, h2⟩ := this
          obtain ⟨x, hx, hs⟩ := h.wk i hi
          exact ⟨_, x, hx, hs.running h2⟩
        obtain ⟨i, g1, n, sl', hi, hg, hst⟩ := crowd_pick (P := P) (w := w₁) (sl := sl) (h.awake h0 (.inr rfl)) hex
        have hi0 : i ≠ 0 := by
          rintro rfl
          rw [h0] at hi; cases hi; cases hg
        obtain ⟨gs', w', ops, hrn, ct', R', D', rk', val', q', a', h', hR', hrl, h0', hby, _, hdec, hsz⟩ := (h.at n).other h0 (.inr ⟨rfl, g, hrun, hoffers, rfl⟩) hi0 hi hg sl'
        rw [hR] at hR' hrl
        rw [h.size] at hdec
        refine hF _ _ _ _ (hst.trans hrn) (ih _ hdec gs' w' sl' _ R' D' rk' val' q' Shun a' ct' rfl (hr.trans ((Rely.at hr.live n).trans hrl)) h0' hR' h' ?_)
        rcases hby with ⟨rfl, rfl⟩ | ⟨_, rfl, h1, _, h3⟩
        · exact .inr ⟨rfl, rfl⟩
        · exact .inl ⟨(unblock hrun h1 h3).symm, rfl⟩
      intro gs w₁ sl t R D rk val q Shun a ct hfe hr h0 hR h hcase
      rcases hcase with ⟨rfl, rfl⟩ | ⟨rfl, rfl⟩
      · obtain ⟨i, g1, n, sl', hi, hg, hst⟩ := crowd_pick (P := P) (w := w₁) (sl := sl) (h.awake h0 (.inl hrun)) ⟨0, a, h0, hrun⟩
        rcases Nat.eq_zero_or_pos i with rfl | hpos
        · have hlt : 0 < gs.size := (Array.getElem?_eq_some_iff.1 h0).1
          have hr' := hr.trans (Rely.at hr.live n)
          have h' := h.at n
          obtain ⟨st, sm, hwg, hmo⟩ := h'.mode
          have low : sm = 0 → Go.ConcN.Mode j D .blk st 0 → F (crowd gs w₁ sl) t := by
            rintro rfl hmo'
            have hgo := H1 (w₁.at n) st hr' hwg
            have hrn := runT_crowd_go (P := P) (sl := sl') (i := 0) h0 (show stepG P (0 == 0) a (w₁.at n) = _ from hgo)
            refine hF _ _ _ _ (hst.trans hrn) (blocked _ (w₁.at n) sl' _ _ D rk val q Shun hfe hr' (get_map_set_same _ _ _ hlt) (by rw [upd_same, hR]; exact Rig.as_self hV) ⟨h'.toCrew.book (tag' := .reg) (.refl _ _) ⟨_, _, hwg⟩ (by simp) rfl h'.jn trivial, ⟨st, 0, hwg, hmo'⟩, rfl⟩)
          cases hmo with
          | opn h1 _ _ => exact h1.elim
          | reg _ h2 h3 => exact low rfl (.reg trivial h2 h3)
          | last L _ h2 h3 h4 => exact low rfl (.last L trivial h2 h3 h4)
          | fin h1 _ => exact h1.elim
          | sema h2 =>
            obtain ⟨g', hgo, hk⟩ := H2 (w₁.at n) hr' hwg (hR ▸ h'.toCrew.visW 0)
            have hrn := runT_crowd_go (P := P) (sl := sl') (i := 0) h0 (show stepG P (0 == 0) a (w₁.at n) = _ from hgo)
            have hbk : ∀ e ∈ semEvents (smA d.Wg), BkS d.Wg e := by
              intro e he
              simp [semEvents] at he
              rcases he with rfl | rfl | rfl | rfl
              · exact .inl (.inl rfl)
              · exact .inl (bk_cell _ _ rfl)
              · exact .inl (bk_cell _ _ rfl)
              · exact .inl (.inr (.inl rfl))
            subst hR
            exact hF _ _ _ _ (hst.trans hrn) (hk _ _ sl' _ (Rely.refl trivial) (get_map_set_same _ _ _ hlt) (.crew (upd_same _ _ _) ⟨h'.toCrew.book (tag' := .fin 1) (aside_setCell _ (smA d.Wg) _) ⟨_, _, hwg.setSm 0⟩ hbk (by simp [deafBehind, semEvents, Tag.deaf]) h'.jn trivial, ⟨_, _, hwg.setSm 0, .fin trivial h2⟩, rfl⟩))
        · obtain ⟨gs', w', ops, hrn, ct', R', D', rk', val', q', a', h', hR', hrl, h0', hby, _, hdec, hsz⟩ := (h.at n).other h0 (.inl ⟨hrun, by simp⟩) (by omega) hi hg sl'
          rcases hby with ⟨rfl, rfl⟩ | ⟨e, _⟩
          · rw [hR] at hR' hrl
            rw [h.size] at hdec
            subst hfe
            exact hF _ _ _ _ (hst.trans hrn) (ih _ hdec gs' w' sl' _ R' D' rk' val' q' Shun a' .w3 rfl (hr.trans ((Rely.at hr.live n).trans hrl)) h0' hR' h' (.inl ⟨rfl, rfl⟩))
          · cases e
      · exact blocked gs w₁ sl t R D rk val q Shun hfe hr h0 hR h
  intro gs w₁ sl t hr h0 hc
  cases hc with
  | alone hc => rw [hc.ext] at hV; cases hV
  | @crew d' j' tag0 R D rk val q Shun hR h =>
    have e := h.ext0
    rw [hR, hV] at e
    cases e
    exact key _ (Dec.acc _ _) gs w₁ sl t R D rk val q Shun g _ rfl hr h0 hR h (.inl ⟨rfl, rfl⟩)
end
section
variable {P : Program} {F : Machine → Trace → Prop} {hF : Back P F} {d : CDat} {j : Nat} {tag : Tag} {V : Rig} {g : Goroutine} {w : World}
theorem Vc_succ (j : Nat) (D : Nat → WD) (x : WD) (hx : cnt x = 1) : Vc (j + 1) (upd D j x) = Vc j D + 1 := by
  have e : Vc j (upd D j x) = Vc j D := sumTo_congr fun a ha => by rw [upd_ne D _ (by omega)]
  show sumTo j (fun i => cnt (upd D j x i)) + cnt (upd D j x j) = _
  rw [upd_same, hx]
  exact congrArg (· + 1) e
set_option maxHeartbeats 1600000 in
/-- THE go STATEMENT. -/
theorem CrewM.spawn {R : Nat → Rig} {gs : Array Goroutine} {t : Trace} {D : Nat → WD} {rk : Nat → Rk} {val : Nat → Value} {q : Nat → Nat} {Shun : Loc → Prop} {b : Nat} (h : CrewM P d j (.opn 1 0 b) (.sp 0 3) R gs w t D rk val q Shun) {a' child : Goroutine} {r : Rk} {x y : MemOp}
    (hx : x.g = 0 ∧ x.act = .go (d.off + j)) (hy : y.g = d.off + j ∧ y.act = .start) (hc : TreeR P (HStop P d j) r ⟨(R 0).vis, fun _ => False, .hand d j⟩ child w) :
    CrewM P d (j + 1) (.opn 0 0 d.n) .anch (upd (upd R 0 ⟨(R 0).vis, fun _ => False, .crew d (j + 1) (.opn 0 0 d.n)⟩) (d.off + j) ⟨(R 0).vis, fun _ => False, .hand d j⟩) ((gs.setIfInBounds 0 a').push child) w (t ++ #[x, y]) (upd D j ⟨7, 0, 0⟩) (upd rk j r) val q Shun := by
  letI := d.pay
  have off := h.off
  have hjn : j + 1 ≤ d.n := h.jn
  have hm : ∀ op ∈ #[x, y], op = x ∨ op = y := by intro op hop; simpa using hop
  have hst : ∀ op ∈ #[x, y], op.act ≠ .mark .disable ∧ op.act ≠ .mark .enable := by
    intro op hop
    rcases hm op hop with rfl | rfl
    · rw [hx.2]; exact ⟨by simp, by simp⟩
    · rw [hy.2]; exact ⟨by simp, by simp⟩
  have hnt : ∀ op ∈ #[x, y], op.act.touch? = none := by
    intro op hop
    rcases hm op hop with rfl | rfl
    · rw [hx.2]; rfl
    · rw [hy.2]; rfl
  obtain ⟨R', hR'⟩ : ∃ R', R' = upd (upd R 0 ⟨(R 0).vis, fun _ => False, .crew d (j + 1) (.opn 0 0 d.n)⟩) (d.off + j) ⟨(R 0).vis, fun _ => False, .hand d j⟩ := ⟨_, rfl⟩
  have r0 : R' 0 = ⟨(R 0).vis, fun _ => False, .crew d (j + 1) (.opn 0 0 d.n)⟩ := by rw [hR', upd_ne _ _ (by omega), upd_same]
  have rj : R' (d.off + j) = ⟨(R 0).vis, fun _ => False, .hand d j⟩ := by rw [hR', upd_same]
  have ro : ∀ k, k ≠ 0 → k ≠ d.off + j → R' k = R k := fun k h1 h2 => by rw [hR', upd_ne _ _ h2, upd_ne _ _ h1]
  have hvis : ∀ k b, (R' k).vis b → (R k).vis b ∨ (k = d.off + j ∧ (R 0).vis b) := fun k b hb => by
    by_cases e : k = 0
    · subst e; rw [r0] at hb; exact .inl hb
    · by_cases e' : k = d.off + j
      · subst e'; rw [rj] at hb; exact .inr ⟨rfl, hb⟩
      · rw [ro k e e'] at hb; exact .inl hb
  have hmine : ∀ k b, (R' k).mine b → (R k).mine b ∧ k ≠ 0 ∧ k ≠ d.off + j := fun k b hb => by
    by_cases e : k = 0
    · subst e; rw [r0] at hb; exact hb.elim
    · by_cases e' : k = d.off + j
      · subst e'; rw [rj] at hb; exact hb.elim
      · rw [ro k e e'] at hb; exact ⟨hb, e, e'⟩
  have hcel : ∀ k a, crewCel d (j + 1) k a → crewCel d j k a ∨ (k = d.off + j ∧ crewCel d j 0 a) := by
    rintro k a ⟨i, hi, rfl, h1 | h1⟩
    · exact .inl ⟨i, hi, rfl, .inl ⟨h1.1, by omega⟩⟩
    · by_cases e : i = j
      · subst e; exact .inr ⟨h1.1, i, hi, rfl, .inl ⟨rfl, Nat.le_refl _⟩⟩
      · exact .inl ⟨i, hi, rfl, .inr ⟨h1.1, by omega⟩⟩
  have old : ∀ {i : Nat} {a : Touch}, touchAt (t ++ #[x, y]) i = some a → touchAt t i = some a ∧ i < t.size := by
    intro i a ha
    obtain ⟨z, hz, hza⟩ := touch_of ha
    rcases getElem?_append_cases hz with ⟨hi, hz'⟩ | ⟨_, hzu⟩
    · exact ⟨by rw [touchAt_of hz']; exact hza, hi⟩
    · rw [hnt z hzu] at hza; cases hza
  have gs0 : ∀ k, k < gs.size → k ≠ 0 → ((gs.setIfInBounds 0 a').push child)[k]? = gs[k]? := fun k hk h0 => by
    rw [Array.getElem?_push_lt (by simpa using hk), ← Array.getElem?_eq_getElem, Array.getElem?_setIfInBounds_ne (Ne.symm h0)]
  have hdeaf : ∀ k, Deaf (t ++ #[x, y]) k = Deaf t k := fun k => Deaf_still t k _ hst
  obtain ⟨st, sm, hwg, hmo⟩ := h.mode
  obtain ⟨ho, hst', hsm, _⟩ := hmo.open_inv trivial
  rw [← hR']
  refine ⟨{ ext0 := by rw [r0], jn := by simpa [Tag.p] using hjn, n31 := h.n31, off := off, size := by simp [h.size]; omega, old := fun k g' h0 h1 hg' => ?_, wk := fun i hi => ?_, dfw := fun i hi => ?_, above := fun k hk => by rw [hdeaf]; exact h.above k (by omega), deaf0 := by rw [hdeaf]; exact h.deaf0, ext := fun i hi => ?_,
            tg := ?_, ti := h.ti.fork hx hy h.deaf0 (h.above _ (Nat.le_refl _)) hvis (fun k b hb => (hmine k b hb).1) hcel, visC := fun k hk => (hvis k _ hk).elim (h.visC k) (fun h' => h.visC 0 h'.2), dn := fun k b hb => (hvis k b hb).elim (h.dn k b) (fun h' => h.dn 0 b h'.2), dnw := h.dnw,
            nob := fun k h0 h1 b hb => ?_, CW := h.CW, Wlt := h.Wlt, Clt := h.Clt, shun := fun a ha => ?_, norel := fun op hop => ?_, rel := fun i hi hs => ?_, has := fun i hi hs => ?_, pay := h.pay, bound := ?_, known := fun i a ha hmem => ?_, over := fun i g hgi hne hc => ?_ }, ⟨st, sm, hwg, ?_⟩, rfl⟩
  · rw [hdeaf]
    rw [gs0 k (by rw [h.size]; omega) (by omega)] at hg'
    exact h.old k g' h0 h1 hg'
  · by_cases e : i = j
    · subst e
      refine ⟨child, ?_, ?_⟩
      · have : d.off + i = (gs.setIfInBounds 0 a').size := by simp [h.size]
        rw [this, Array.getElem?_push_size]
      · rw [rj, upd_same, upd_same]; exact .inl ⟨rfl, rfl, hc⟩
    · obtain ⟨z, hz, hs⟩ := h.wk i (by omega)
      exact ⟨z, by rw [gs0 _ (by rw [h.size]; omega) (by omega)]; exact hz, by rw [ro _ (by omega) (by omega), upd_ne D _ e, upd_ne rk _ e]; exact hs⟩
  · rw [hdeaf]
    by_cases e : i = j
    · subst e; rw [upd_same]; exact h.above _ (Nat.le_refl _)
    · rw [upd_ne D _ e]; exact h.dfw i (by omega)
  · by_cases e : i = j
    · subst e; rw [rj]
    · rw [ro _ (by omega) (by omega)]; exact h.ext i (by omega)
  · refine ⟨fun k b hb => ?_, fun k b hb => (hvis k b hb).elim (h.tg.lt k b) (fun h' => h.tg.lt 0 b h'.2), fun k k' b hne hb hb' => ?_, fun k k' a ha hb => ?_, fun k k' a ha hb => ?_, fun k a ha hb => (hvis k _ hb).elim (h.tg.sv k a ha) (fun h' => h.tg.sv 0 a ha h'.2), fun k a ha hb => ?_, h.tg.sb, fun k a ha => ?_⟩
    · obtain ⟨h1, h2, h3⟩ := hmine k b hb
      rw [ro k h2 h3]; exact h.tg.sub k b h1
    · obtain ⟨h1, h2, h3⟩ := hmine k b hb
      rcases hvis k' b hb' with h4 | ⟨_, h4⟩
      · exact h.tg.ap k k' b hne h1 h4
      · exact h.tg.ap k 0 b h2 h1 h4
    · obtain ⟨i, hi, rfl, _⟩ := ha
      exact (hvis k' _ hb).elim (h.visC k') (fun h' => h.visC 0 h'.2)
    · obtain ⟨i, hi, rfl, h1⟩ := ha
      obtain ⟨i', hi', e, h2⟩ := hb
      cases e
      omega
    · obtain ⟨i, hi, rfl, h1⟩ := hb
      obtain ⟨z, hz, hz'⟩ := ha
      cases hz
      exact h.CW hz'
    · obtain ⟨i, hi, rfl, h1⟩ := ha
      exact h.Clt
  · rcases hvis k b hb with h2 | ⟨h2, _⟩
    · exact h.nob k h0 (by omega) b h2
    · omega
  · obtain ⟨h1, h2, h3, h4⟩ := h.shun a ha
    exact ⟨h1, h2, h3, fun k hk => (hvis k _ hk).elim (h4 k) (fun h' => h4 0 h'.2)⟩
  · rcases Array.mem_append.1 hop with h1 | h1
    · exact h.norel op h1
    · rcases hm op h1 with rfl | rfl
      · rw [hx.2]; simp
      · rw [hy.2]; simp
  · by_cases e : i = j
    · subst e; rw [upd_same] at hs; simp at hs
    · rw [upd_ne D _ e] at hs
      obtain ⟨z, hz⟩ := h.rel i (by omega) hs
      refine ⟨z, hz.appNot fun op hop => ?_⟩
      rcases hm op hop with rfl | rfl
      · rw [hx.1]; omega
      · rw [hy.1]; omega
  · by_cases e : i = j
    · subst e; rw [upd_same] at hs; simp at hs
    · rw [upd_ne D _ e] at hs
      rw [ro _ (by omega) (by omega)]
      exact h.has i (by omega) hs
  · show Vc (j + 1) _ ≤ d.n
    have := Vc_le (j + 1) (upd D j ⟨7, 0, 0⟩)
    omega
  · obtain ⟨ha', hi⟩ := old ha
    rcases h.known i a ha' hmem with h1 | h1 | h1 | ⟨k, h1, h2, h3⟩
    · exact .inl (h1.app _)
    · exact .inr (.inl h1)
    · exact .inr (.inr (.inl h1))
    · exact .inr (.inr (.inr ⟨k, by omega, by rw [g?_old hi]; exact h2, h3⟩))
  · have hi : i < t.size := by obtain ⟨z, hz, _⟩ := hc; exact (old hz).2
    rcases h.over i g (by rw [← g?_old (u := #[x, y]) hi]; exact hgi) hne ((counts_old hi).1 hc) with ⟨m, hm', hb⟩ | ⟨k, h1, h2⟩
    · obtain ⟨z, hz, _⟩ := Option.map_eq_some_iff.1 hm'
      exact .inl ⟨m, by rw [g?_old (lt_size_of_getElem? hz)]; exact hm', hb_app _ hb⟩
    · exact .inr ⟨k, by omega, h2⟩
  · subst hsm hst'
    have e : Vc j D + pend (.sp 0 3) = Vc (j + 1) (upd D j ⟨7, 0, 0⟩) + pend .anch := by rw [Vc_succ j D _ (by simp [cnt])]; rfl
    rw [e]
    refine .opn trivial (fun i hi => ?_) (fun _ e => by cases e)
    by_cases e : i = j
    · subst e; rw [upd_same]; exact .inl rfl
    · rw [upd_ne D _ e]; exact ho i (by omega)
theorem f_spawn {b : Nat} (hV : V.ext = .crew d j (.opn 1 0 b)) (hrun : g.status = .running)
    (H : ∀ (w₁ : World), Rely V w w₁ → @PayAt d.pay d.C d.n w₁ → ∃ g' child, stepG P true g w₁ = .spawn g' child w₁ #[] ∧ (LH P (HStop P d j)).ok ⟨V.vis, fun _ => False, .hand d j⟩ child w₁ ∧ (LF P F hF).ok ⟨V.vis, fun _ => False, .crew d (j + 1) (.opn 0 0 d.n)⟩ g' w₁) : (LF P F hF).ok V g w := by
  refine f_turn hF hrun fun gs w₁ sl t hr h0 hc w0 sl0 hst => ?_
  have hlt : 0 < gs.size := (Array.getElem?_eq_some_iff.1 h0).1
  cases hc with
  | alone hc => rw [hc.ext] at hV; cases hV
  | @crew d' j' tag0 R D rk val q Shun hR h =>
    have e := h.ext0
    rw [hR, hV] at e
    cases e
    obtain ⟨g', child, hgo, hchild, hk⟩ := H w₁ hr h.pay
    have hrn := runT_crowd_spawn (P := P) (sl := sl) (i := 0) h0 (show stepG P (0 == 0) g w₁ = _ from hgo)
    rcases hchild with hbad | ⟨r, hchild⟩
    · cases hbad
    subst hR
    rw [h.size] at hrn
    have hoff := h.off
    refine hF _ _ _ _ (hst.trans hrn) (hk _ w₁ sl _ (Rely.refl trivial) ?_ (.crew ?_ (h.spawn ⟨rfl, rfl⟩ ⟨rfl, rfl⟩ hchild)))
    · rw [Array.getElem?_push_lt (by simpa using hlt), ← Array.getElem?_eq_getElem]
      simp [hlt]
    · rw [upd_ne _ _ (by omega), upd_same]
end
section
variable {P : Program} {F : Machine → Trace → Prop} {hF : Back P F} {d : CDat} {j : Nat} {tag : Tag} {V : Rig} {g : Goroutine} {w : World}
/-- THE GROUP IS MADE: goroutine 0 sets out to start a crew. -/
theorem f_enter (hV : V.ext = .alone) (hrun : g.status = .running)
    (H : ∀ (w₁ : World), Rely V w w₁ → ∀ off, 1 ≤ off → ∃ g' w' d, stepG P true g w₁ = .go g' w' #[] ∧ Guar0 V w₁ w' #[] ∧ d.Wg = w₁.heap.size ∧ w'.heap.size = w₁.heap.size + 1 ∧ WgAt d.ty d.Wg w' 0 0 ∧ d.off = off ∧ d.n < 2147483648 ∧ V.mine d.C ∧ @PayAt d.pay d.C d.n w' ∧
      (∀ b, V.vis b → d.dn b) ∧ (∀ b, d.Wg ≤ b → d.dn b) ∧ (LF P F hF).ok ⟨fun b => V.vis b ∧ b ≠ d.C, fun b => V.mine b ∧ b ≠ d.C, .crew d 0 (.opn 0 0 d.n)⟩ g' w') : (LF P F hF).ok V g w := by
  refine f_turn hF hrun fun gs w₁ sl t hr h0 hc w0 sl0 hst => ?_
  have hlt : 0 < gs.size := (Array.getElem?_eq_some_iff.1 h0).1
  cases hc with
  | crew hR h => rw [← hR, h.ext0] at hV; cases hV
  | alone hc =>
    obtain ⟨q, Shun, hL, hP, hS⟩ := hc.ex
    obtain ⟨g', w', d, hgo, hgu, hWg, hsz, hwg, hoff, hn, hCm, hpay, hd1, hd2, hk⟩ := H w₁ hr gs.size hlt
    have hrn := runT_crowd_go (P := P) (sl := sl) (i := 0) h0 (show stepG P (0 == 0) g w₁ = _ from hgo)
    have hCv := hc.sub _ hCm
    have hClt := hc.lt _ hCv
    have e0 : ∀ fn pos, MemOp.ofEvents 0 fn pos #[] = #[] := fun fn pos => by rw [ofEvents_eq]; simp
    have ht : t ++ MemOp.ofEvents 0 g.frame.fn g.frame.place #[] = t := by rw [e0]; simp
    have hL' := CI0.leavers hL hlt g g' w' g.frame.fn g.frame.place #[]
    rw [ht] at hL'
    obtain ⟨R, hR⟩ : ∃ R : Nat → Rig, R = upd (fun _ => ⟨fun _ => False, fun _ => False, .alone⟩) 0 ⟨fun b => V.vis b ∧ b ≠ d.C, fun b => V.mine b ∧ b ≠ d.C, .crew d 0 (.opn 0 0 d.n)⟩ := ⟨_, rfl⟩
    have r0 : R 0 = ⟨fun b => V.vis b ∧ b ≠ d.C, fun b => V.mine b ∧ b ≠ d.C, .crew d 0 (.opn 0 0 d.n)⟩ := by rw [hR, upd_same]
    have ro : ∀ k, k ≠ 0 → R k = ⟨fun _ => False, fun _ => False, .alone⟩ := fun k hk => by rw [hR, upd_ne _ _ hk]
    have hvis : ∀ k b, (R k).vis b → k = 0 ∧ V.vis b ∧ b ≠ d.C := fun k b hb => by
      by_cases e : k = 0
      · subst e; rw [r0] at hb; exact ⟨rfl, hb⟩
      · rw [ro k e] at hb; exact hb.elim
    have hmine : ∀ k b, (R k).mine b → k = 0 ∧ V.mine b ∧ b ≠ d.C := fun k b hb => by
      by_cases e : k = 0
      · subst e; rw [r0] at hb; exact ⟨rfl, hb⟩
      · rw [ro k e] at hb; exact hb.elim
    have hcel : ∀ k a, crewCel d 0 k a → k = 0 ∧ a.block = d.C := by
      rintro k a ⟨i, hi, rfl, h1 | h1⟩
      · exact ⟨h1.1, rfl⟩
      · exact absurd h1.2 (Nat.not_lt_zero _)
    have perm : ∀ a : Addr, V.vis a.block → Perm t 0 (.cell a) := fun a ha i z hz hl => by
      rcases hP.known i z hz (by rw [hl]; rfl) with h1 | ⟨h1, _⟩
      · exact h1
      · rw [hl] at h1; exact absurd ha (hS a h1).2
    have hWlt : d.Wg < w'.heap.size := by omega
    have hsizele : w₁.heap.size ≤ w'.heap.size := by omega
    refine hF _ _ _ _ (hst.trans hrn) (hk _ w' sl _ (Rely.refl trivial) (get_map_set_same _ _ _ hlt) ?_)
    rw [ht]
    letI := d.pay
    refine .crew (d := d) (j := 0) (tag := .opn 0 0 d.n) (R := R) (D := fun _ => ⟨1, 0, 0⟩) (rk := fun _ => .zero) (val := fun _ => undef) (q := q) (Shun := Shun) r0 ⟨{
        ext0 := by rw [r0], jn := Nat.zero_le _, n31 := hn, off := by rw [hoff]; exact hlt, size := by simp [hoff], old := fun k x h1 h2 hx => hL'.old k x h1 hx, wk := fun i hi => absurd hi (Nat.not_lt_zero _), dfw := fun i hi => absurd hi (Nat.not_lt_zero _),
        above := fun k hk => hL.above k (by rw [hoff] at hk; exact hk), deaf0 := hP.hears, ext := fun i hi => absurd hi (Nat.not_lt_zero _), tg := ?_, ti := ?_, visC := fun k hk => (hvis k _ hk).2.2 rfl, dn := fun k b hb => hd1 b (hvis k b hb).2.1, dnw := hd2, nob := fun k h1 _ b hb => ?_, CW := ?_, Wlt := hWlt, Clt := Nat.lt_of_lt_of_le hClt hsizele,
        shun := fun a ha => ?_, norel := fun op hop e => ?_, rel := fun i hi => absurd hi (Nat.not_lt_zero _), has := fun i hi => absurd hi (Nat.not_lt_zero _), pay := hpay, bound := Nat.zero_le _, known := fun i a ha hm => (hP.known i a ha hm).imp id .inl, over := fun i g hgi hne hcn => .inl (hP.over i g hgi hne hcn) }, ⟨0, 0, hwg, ?_⟩, rfl⟩
    · refine ⟨fun k b hb => ?_, fun k b hb => Nat.lt_of_lt_of_le (hc.lt b (hvis k b hb).2.1) hsizele, fun k k' b hne hb hb' => hne ((hmine k b hb).1.trans (hvis k' b hb').1.symm), fun k k' a ha hb => (hvis k' _ hb).2.2 (hcel k a ha).2, fun k k' a ha hb => (hcel k a ha).1.trans (hcel k' a hb).1.symm, fun k a ha hb => ?_, fun k a ha hb => ?_, fun a ha => ?_, fun k a ha => ?_⟩
      · obtain ⟨rfl, h1, h2⟩ := hmine k b hb
        rw [r0]; exact ⟨hc.sub b h1, h2⟩
      · obtain ⟨z, hz, hz'⟩ := ha
        cases hz
        have := hc.lt _ (hvis k _ hb).2.1
        omega
      · obtain ⟨z, hz, hz'⟩ := ha
        cases hz
        have := (hcel k _ hb).2
        omega
      · obtain ⟨z, hz, hz'⟩ := ha
        cases hz
        omega
      · rw [(hcel k a ha).2]; omega
    · refine ⟨hP.clean, fun op hop => MemAct.low_mono hsizele (hP.seen op hop), fun i op x hi hx hs => ?_, fun k a hk => ?_, fun k a hk => ?_, fun k a hk => ?_⟩
      · obtain ⟨a, ha, hb⟩ := hs
        have := low_touch (hP.seen op (Array.mem_of_getElem? hi)) hx ha
        omega
      · obtain ⟨rfl, h1, _⟩ := hvis k _ hk
        exact .of (perm a h1)
      · obtain ⟨rfl, h1, _⟩ := hmine k _ hk
        exact perm a (hc.sub _ h1)
      · obtain ⟨rfl, h1⟩ := hcel k a hk
        exact perm a (h1 ▸ hCv)
    · exact absurd (hvis k b hb).1 (by omega)
    · omega
    · obtain ⟨h1, h2⟩ := hS a ha
      refine ⟨Nat.lt_of_lt_of_le h1 hsizele, fun e => h2 (e ▸ hCv), by omega, fun k hk => h2 (hvis k _ hk).2.1⟩
    · have := hP.seen op hop
      rw [e] at this
      have : (stA d.Wg).block < w₁.heap.size := this
      simp only [stA] at this
      omega
    · have := Mode.opn (j := 0) (D := fun _ => ⟨1, 0, 0⟩) (tag := .anch) trivial (fun i hi => absurd hi (Nat.not_lt_zero _)) (fun _ e => by cases e)
      show Go.ConcN.Mode 0 _ .anch 0 0
      simpa [Vc, sumTo, pend] using this
/-- 'race.Acquire': ALL THAT THE HANDS DID IS GOROUTINE 0's AGAIN. -/
theorem f_leave (hV : V.ext = .crew d d.n (.fin 0)) (hrun : g.status = .running)
    (H : ∀ (w₁ : World) (vals : Nat → Value) (vis : Nat → Nat → Prop), Rely V w w₁ → @PayAt d.pay d.C d.n w₁ → (∀ i, i < d.n → Has d.C i (vals i) w₁ ∧ d.Res i (vis i) (vals i) w₁ ∧ ∀ b, vis i b → d.dn b) →
      ∃ g' V', stepG P true g w₁ = .go g' w₁ #[Go.ConcR.mk (.acquire (stA d.Wg))] ∧ V'.ext = .alone ∧ (∀ b, V'.vis b → V.vis b ∨ b = d.C ∨ ∃ i, i < d.n ∧ vis i b) ∧ (∀ b, V'.mine b → V'.vis b) ∧ (LF P F hF).ok V' g' w₁) : (LF P F hF).ok V g w := by
  refine f_turn hF hrun fun gs w₁ sl t hr h0 hc w0 sl0 hst => ?_
  have hlt : 0 < gs.size := (Array.getElem?_eq_some_iff.1 h0).1
  cases hc with
  | alone hc => rw [hc.ext] at hV; cases hV
  | @crew d' j' tag0 R D rk val q Shun hR h =>
    have e := h.ext0
    rw [hR, hV] at e
    cases e
    letI := d.pay
    obtain ⟨st, sm, hwg, hmo⟩ := h.mode
    obtain ⟨hq1, _, _⟩ := hmo.fin_inv trivial
    have off := h.off
    obtain ⟨g', V', hgo, hVe, hVv, hVm, hk⟩ := H w₁ val (fun i => (R (d.off + i)).vis) hr h.pay (fun i hi => by
      have := h.has i hi (by rw [hq1 i hi]; omega)
      exact ⟨this.1, this.2, h.dn _⟩)
    have hrn := runT_crowd_go (P := P) (sl := sl) (i := 0) h0 (show stepG P (0 == 0) g w₁ = _ from hgo)
    refine hF _ _ _ _ (hst.trans hrn) (hk _ w₁ sl _ (Rely.refl (by rw [hVe]; trivial)) (get_map_set_same _ _ _ hlt) (.alone ?_))
    have e1 : ∀ fn pos, MemOp.ofEvents 0 fn pos #[Go.ConcR.mk (.acquire (stA d.Wg))] = #[{ g := 0, fn, pos, act := .mark (.acquire (stA d.Wg)) }] := fun fn pos => by rw [ofEvents_eq]; simp [Go.ConcR.ofEvent_mk]
    rw [e1]
    obtain ⟨y, hy⟩ : ∃ y : MemOp, y = { g := 0, fn := g.frame.fn, pos := g.frame.place, act := .mark (.acquire (stA d.Wg)) } := ⟨_, rfl⟩
    rw [← hy]
    have yg : y.g = 0 := by rw [hy]
    have ya : y.act = .mark (.acquire (stA d.Wg)) := by rw [hy]
    have hu : ∀ op ∈ #[y], op.g = 0 := fun op hop => by simp at hop; rw [hop, yg]
    have hnt : ∀ op ∈ #[y], op.act.touch? = none := fun op hop => by simp at hop; rw [hop, ya]; rfl
    have hlast : (t ++ #[y])[t.size]? = some y := by simp
    have hd0 : Deaf t 0 = 0 := h.deaf0
    have heard : (t ++ #[y]).heard t.size := ⟨0, by simp [Trace.g?, yg], by rw [deaf_old (Nat.le_refl _)]; exact hd0⟩
    have hdeaf : ∀ k, Deaf (t ++ #[y]) k = Deaf t k := fun k => Deaf_still t k _ fun op hop => by simp at hop; rw [hop, ya]; simp
    have hnorel : ∀ k, (t ++ #[y]).act? k ≠ some (.mark (.release (stA d.Wg))) := fun k e => by
      obtain ⟨op, hop, hoa⟩ := Option.map_eq_some_iff.1 e
      rcases Array.mem_append.1 (Array.mem_of_getElem? hop) with h1 | h1
      · exact h.norel op h1 hoa
      · simp at h1; rw [h1, ya] at hoa; cases hoa
    have join : ∀ i, i < d.n → ∃ r, RelBy (stA d.Wg) (t ++ #[y]) (d.off + i) r ∧ HappensBefore (t ++ #[y]) r t.size := fun i hi => by
      obtain ⟨r, hr⟩ := h.rel i hi (by rw [hq1 i hi]; omega)
      have hr' : RelBy (stA d.Wg) (t ++ #[y]) (d.off + i) r := hr.appOther hu (by omega)
      have hlt : r < t.size := lt_of_act? hr.act
      exact ⟨r, hr', .single (.inr ⟨.marked hlt (.inr hr'.act) (by rw [act?_of hlast, ya]) (fun k _ _ => hnorel k), hr'.heard, heard⟩)⟩
    have hand : ∀ i k, k < d.n → (t ++ #[y]).g? i = some (d.off + k) → (t ++ #[y]).counts i → HappensBefore (t ++ #[y]) i t.size := fun i k hk hg hcn => by
      obtain ⟨r, hr, hb⟩ := join k hk
      have hle : i ≤ r := Nat.le_of_not_lt fun hlt => hr.after i hlt hg hcn
      rcases Nat.lt_or_ge i r with hlt | hge
      · exact .trans (.single (.inl ⟨hlt, _, hg, hr.g⟩)) hb
      · obtain rfl : i = r := by omega
        exact hb
    have h0t : (t ++ #[y]).g? t.size = some 0 := by simp [Trace.g?, yg]
    have old : ∀ {i : Nat} {a : Touch}, touchAt (t ++ #[y]) i = some a → touchAt t i = some a ∧ i < t.size := by
      intro i a ha
      obtain ⟨z, hz, hza⟩ := touch_of ha
      rcases getElem?_append_cases hz with ⟨hi, hz'⟩ | ⟨_, hzu⟩
      · exact ⟨by rw [touchAt_of hz']; exact hza, hi⟩
      · rw [hnt z hzu] at hza; cases hza
    have hLv : Leavers P (t ++ #[y]) ((gs.map (woken P g g' w₁)).setIfInBounds 0 g') (fun k => if k < d.off then q k else (D (k - d.off)).fuel) := by
      refine ⟨fun k x hk hx => ?_, fun k hk => ?_⟩
      · rw [get_map_set _ _ _ _ (by omega)] at hx
        obtain ⟨z, hz, rfl⟩ := Option.map_eq_some_iff.1 hx
        rw [hdeaf]
        by_cases e : k < d.off
        · have := h.old k z hk e hz
          rw [woken_quitsD this]
          simpa [e] using this
        · obtain ⟨i, rfl⟩ : ∃ i, k = d.off + i := ⟨k - d.off, by omega⟩
          have hi : i < d.n := by
            have := (Array.getElem?_eq_some_iff.1 hz).1
            rw [h.size] at this; omega
          obtain ⟨z', hz', hs⟩ := h.wk i hi
          rw [hz] at hz'; cases hz'
          rw [hs.woken, h.dfw i hi]
          simp only [e, if_false, Nat.add_sub_cancel_left]
          rcases hs with ⟨h7, _⟩ | ⟨_, hs⟩
          · rw [hq1 i hi] at h7; omega
          · rw [hq1 i hi] at hs
            cases hs with
            | quit hs => exact hs
      · rw [hdeaf]
        exact h.above k (by simpa [h.size] using hk)
    refine ⟨hVe, ⟨_, fun l => Shun l ∨ ShN d.Wg l, hLv, ⟨fun said => ?_, fun i a ha hm => ?_, fun i g hgi hne hcn => ?_, by rw [hdeaf]; exact hd0, fun op hop => ?_⟩, fun a ha => ?_⟩, fun b hb => ?_, hVm⟩
    · exact noRace_append (h.ti.nr said) hu fun i a _ op hop b hb _ => by rw [hnt op hop] at hb; cases hb
    · obtain ⟨ha', hi⟩ := old ha
      rcases h.known i a ha' hm with h1 | h1 | h1 | ⟨k, h1, h2, h3⟩
      · exact .inl (h1.app _)
      · exact .inr ⟨.inl h1.1, h1.2⟩
      · exact .inr ⟨.inr h1.1, h1.2⟩
      · exact .inl ⟨t.size, y, hlast, yg, .inr (hand i k h1 (by rw [g?_old hi]; exact h2) ⟨a, ha, hm, .inl h3⟩)⟩
    · have hi : i < t.size := by obtain ⟨z, hz, _⟩ := hcn; exact (old hz).2
      rcases h.over i g (by rw [← g?_old (u := #[y]) hi]; exact hgi) hne ((counts_old hi).1 hcn) with ⟨m, hm', hb⟩ | ⟨k, h1, rfl⟩
      · obtain ⟨z, hz, _⟩ := Option.map_eq_some_iff.1 hm'
        exact ⟨m, by rw [g?_old (lt_size_of_getElem? hz)]; exact hm', hb_app _ hb⟩
      · exact ⟨t.size, h0t, hand i k h1 hgi hcn⟩
    · rcases Array.mem_append.1 hop with h1 | h1
      · exact h.ti.low op h1
      · simp at h1
        rw [h1, ya]
        exact h.Wlt
    · have vis : ∀ b, V'.vis b → b = d.C ∨ ∃ k, (R k).vis b := fun b hb => (hVv b hb).elim (fun h => .inr ⟨0, hR ▸ h⟩) fun h => h.elim .inl fun ⟨i, _, h⟩ => .inr ⟨_, h⟩
      rcases ha with ha | ⟨z, hz, hz'⟩
      · obtain ⟨h1, h2, h3, h4⟩ := h.shun a ha
        refine ⟨h1, fun hv => (vis _ hv).elim h2 fun ⟨k, hk⟩ => h4 k hk⟩
      · cases hz
        rw [hz']
        refine ⟨h.Wlt, fun hv => (vis _ hv).elim (fun e => h.CW e.symm) fun ⟨k, hk⟩ => h.toCrew.visW k hk⟩
    · rcases hVv b hb with h1 | rfl | ⟨i, _, h1⟩
      · exact h.tg.lt 0 b (hR ▸ h1)
      · exact h.Clt
      · exact h.tg.lt _ b h1
end
end Go.Eng

namespace Go.Eng
open Go Go.Conc Go.ConcN
open Go.ConcR (g_of_ofEvents)

section
variable {P : Program}
theorem Reached.back (ok : Rig → Goroutine → World → Prop) : Back P (Reached P ok) :=
  fun _ _ _ _ hs ⟨N, gs, w, sl, t', V, g, h1, h2, h3, h4⟩ => ⟨N + 1, gs, w, sl, t', V, g, by simp only [runNT, hs]; exact h1, h2, h3, h4⟩
theorem lf_of_ok (L : Lg P) {V : Rig} {g : Goroutine} {w : World} (hV : V.ext = .alone) (h : L.ok V g w) : (LF P (Reached P L.ok) (Reached.back _)).ok V g w := by
  intro gs w₁ sl t hr h0 hc
  cases hc with
  | alone hc => exact ⟨0, gs, w₁, sl, t, V, g, rfl, h0, hc, L.rely h hr⟩
  | crew hR hc => rw [← hR, hc.ext0] at hV; cases hV
theorem ok_of_lf (L : Lg P) {V : Rig} {g : Goroutine} {w : World} (hV : V.ext = .alone) (h : (LF P (Reached P L.ok) (Reached.back _)).ok V g w) : L.ok V g w :=
  L.big hV fun gs w₁ sl t hr h0 hc => h gs w₁ sl t hr h0 (.alone hc)
/-- What goroutine 0's own logic can do, any logic can, while it is alone. -/
theorem wpV_lift (L : Lg P) {c : Code} {Q : Exit → Act → CW → Prop} {a : Act} {x : CW} (hV : x.V.ext = .alone) (h : c.wpV (LF P (Reached P L.ok) (Reached.back _)) (fun e a x => Q e a x ∧ x.V.ext = .alone) a x) : c.wpV L Q a x := by
  intro b k cs hb hc
  refine ok_of_lf L hV (h b k cs hb fun e a' x' q => ?_)
  have := hc e a' x' q.1
  cases e with
  | normal => exact lf_of_ok L q.2 this
  | exit id => obtain ⟨k', h1, h2⟩ := this; exact ⟨k', h1, lf_of_ok L q.2 h2⟩
  | ret => exact fun todo => lf_of_ok L q.2 (this todo)
  | goto l => exact this
  | panic ch => exact this
  | outgrown => exact this
/-- The run ends, and all is well. -/
def EndsF (P : Program) (Post : Value → World → Prop) (m : Machine) (t : Trace) : Prop :=
  ∃ N last o w' t', runNT P (N + 1) m t = (.ended o w', t') ∧ runN P N m = .next last ∧ step P last = .ended o w' ∧ Go.Conc.Good P Post last o w' t'
theorem step_of_stepT {m m' : Machine} {ops : Trace} (h : stepT P m = (.next m', ops)) : step P m = .next m' := by
  have := congrArg Prod.fst h
  simpa [step] using this
theorem EndsF.back (Post : Value → World → Prop) : Back P (EndsF P Post) := by
  rintro m t m' ops hs ⟨N, last, o, w', t', h1, h2, h3, h4⟩
  exact ⟨N + 1, last, o, w', t', by rw [show N + 1 + 1 = (N + 1) + 1 from rfl]; simp only [runNT, hs] at h1 ⊢; exact h1, by simp only [runN, step_of_stepT hs]; exact h2, h3, h4⟩
theorem f_end {Post : Value → World → Prop} {V : Rig} {g : Goroutine} {w : World} (hV : V.ext = .alone) (hrun : g.status = .running)
    (H : ∀ w₁, Rely V w w₁ → ∃ v es, stepG P true g w₁ = .ended (.done v) w₁ es ∧ (∀ e ∈ es, EvG V w₁.heap.size w₁.heap.size e) ∧ Post v w₁) : (LF P (EndsF P Post) (EndsF.back Post)).ok V g w := by
  refine f_turn (EndsF.back Post) hrun fun gs w₁ sl t hr h0 hc w0 sl0 hst => ?_
  cases hc with
  | crew hR h => rw [← hR, h.ext0] at hV; cases hV
  | alone hc =>
    obtain ⟨q, Shun, hL, hP, hS⟩ := hc.ex
    obtain ⟨v, es, hend, hes, hpost⟩ := H w₁ hr
    have hrunT := runT_many_ended (P := P) (sl := sl) (i := 0) h0 (show stepG P (0 == 0) g w₁ = _ from hend)
    have hP' := hP.own (fn := g.frame.fn) (pos := g.frame.place) (evL_guar (Nat.le_refl _) hS hc.lt hes)
    have hs : step P (crowd gs w0 sl0) = .ended (.done v) w₁ := by
      have := congrArg Prod.fst (hst.trans hrunT)
      simpa [step] using this
    refine ⟨0, crowd gs w0 sl0, .done v, w₁, _, by simp only [runNT, hst.trans hrunT], rfl, hs, v, rfl, hpost, hP'.clean, hP'.over, ⟨fun x hx => ?_, rfl⟩, fun j x hx hj => ?_⟩
    · obtain ⟨j, hj⟩ := List.mem_iff_getElem?.1 hx
      rw [List.getElem?_drop] at hj
      exact ⟨_, (hL.old (1 + j) x (by omega) (by simpa [crowd] using hj)).leaves⟩
    · have hq := hL.old j x (by omega) hx
      refine ⟨q j, ?_⟩
      have e : (t ++ MemOp.ofEvents 0 g.frame.fn g.frame.place es).deaf j (t ++ MemOp.ofEvents 0 g.frame.fn g.frame.place es).size = Deaf t j :=
        Deaf_other t (g := j) (g' := 0) (by omega) _ g_of_ofEvents
      rw [e]
      exact hq.hears _
end
end Go.Eng

namespace Go.Eng
open Go Go.Conc

/-- The fields, one cell each: a number (true) or a truth (false). -/
inductive FlatF (P : Program) : Nat → List Field → List Bool → Prop where
  | nil {i : Nat} : FlatF P i [] []
  | int {i : Nat} {f : Field} {fs : List Field} {ks : List Bool} {k : IntKind} (h1 : f.name ≠ "_") (h2 : f.offset = i) (h3 : TyOk P f.type false 1) (h4 : P.underlying f.type = some (.int k)) (hs : FlatF P (i + 1) fs ks) : FlatF P i (f :: fs) (true :: ks)
  | bool {i : Nat} {f : Field} {fs : List Field} {ks : List Bool} (h1 : f.name ≠ "_") (h2 : f.offset = i) (h3 : TyOk P f.type false 1) (h4 : P.underlying f.type = some .bool) (hs : FlatF P (i + 1) fs ks) : FlatF P i (f :: fs) (false :: ks)
class FlatOk (P : Program) (t : Nat) (ks : outParam (List Bool)) : Prop where
  ok : ∃ fs, P.underlying t = some (.struct fs) ∧ P.stoodInHeld t = false ∧ P.eqGuardType P.depth t = false ∧ FlatF P 0 fs.toList ks
theorem fieldsOf_eq {P : Program} {t : Nat} {fs : Array Field} (h : P.underlying t = some (.struct fs)) : P.fieldsOf t = fs := by
  simp only [Program.fieldsOf, h]
/-- What holding them against each other gives. -/
def eqvO : List Bool → List AV → List AV → Option Bool
  | [], _, _ => some true
  | true :: ks, .v (.int .i64 a) :: xs, .v (.int .i64 b) :: ys => match eqvO ks xs ys with | some r => some (a == b && r) | none => none
  | false :: ks, .v (.bool a) :: xs, .v (.bool b) :: ys => match eqvO ks xs ys with | some r => some (a == b && r) | none => none
  | _, _, _ => none
theorem run_flat {P : Program} {w : World} {d : Nat} {g : Gh} {xs ys : Array Value} : ∀ {i : Nat} {fs : List Field} {ks : List Bool} {cs ds : List AV} {r : Bool}, FlatF P i fs ks → reps g w cs (xs.toList.drop i) → reps g w ds (ys.toList.drop i) → eqvO ks cs ds = some r →
    (Op.eqFields (d + 1) xs ys fs).run P w = .ok r w
  | i, [], [], cs, ds, r, h, _, _, hr => by
    simp only [eqvO, Option.some.injEq] at hr
    subst hr
    simp [Op.eqFields]
  | i, f :: fs, true :: ks, cs, ds, r, h, h1, h2, hr => by
    cases h with
    | int k1 k2 k3 k4 k5 =>
      match cs, ds, hr with
      | .v (.int .i64 a) :: cs, .v (.int .i64 b) :: ds, hr =>
        simp only [eqvO] at hr
        split at hr
        · rename_i r' hr'
          cases hr
          simp only [reps, rep] at h1 h2
          obtain ⟨y, zs, e1, rfl, h1⟩ := h1
          obtain ⟨y', zs', e2, rfl, h2⟩ := h2
          have hx : xs[f.offset]? = some (.int .i64 a) := by rw [k2]; have := congrArg (·[0]?) e1; simpa using this
          have hy : ys[f.offset]? = some (.int .i64 b) := by rw [k2]; have := congrArg (·[0]?) e2; simpa using this
          have d1 : xs.toList.drop (i + 1) = zs := by rw [← List.drop_drop, e1]; rfl
          have d2 : ys.toList.drop (i + 1) = zs' := by rw [← List.drop_drop, e2]; rfl
          have ih := run_flat (w := w) (d := d) k5 (by rw [d1]; exact h1) (by rw [d2]; exact h2) hr'
          simp only [Op.eqFields, if_pos k1, Sem.run_bind, part, k3.ag, Result.andThen_ok, hx, hy]
          simp only [Bool.false_eq_true, if_false, Sem.run_pure, Result.andThen_ok, run_equalIn_int (w := w) (d := d) f.type .i64 _ a b k4]
          cases hab : (a == b)
          · simp
          · simpa using ih
        · cases hr
  | i, f :: fs, false :: ks, cs, ds, r, h, h1, h2, hr => by
    cases h with
    | bool k1 k2 k3 k4 k5 =>
      match cs, ds, hr with
      | .v (.bool a) :: cs, .v (.bool b) :: ds, hr =>
        simp only [eqvO] at hr
        split at hr
        · rename_i r' hr'
          cases hr
          simp only [reps, rep] at h1 h2
          obtain ⟨y, zs, e1, rfl, h1⟩ := h1
          obtain ⟨y', zs', e2, rfl, h2⟩ := h2
          have hx : xs[f.offset]? = some (.bool a) := by rw [k2]; have := congrArg (·[0]?) e1; simpa using this
          have hy : ys[f.offset]? = some (.bool b) := by rw [k2]; have := congrArg (·[0]?) e2; simpa using this
          have d1 : xs.toList.drop (i + 1) = zs := by rw [← List.drop_drop, e1]; rfl
          have d2 : ys.toList.drop (i + 1) = zs' := by rw [← List.drop_drop, e2]; rfl
          have ih := run_flat (w := w) (d := d) k5 (by rw [d1]; exact h1) (by rw [d2]; exact h2) hr'
          simp only [Op.eqFields, if_pos k1, Sem.run_bind, part, k3.ag, Result.andThen_ok, hx, hy]
          simp only [Bool.false_eq_true, if_false, Sem.run_pure, Result.andThen_ok, run_equalIn_bool' (w := w) (d := d) f.type a b k4]
          cases hab : (a == b)
          · simp
          · simpa using ih
        · cases hr
theorem qt_program : Qt program := fun _ _ _ => rfl
theorem qt_isAgg (t : TypeId) : Qt (isAgg t) := by
  unfold isAgg
  repeat' (first | exact qt_pure _ | exact qt_program | exact qt_underlying _ | exact qt_typeInfo _ | refine qt_bind ?_ (fun _ => ?_) | split)
theorem qt_part (t : TypeId) (cs : Array Value) (o : Nat) : Qt (part t cs o) := by
  unfold part
  repeat' (first | exact qt_pure _ | exact qt_stuck _ | exact qt_isAgg _ | exact qt_typeInfo _ | exact qt_sizeOf _ | refine qt_bind ?_ (fun _ => ?_) | split)
theorem ev_equalIn_struct {P : Program} (w : World) (es : Array Event) (d : Nat) (t : TypeId) (xs ys : Array Value) (ht : P.underlying t = some (.struct (P.fieldsOf t))) (hp : P.stoodInHeld t = false) :
    (Op.equalIn (d + 1) t (.agg xs) (.agg ys)).events P w es = (Op.eqFields d xs ys (P.fieldsOf t).toList).events P w es := by
  simp only [Op.equalIn, Sem.events_bind, run_underlying ht, Result.evThen_ok, events_underlying, run_program, events_program, hp, Bool.false_eq_true, if_false]
  rw [← Array.forIn_toList]
  generalize (P.fieldsOf t).toList = fs
  clear ht
  induction fs generalizing w es with
  | nil => simp [Op.eqFields]
  | cons f fs ih =>
    simp only [List.forIn_cons, Op.eqFields]
    by_cases hf : f.name ≠ "_"
    · simp only [hf, ne_eq, not_false_eq_true, if_true, Sem.events_bind, Sem.run_bind, qt_part _ _ _ P]
      generalize (part f.type xs f.offset).run P w = r1
      cases r1 with
      | ok a w1 =>
        simp only [Result.andThen_ok, Result.evThen_ok]
        generalize (part f.type ys f.offset).run P w1 = r2
        cases r2 with
        | ok b w2 =>
          simp only [Result.andThen_ok, Result.evThen_ok]
          generalize (Op.equalIn d f.type a b).run P w2 = r3
          cases r3 with
          | ok r w3 =>
            cases r
            · simp
            · simpa using ih w3 _
          | halt x w3 => simp [Result.andThen, Result.evThen]
        | halt x w2 => simp [Result.andThen, Result.evThen]
      | halt x w1 => simp [Result.andThen, Result.evThen]
    · simp only [hf, if_false]
      simpa using ih w es
theorem ev_flat {P : Program} {w : World} {d : Nat} {g : Gh} {xs ys : Array Value} {es : Array Event} : ∀ {i : Nat} {fs : List Field} {ks : List Bool} {cs ds : List AV} {r : Bool}, FlatF P i fs ks → reps g w cs (xs.toList.drop i) → reps g w ds (ys.toList.drop i) → eqvO ks cs ds = some r →
    (Op.eqFields (d + 1) xs ys fs).events P w es = es
  | i, [], [], cs, ds, r, h, _, _, hr => by
    simp [Op.eqFields]
  | i, f :: fs, true :: ks, cs, ds, r, h, h1, h2, hr => by
    cases h with
    | int k1 k2 k3 k4 k5 =>
      match cs, ds, hr with
      | .v (.int .i64 a) :: cs, .v (.int .i64 b) :: ds, hr =>
        simp only [eqvO] at hr
        split at hr
        · rename_i r' hr'
          cases hr
          simp only [reps, rep] at h1 h2
          obtain ⟨y, zs, e1, rfl, h1⟩ := h1
          obtain ⟨y', zs', e2, rfl, h2⟩ := h2
          have hx : xs[f.offset]? = some (.int .i64 a) := by rw [k2]; have := congrArg (·[0]?) e1; simpa using this
          have hy : ys[f.offset]? = some (.int .i64 b) := by rw [k2]; have := congrArg (·[0]?) e2; simpa using this
          have d1 : xs.toList.drop (i + 1) = zs := by rw [← List.drop_drop, e1]; rfl
          have d2 : ys.toList.drop (i + 1) = zs' := by rw [← List.drop_drop, e2]; rfl
          have ih := ev_flat (w := w) (d := d) (es := es) k5 (by rw [d1]; exact h1) (by rw [d2]; exact h2) hr'
          have he : (Op.equalIn (d + 1) f.type (.int .i64 a) (.int .i64 b)).events P w es = es := by simp [Op.equalIn, run_underlying k4]
          simp only [Op.eqFields, if_pos k1, Sem.events_bind, Sem.run_bind, part, k3.ag, Result.andThen_ok, Result.evThen_ok, hx, hy]
          simp only [Bool.false_eq_true, if_false, Sem.run_pure, Sem.events_pure, Result.evThen_ok, run_equalIn_int (w := w) (d := d) f.type .i64 _ a b k4]
          cases hab : (a == b)
          · simp [he]
          · simpa [he] using ih
        · cases hr
  | i, f :: fs, false :: ks, cs, ds, r, h, h1, h2, hr => by
    cases h with
    | bool k1 k2 k3 k4 k5 =>
      match cs, ds, hr with
      | .v (.bool a) :: cs, .v (.bool b) :: ds, hr =>
        simp only [eqvO] at hr
        split at hr
        · rename_i r' hr'
          cases hr
          simp only [reps, rep] at h1 h2
          obtain ⟨y, zs, e1, rfl, h1⟩ := h1
          obtain ⟨y', zs', e2, rfl, h2⟩ := h2
          have hx : xs[f.offset]? = some (.bool a) := by rw [k2]; have := congrArg (·[0]?) e1; simpa using this
          have hy : ys[f.offset]? = some (.bool b) := by rw [k2]; have := congrArg (·[0]?) e2; simpa using this
          have d1 : xs.toList.drop (i + 1) = zs := by rw [← List.drop_drop, e1]; rfl
          have d2 : ys.toList.drop (i + 1) = zs' := by rw [← List.drop_drop, e2]; rfl
          have ih := ev_flat (w := w) (d := d) (es := es) k5 (by rw [d1]; exact h1) (by rw [d2]; exact h2) hr'
          have he : (Op.equalIn (d + 1) f.type (.bool a) (.bool b)).events P w es = es := by simp [Op.equalIn, run_underlying k4]
          simp only [Op.eqFields, if_pos k1, Sem.events_bind, Sem.run_bind, part, k3.ag, Result.andThen_ok, Result.evThen_ok, hx, hy]
          simp only [Bool.false_eq_true, if_false, Sem.run_pure, Sem.events_pure, Result.evThen_ok, run_equalIn_bool' (w := w) (d := d) f.type a b k4]
          cases hab : (a == b)
          · simp [he]
          · simpa [he] using ih
        · cases hr
theorem ev_eqA {P : Program} {w : World} {ρ : Operand → Value} {xT yT : TypeId} {x y : Operand} {xs ys : Array Value} {op : BinOp} {d : Option Tmp} {ty : TypeId} {pos : String} {af : Array Edge} {gd : Option (Nat × Bool)} (f1 : P.underlying xT = some (.struct (P.fieldsOf xT))) (f2 : P.stoodInHeld xT = false) (f3 : P.eqGuardType P.depth xT = false) (e1 : ρ x = .agg xs) (e2 : ρ y = .agg ys)
    (h : (Op.eqFields 9999 xs ys (P.fieldsOf xT).toList).events P w #[] = #[]) (hop : op = .eql ∨ op = .neq) : (execOp ρ ⟨d, .binOp op xT x y yT, ty, pos, af, gd⟩).events P w #[] = #[] := by
  have hg : (eqGuard op xT x y (.agg xs) (.agg ys)).events P w #[] = #[] := by
    rcases hop with rfl | rfl <;> simp [eqGuard, run_program, f3]
  have hb : (binOp op xT (.agg xs) (.agg ys)).events P w #[] = #[] := by
    have := ev_equalIn_struct (P := P) w #[] 9999 xT xs ys f1 f2
    rw [h] at this
    rcases hop with rfl | rfl <;> simp only [binOp, Op.equal, Op.maxDepth, Sem.events_bind, this] <;> (try cases (Op.equalIn 10000 xT (.agg xs) (.agg ys)).run P w) <;> rfl
  simp only [execOp, e1, e2, Sem.events_bind, run_eqGuard_agg w op xT x y xs ys f3, Result.evThen_ok, hg, hb]
  cases (do eqGuard op xT x y (.agg xs) (.agg ys); binOp op xT (.agg xs) (.agg ys) : Sem Value).run P w <;> rfl
section
variable {E : En} {bl : List (Nat × List AV)} {tm : List (Nat × AV)} {d : Option Tmp} {ty : TypeId} {pos : String} {af : Array Edge} {gd : Option (Nat × Bool)}
theorem QV_eqA {xT yT : TypeId} {x y : Operand} {ks : List Bool} {cs ds : List AV} {r : Bool} [hf : FlatOk E.P xT ks] (hx : ev tm x = .agg cs) (hy : ev tm y = .agg ds) (hr : eqvO ks cs ds = some r) : QV E bl tm ⟨d, .binOp .eql xT x y yT, ty, pos, af, gd⟩ (.v (.bool r)) [] [] :=
  QV_pure fun g w ρ hop => by
    have h1 := hop x (by simp [Op.operands])
    have h2 := hop y (by simp [Op.operands])
    rw [hx] at h1; rw [hy] at h2
    simp only [rep] at h1 h2
    obtain ⟨xs, e1, h1⟩ := h1
    obtain ⟨ys, e2, h2⟩ := h2
    obtain ⟨fs, f1, f2, f3, f4⟩ := hf.ok
    have f1' : E.P.underlying xT = some (.struct (E.P.fieldsOf xT)) := by rw [fieldsOf_eq f1]; exact f1
    have hrun := run_flat (P := E.P) (w := w) (d := 9998) f4 (by simpa using h1) (by simpa using h2) hr
    have hev := ev_flat (P := E.P) (w := w) (d := 9998) (es := #[]) f4 (by simpa using h1) (by simpa using h2) hr
    refine ⟨.bool r, ?_, evR_of (ev_eqA f1' f2 f3 e1 e2 (fieldsOf_eq f1 ▸ hev) (.inl rfl)), by simp only [rep]⟩
    simp only [execOp, e1, e2, Sem.run_bind, run_eqGuard_agg w .eql xT x y xs ys f3, Result.andThen_ok, run_eql_struct, run_equalIn_agg w 9999 xT xs ys f1' f2, fieldsOf_eq f1, hrun, Sem.run_pure]
end
end Go.Eng

namespace Go.Eng
open Go Go.Conc

class ArOk (P : Program) (t : Nat) (T len e : outParam Nat) : Prop where
  und : P.underlying t = some (.array len T)
  size : (P.info? T).map (·.size) = some e
section
variable {E : En} {bl : List (Nat × List AV)} {tm : List (Nat × AV)} {d : Option Tmp} {ty : TypeId} {pos : String} {af : Array Edge} {gd : Option (Nat × Bool)}
/-- An element's address in an array variable. -/
theorem q_indexAr {t : Nat} {x ix : Operand} {n o T len e : Nat} {k : IntKind} {i : Int} (j : Nat) [ha : ArOk E.P t T len e] (hx : ev tm x = .ptr n o) (hi : ev tm ix = .v (.int k i)) (hj : i = j) (hl : Nat.blt j len = true) : QV E bl tm ⟨d, .indexAddr t x ix, ty, pos, af, gd⟩ (.ptr n (o + j * e)) [] [] :=
  QV_pure fun g w ρ hop => by
    have h1 := hop x (by simp [Op.operands])
    have h2 := hop ix (by simp [Op.operands])
    rw [hx] at h1; rw [hi] at h2
    simp only [rep] at h1 h2
    obtain ⟨b, m1, h1⟩ := h1
    subst hj
    have hlt : j < len := Nat.le_of_ble_eq_true hl
    have hsz : (sizeOf T).run E.P w = .ok e w := by
      have := ha.size
      cases hq : E.P.info? T with
      | none => simp [hq] at this
      | some i => simp [hq] at this; simp [sizeOf, typeInfo, hq, this]
    refine ⟨.pointer (some ⟨b, o + j * e, none⟩), ?_, evR_of ?_, by simp only [rep]; exact ⟨b, m1, rfl⟩⟩
    · simp [execOp, h1, h2, Instr.indexAt, Instr.sureAddr, asIntOf, run_underlying ha.und, hsz, addr_add, hlt]
    · simp [execOp, h1, h2, Instr.indexAt, Instr.sureAddr, asIntOf, run_underlying ha.und, addr_add, hlt]
end
end Go.Eng

namespace Go.Eng
open Go Go.Conc
section
variable {E : En} {bl : List (Nat × List AV)} {tm : List (Nat × AV)} {d : Option Tmp} {ty : TypeId} {pos : String} {af : Array Edge} {gd : Option (Nat × Bool)}
theorem q_buildAr {t T len e : Nat} {ps : Array (Nat × Operand)} {zc out : List AV} [ha : ArOk E.P t T len e] [hz : ZcOk E.P t zc] (h : buildO (fun i => some (i * e, e)) tm zc ps.toList = some out) : QV E bl tm ⟨d, .build t ps, ty, pos, af, gd⟩ (.agg out) [] [] :=
  QV_pure fun g w ρ hop => by
    obtain ⟨zv, h1, rfl⟩ := hz.ok
    obtain ⟨cs, k1, k2⟩ := fill_abuild (g := g) (w := w) (pl := fun i => some (i * e, e)) _ (ps.toList.map fun p => (p.1, ρ p.2)) _ zv.cells out (by simp [List.map_map, Function.comp_def])
      (reps_parts ps.toList fun x hx => hop x (by simpa [Op.operands] using hx)) (reps_lits _) (buildO_eq h)
    refine ⟨.agg cs, ?_, evR_of (by simp only [execOp]; exact qt_bind (qt_build _ _) (fun _ => qt_pure _) _ _ _), by simp only [rep]; exact ⟨cs, rfl, k2⟩⟩
    have e1 : (ps.map fun x => (x.1, ρ x.2)).toList = ps.toList.map fun p => (p.1, ρ p.2) := by simp
    have k1' : Instr.fill (fun i => some (i * e, e)) zv.cells (ps.map fun x => (x.1, ρ x.2)).toList = some cs := by
      rw [e1]; exact k1
    have hsz : (sizeOf T).run E.P w = .ok e w := by
      have := ha.size
      cases hq : E.P.info? T with
      | none => simp [hq] at this
      | some i => simp [hq] at this; simp [sizeOf, typeInfo, hq, this]
    simp only [execOp, Instr.build, Sem.run_bind, h1.zero w, run_underlying ha.und, Result.andThen_ok, hsz, k1', Sem.run_pure]
end
end Go.Eng

namespace Go.Eng
open Go Go.Conc
/-- A loop of at most m rounds, round by round. -/
def RoundsW (E : En) (c : Code) (Q : Exit → St → Prop) : Nat → St → Prop
  | 0, _ => False
  | m + 1, s => W E c (fun e s' => match e with | .normal => RoundsW E c Q m s' | e => Q e s') s
def rQ (E : En) (c : Code) (Q : Exit → St → Prop) (m : Nat) : Exit → St → Prop
  | .normal, s => RoundsW E c Q m s
  | e, s => Q e s
theorem rw_next {E : En} {c : Code} {Q : Exit → St → Prop} {m : Nat} {s : St} (h : W E c (rQ E c Q m) s) : RoundsW E c Q (m + 1) s := fun L g a w hi => wpV_mono (h L g a w hi) fun e a' w' hq => by
  obtain ⟨g', s', h1, h2⟩ := hq
  refine ⟨g', s', ?_, h2⟩
  cases e <;> exact h1
theorem W_rounds {E : En} {c : Code} {Q : Exit → St → Prop} {s : St} (m : Nat) (h : W E c (rQ E c Q m) s) : W E (.loop c) Q s := by
  intro L g a w hi b k cs hb hc
  have key : ∀ (m : Nat) (s : St) (g : Gh) (a : Act) (w : CW), RoundsW E c Q m s → Inv E g s a w → L.ok w.V (G (b.at a (.code c :: .inLoop c :: k)) cs) w.w := by
    intro m
    induction m with
    | zero => intro s g a w h _; exact h.elim
    | succ m ih =>
      intro s g a w h hi
      refine h L g a w hi b (.inLoop c :: k) cs hb fun e a' w' hq => ?_
      obtain ⟨g', s', h1, h2⟩ := hq
      cases e with
      | normal => exact L.silent rfl (fun _ => stepG_inLoop) (ih s' g' a' w' h1 h2)
      | exit id => exact (hc _ _ _ ⟨g', s', h1, h2⟩).push rfl (by simp)
      | ret => exact (hc _ _ _ ⟨g', s', h1, h2⟩).push (i := .inLoop c) rfl (by simp)
      | goto l => exact hc _ _ _ ⟨g', s', h1, h2⟩
      | panic ch => exact hc _ _ _ ⟨g', s', h1, h2⟩
      | outgrown => exact hc _ _ _ ⟨g', s', h1, h2⟩
  exact L.silent rfl (fun _ => stepG_loop) (key (m + 1) s g a w (rw_next h) hi)
end Go.Eng

namespace Go.Eng
open Go

def inL : List Nat → Nat → Bool
  | [], _ => false
  | k :: r, i => bif Nat.beq k i then true else inL r i
/-- What an operation may look at: nothing if it may come behind the store. -/
def pickB (ls : List Nat) (i : Nat) (bl : List (Nat × List AV)) : List (Nat × List AV) := bif inL ls i then [] else bl
/-- The head in the order of the text: operations that only read and reckon. -/
def HS (E : En) (ops : Array Oper) (bl : List (Nat × List AV)) (ls : List Nat) : Nat → List Oper → St → (St → Prop) → Prop
  | _, [], s, K => K s
  | k, o :: rest, s, K =>
    (∃ v, QV E (pickB ls k bl) s.tm o v [] [] ∧ dstB E.nt o = true ∧
      (o.guard = none ∨ ∃ j d b, o.guard = some (j, b) ∧ (ops[j]?).bind (·.dst) = some d ∧ look s.tm d = .v (.bool b)) ∧ HS E ops bl ls (k + 1) rest (s.app o.dst v [] []) K) ∨
    (∃ j d b, o.guard = some (j, !b) ∧ (ops[j]?).bind (·.dst) = some d ∧ look s.tm d = .v (.bool b) ∧ dstB E.nt o = true ∧ HS E ops bl ls (k + 1) rest (s.app o.dst (.v undef) [] []) K)
/-- The store: from blocks that read as bl to ones that read as bl1. -/
def SV (E : En) (tm : List (Nat × AV)) (bl : List (Nat × List AV)) (o : Oper) (bl1 : List (Nat × List AV)) : Prop :=
  o.dst = none ∧ o.guard = none ∧ ∀ (L : Lg E.P) (g : Gh) (ρ : Operand → Value) (ow : List Nat) (x : CW), MemV E g bl ow x → (∀ y ∈ o.op.operands, rep g x.w (ev tm y) (ρ y)) →
    OpV L o ρ x fun _ x' => ∃ g', Goes g x.w g' x'.w ∧ MemV E g' bl1 ow x'
structure StepS (E : En) (ops : Array Oper) (bl : List (Nat × List AV)) (s : St) (o : Oper) (t : Tr) : Prop where
  d : t.d = o.dst
  dst : dstB E.nt o = true
  nb : t.nb = []
  no : t.no = []
  run : (QV E bl s.tm o t.v [] [] ∧ (o.guard = none ∨ ∃ j d b, o.guard = some (j, b) ∧ (ops[j]?).bind (·.dst) = some d ∧ look s.tm d = .v (.bool b))) ∨
    (t.v = .v undef ∧ ∃ j d b, o.guard = some (j, !b) ∧ (ops[j]?).bind (·.dst) = some d ∧ look s.tm d = .v (.bool b))
theorem HS_trace {E : En} {ops : Array Oper} {bl : List (Nat × List AV)} {ls : List Nat} {K : St → Prop} : ∀ (l : List Oper) (k : Nat) (s : St), HS E ops bl ls k l s K →
    ∃ T : List Tr, T.length = l.length ∧ K (stS (fun _ => true) T 0 s) ∧ (∀ t ∈ T, t.nb = [] ∧ t.no = []) ∧
      (∀ i o t, l[i]? = some o → T[i]? = some t → StepS E ops (pickB ls (k + i) bl) (stS (fun j => decide (j < i)) T 0 s) o t)
  | [], k, s, h => ⟨[], rfl, h, fun t ht => by simp at ht, fun i o t hi => by simp at hi⟩
  | o :: rest, k, s, h => by
    have shift : ∀ (L : Nat → Bool) (T : List Tr) (i : Nat) (s : St), stS L T (i + 1) s = stS (fun j => L (j + 1)) T i s := by
      intro L T
      induction T with
      | nil => intro i s; rfl
      | cons t T ih => intro i s; simp only [stS]; exact ih (i + 1) _
    have zero : ∀ (T : List Tr) (i : Nat) (s : St), stS (fun _ => false) T i s = s := by
      intro T
      induction T with
      | nil => intro i s; rfl
      | cons t T ih => intro i s; simp only [stS, cond_false]; exact ih _ s
    have go : ∀ (t : Tr), StepS E ops (pickB ls k bl) s o t → HS E ops bl ls (k + 1) rest (s.app t.d t.v [] []) K →
        ∃ T : List Tr, T.length = (o :: rest).length ∧ K (stS (fun _ => true) T 0 s) ∧ (∀ t ∈ T, t.nb = [] ∧ t.no = []) ∧
      (∀ i o' t, (o :: rest)[i]? = some o' → T[i]? = some t → StepS E ops (pickB ls (k + i) bl) (stS (fun j => decide (j < i)) T 0 s) o' t) := by
      intro t hs hk
      obtain ⟨T, h1, h2, h0, h3⟩ := HS_trace rest (k + 1) _ hk
      refine ⟨t :: T, by simp [h1], ?_, ?_, fun i o' t' hi ht => ?_⟩
      · simp only [stS, cond_true]; rw [shift, hs.nb, hs.no]; exact h2
      · intro t' ht'
        rcases List.mem_cons.1 ht' with rfl | ht'
        · exact ⟨hs.nb, hs.no⟩
        · exact h0 t' ht'
      · cases i with
        | zero =>
          simp only [List.getElem?_cons_zero, Option.some.injEq] at hi ht
          subst hi; subst ht
          have e : stS (fun j => decide (j < 0)) (t :: T) 0 s = s := by
            simp only [stS, Nat.not_lt_zero, decide_false, cond_false]; exact zero _ _ _
          rw [e]; exact hs
        | succ i =>
          have := h3 i o' t' (by simpa using hi) (by simpa using ht)
          simp only [stS, Nat.zero_lt_succ, decide_true, cond_true]
          rw [shift, hs.nb, hs.no, show k + (i + 1) = k + 1 + i by omega]
          simpa [Nat.add_lt_add_iff_right] using this
    rcases h with ⟨v, h1, h2, h4, h5⟩ | ⟨j, d, b, h1, h2, h3, h4, h5⟩
    · exact go ⟨o.dst, v, [], []⟩ ⟨rfl, h2, rfl, rfl, .inl ⟨h1, h4⟩⟩ h5
    · exact go ⟨o.dst, .v undef, [], []⟩ ⟨rfl, h4, rfl, rfl, .inr ⟨rfl, j, d, b, h1, h2, h3⟩⟩ h5
theorem stS_bl {L : Nat → Bool} : ∀ (T : List Tr) (i : Nat) (s : St), (∀ t ∈ T, t.nb = [] ∧ t.no = []) → (stS L T i s).bl = s.bl ∧ (stS L T i s).ow = s.ow
  | [], _, s, _ => ⟨rfl, rfl⟩
  | t :: T, i, s, h => by
    simp only [stS]
    obtain ⟨h1, h2⟩ := stS_bl (L := L) T (i + 1) (bif L i then s.app t.d t.v t.nb t.no else s) fun t' ht' => h t' (by simp [ht'])
    obtain ⟨e1, e2⟩ := h t (by simp)
    rw [h1, h2]
    cases L i
    · exact ⟨rfl, rfl⟩
    · simp only [cond_true, St.app, e1, e2]; exact ⟨rfl, rfl⟩
section
variable {E : En} {ops : Array Oper} {bl0 : List (Nat × List AV)} {ls : List Nat} {k : Nat} {rest : List Oper} {K : St → Prop} {tm : List (Nat × AV)} {bl bl1 : List (Nat × List AV)} {ow : List Nat} {d : Nat} {op : Op} {ty : TypeId} {pos : String} {af : Array Edge} {gd : Option (Nat × Bool)} {v : AV} {Q : Exit → St → Prop}
theorem HS_nil {s : St} (h : K s) : HS E ops bl0 ls k [] s K := h
theorem hs0 (h : QV E (pickB ls k bl0) tm ⟨some d, op, ty, pos, af, gd⟩ v [] []) (hg : GY ops tm gd) (hd : Nat.blt d E.nt = true) (hk : HS E ops bl0 ls (k + 1) rest ⟨(d, v) :: tm, bl, ow⟩ K) : HS E ops bl0 ls k (⟨some d, op, ty, pos, af, gd⟩ :: rest) ⟨tm, bl, ow⟩ K := by
  refine .inl ⟨v, h, hd, ?_, hk⟩
  cases gd with
  | none => exact .inl rfl
  | some p => obtain ⟨j, b⟩ := p; obtain ⟨d', h1, h2⟩ := hg; exact .inr ⟨j, d', b, rfl, h1, h2⟩
theorem SV_store {t : Nat} {x y : Operand} {n o sz : Nat} {ag : Bool} {cs : List AV} [ht : TyOk E.P t ag sz] (hx : ev tm x = .ptr n o) (hy : ev tm y = v) (hb : lookB bl n = some cs) (hro : n ∉ E.ron)
    (hc : isC v = true) (hall : (acells v).all isCell = true) (hl : (acells v).length = sz) (hfit : o + sz ≤ cs.length) : SV E tm bl ⟨none, .store t x y, ty, pos, af, none⟩ (setB bl n (splice cs o (acells v))) := by
  refine ⟨rfl, rfl, fun L g ρ ow x0 hm hop w r0 => ?_⟩
  have hg0 := hm.goes r0
  replace hm := hm.rely r0
  have h1 := rep_goes hg0 (hop x (by simp [Op.operands]))
  have h2 := rep_goes hg0 (hop y (by simp [Op.operands]))
  rw [hx] at h1; rw [hy] at h2
  simp only [rep] at h1
  obtain ⟨b, h1, h1'⟩ := h1
  obtain ⟨b', arr, e1, e2, e3, e4⟩ := hm.mem.blk n cs (lookB_mem hb)
  have : b' = b := by rw [h1] at e1; exact (Option.some.inj e1).symm
  subst this
  have hcs := reps_cellsC h2 hc
  have hvl : (ρ y).cells.size = sz := by rw [cells_length h2 hc, hl]
  have hal := reps_length e3
  have hall' : ∀ u ∈ (ρ y).cells.toList, u.oneCell' = true := by
    have : ∀ (xs : List AV) (ys : List Value), reps g w xs ys → xs.all isCell = true → ∀ u ∈ ys, u.oneCell' = true := by
      intro xs
      induction xs with
      | nil => intro ys h _ u hu; simp only [reps] at h; subst h; simp at hu
      | cons x xs ih =>
        intro ys h ha u hu
        simp only [reps] at h
        obtain ⟨z, zs, rfl, k1, k2⟩ := h
        simp only [List.all_cons, Bool.and_eq_true] at ha
        rcases List.mem_cons.1 hu with rfl | hu
        · exact oneCell_of k1 ha.1
        · exact ih zs k2 ha.2 u hu
    exact this _ _ hcs hall
  have hst := run_storeCells_at E.P b' o (g.mt n) (ρ y).cells.toList 0 arr w e2 (by simp at hal ⊢; omega) hall'
  simp only [Nat.add_zero] at hst
  have hevs : ∀ e ∈ (execOp ρ ⟨none, .store t x y, ty, pos, af, none⟩).events E.P w #[], ∃ ad : Addr, e = ⟨.cell ad, true, false⟩ ∧ ad.block = b' := fun e he => by
    have hne : ¬ ((ρ y).cells.size ≠ sz) := by omega
    simp only [execOp, h1', Instr.storeAt, Instr.sureAddr, storeVar, Sem.events_bind, Sem.run_bind, Sem.run_pure, Sem.events_pure, Result.evThen_ok, Result.andThen_ok, ht.sz, events_sizeOf, if_neg hne, hst] at he
    exact (ev_storeCells b' o (g.mt n) (ρ y).cells.toList 0 arr w #[] e2 (by simp at hal ⊢; omega) hall' e he).resolve_left (by simp)
  have hrun : (execOp ρ ⟨none, .store t x y, ty, pos, af, none⟩).run E.P w = .ok .skip (w.setRow b' (arr.toList.take o ++ (ρ y).cells.toList ++ arr.toList.drop (o + (ρ y).cells.toList.length)).toArray) := by
    have hne : ¬ ((ρ y).cells.size ≠ sz) := by omega
    simp only [execOp, h1', Instr.storeAt, Instr.sureAddr, storeVar, Sem.run_bind, Sem.run_pure, Result.andThen_ok, ht.sz, if_neg hne, hst]
  have hrs := reps_splice (off := o) e3 hcs
  obtain ⟨k1, k2⟩ := hm.mem.setBlock (cs := splice cs o (acells v)) (arr := (arr.toList.take o ++ (ρ y).cells.toList ++ arr.toList.drop (o + (ρ y).cells.toList.length)).toArray) h1 hro e2 e4 (by simpa [List.append_assoc] using hrs)
  obtain ⟨q1, q2⟩ := hm.wrote ((hm.vis.m n b' h1).2 hro) e2 k2 hevs
  rw [hrun]
  exact ⟨q1, g, hg0.trans k1, q2⟩
end
/-- How many are done. -/
def scU : Nat → (Nat → Bool) → Nat
  | 0, _ => 0
  | m + 1, q => (bif q m then 1 else 0) + scU m q
theorem scU_le : ∀ (m : Nat) (q : Nat → Bool), scU m q ≤ m
  | 0, _ => Nat.le_refl _
  | m + 1, q => by
    have := scU_le m q
    simp only [scU]
    cases q m <;> simp <;> omega
theorem scU_congr {q r : Nat → Bool} : ∀ {m : Nat}, (∀ k, k < m → q k = r k) → scU m q = scU m r
  | 0, _ => rfl
  | m + 1, h => by
    simp only [scU]
    rw [h m (by omega), scU_congr fun k hk => h k (by omega)]
theorem scU_eq {q : Nat → Bool} {j : Nat} : ∀ {m : Nat}, j ≤ m → (∀ k, k < m → q k = decide (k < j)) → scU m q = j
  | 0, hj, _ => by simp [scU]; omega
  | m + 1, hj, h => by
    simp only [scU]
    rw [h m (by omega)]
    by_cases e : m < j
    · have e2 : j = m + 1 := by omega
      rw [scU_eq (j := m) (Nat.le_refl _) fun k hk => by rw [h k (by omega), decide_eq_true hk, decide_eq_true (by omega)]]
      rw [decide_eq_true e, e2]; simp; omega
    · rw [scU_eq (j := j) (by omega) fun k hk => h k (by omega), decide_eq_false e]; simp
def chainM (ops : Array Oper) (n m : Nat) : Bool :=
  let tab := depTab ops (n + m)
  (List.range m).all fun j => (List.range j).all fun k => (tab.getD (n + j) []).contains (n + k)

theorem W_drawM {E : En} {id : Nat} {l : List Oper} {Q : Exit → St → Prop} {s : St} (n m : Nat) (blc : List (Nat × List AV)) (bls : Nat → List (Nat × List AV)) (hm : E.P.follows .mixedOrders = true) (hB : headB l.toArray (n + m) = true) (hT : tailB l.toArray (n + m) = true) (hC : chainM l.toArray n m = true) (h0 : bls 0 = s.bl) (hc0 : ∀ j, j ≤ m → ∀ p ∈ blc, p ∈ bls j)
    (h : HS E l.toArray blc [] 0 (l.take n) s (fun s' => (∀ j, j < m → ∃ o, l[n + j]? = some o ∧ SV E s'.tm (bls j) o (bls (j + 1))) ∧ WL E l.toArray (l.drop (n + m)) Q ⟨s'.tm, bls m, s'.ow⟩)) : W E (.region id l.toArray true) Q s := by
  intro L g0 a0 w00 hi0
  obtain ⟨T, hTl, hK, hT0, hstep⟩ := HS_trace _ _ _ h
  obtain ⟨hstores, hrest⟩ := hK
  obtain ⟨hn, hback, hord⟩ := headB_spec hB
  have hn' : n + m ≤ l.length := by simpa using hn
  have hTn : T.length = n := by rw [hTl]; simp; omega
  simp only [tailB, Bool.and_eq_true] at hT
  obtain ⟨hT1, hT2⟩ := hT
  have hopt : ∀ i, i < n → ∃ o t, l.toArray[i]? = some o ∧ (l.take n)[i]? = some o ∧ T[i]? = some t := fun i hi => by
    have h1 : i < l.length := by omega
    refine ⟨l[i], T[i]'(by omega), by simp [h1], by simp [hi, h1], by simp [hTn, hi]⟩
  let Lf : Array Bool → Nat → Bool := fun listed i => listed.getD i false
  have tailNot : ∀ listed, HeadInv .any l.toArray (n + m) listed → 0 < cnt (n + m) (Lf listed) → ∀ i ∈ Region.ready .any l.toArray listed, i < n + m := by
    intro listed inv hc i hi
    rcases Nat.lt_or_ge i (n + m) with h1 | h1
    · exact h1
    · exfalso
      have hlt : i < l.toArray.size := by
        obtain ⟨_, o, ho, _⟩ := mem_ready.1 hi
        exact (Array.getElem?_eq_some_iff.1 ho).1
      have hns : n + m < l.toArray.size := by omega
      have hb : Nat.blt (n + m) l.toArray.size = true := Nat.ble_eq_true_of_le hns
      rw [hb] at hT1
      simp only [cond_true, Bool.and_eq_true] at hT1
      obtain ⟨k, hk1, hk2, _⟩ := cnt_pos hc
      have hk3 : listed.getD k true = false := getD_in (by rw [inv.size]; omega) hk2
      exact tail_waits hT1.1 hT1.2 hns inv _ k rfl hk1 hk3 i h1 hi
  have progress : ∀ listed, HeadInv .any l.toArray (n + m) listed → 0 < cnt (n + m) (Lf listed) → Region.ready .any l.toArray listed ≠ [] := by
    intro listed inv hc he
    obtain ⟨k, hk1, hk2, hk3⟩ := cnt_pos hc
    have : k ∈ Region.ready .any l.toArray listed := by
      have hkl : k < l.toArray.size := by omega
      exact mem_ready.2 ⟨getD_in (by rw [inv.size]; omega) hk2, l.toArray[k], by simp, fun e he hb => hk3 _ (hback k l.toArray[k] hk1 (by simp) e he hb)⟩
    rw [he] at this
    cases this
  have hTd : ∀ j tr, T[j]? = some tr → j < n ∧ ∃ oj, l.toArray[j]? = some oj ∧ tr.d = oj.dst := fun j tr hj => by
    have hjn : j < n := by rw [← hTn]; exact (List.getElem?_eq_some_iff.1 hj).1
    obtain ⟨oj, t', h1, h2, h3⟩ := hopt j hjn
    exact ⟨hjn, oj, h1, (hstep j oj tr h2 hj).d⟩
  have main : ∀ (f : Nat) (listed : Array Bool) (g : Gh) (a : Act) (w : CW), cnt (n + m) (Lf listed) = f → HeadInv .any l.toArray (n + m) listed → Inv E g ⟨(stS (Lf listed) T 0 s).tm, bls (scU m fun j => Lf listed (n + j)), s.ow⟩ a w → wpAnyV L .any l.toArray (post E Q) (f + (l.toArray.size - (n + m))) listed a w := by
    intro f
    induction f with
    | zero =>
      intro listed g a w hc inv hinv
      have hall := cnt_zero hc
      have hst : stS (Lf listed) T 0 s = stS (fun _ => true) T 0 s := by
        have : ∀ (T : List Tr) (i : Nat) (s : St), (∀ j, j < T.length → Lf listed (i + j) = true) → stS (Lf listed) T i s = stS (fun _ => true) T i s := by
          intro T
          induction T with
          | nil => intro i s _; rfl
          | cons t T ih =>
            intro i s hL
            simp only [stS]
            rw [show Lf listed i = true by simpa using hL 0 (by simp)]
            exact ih (i + 1) _ fun j hj => by have := hL (j + 1) (by simp; omega); rwa [show i + (j + 1) = i + 1 + j by omega] at this
        exact this T 0 s fun j hj => by rw [Nat.zero_add]; exact hall j (by omega)
      rw [hst, scU_eq (j := m) (Nat.le_refl _) fun k hk => by rw [hall (n + k) (by omega), decide_eq_true hk]] at hinv
      have how := (stS_bl (L := fun _ => true) T 0 s hT0).2
      rw [← how] at hinv
      have hli : listed = ((List.range l.toArray.size).map fun i => Nat.blt i (n + m)).toArray := by
        apply Array.ext
        · simp [inv.size]
        · intro i h1 h2
          have h3 : i < l.toArray.size := by rw [← inv.size]; exact h1
          simp only [List.getElem_toArray, List.getElem_map, List.getElem_range]
          rcases Nat.lt_or_ge i (n + m) with h4 | h4
          · have h5 := hall i h4
            simp only [Lf, Array.getD_eq_getD_getElem?, Array.getElem?_eq_getElem h1, Option.getD_some] at h5
            rw [h5]
            exact (Nat.ble_eq_true_of_le h4).symm
          · have h5 := inv.tail i h4 h3
            simp only [Array.getD_eq_getD_getElem?, Array.getElem?_eq_getElem h1, Option.getD_some] at h5
            rw [h5]
            cases h6 : Nat.blt i (n + m)
            · rfl
            · have := Nat.le_of_ble_eq_true h6; omega
      have hdl : (l.drop (n + m)).length = l.toArray.size - (n + m) := by simp
      have := wpAnyV_of_seq (L := L) (md := .any) (Q' := post E Q) (l.drop (n + m)) (n + m) listed a w (fun j => by simp [List.getElem?_drop]) (by rw [hdl, hli]; exact hT2) (hrest L g a w hinv)
      rw [hdl] at this
      rw [Nat.zero_add]; exact this
    | succ f ih =>
      intro listed g a w hc inv hinv
      rw [show f + 1 + (l.toArray.size - (n + m)) = (f + (l.toArray.size - (n + m))) + 1 by omega]
      have hpos : 0 < cnt (n + m) (Lf listed) := by omega
      refine ⟨fun he => absurd he (progress listed inv hpos), fun i hi => ?_⟩
      have hin1 := tailNot listed inv hpos i hi
      obtain ⟨hun, o2, ho, hdeps⟩ := mem_ready.1 hi
      have hLi : Lf listed i = false := getD_both hun
      have closed : ∀ k ok, l.toArray[k]? = some ok → Lf listed k = true → ∀ e ∈ ok.after, Region.binds .any e = true → Lf listed e.on = true := fun k ok hk hl e he hb => inv.closed k ok hk hl e he hb
      have depI : ∀ j ∈ (depTab l.toArray (n + m)).getD i [], Lf listed j = true := depTab_closed closed (n + m) i fun o' ho' e he hb => by
        have : o' = o2 := Option.some.inj (ho'.symm.trans ho)
        subst this
        exact hdeps e he hb
      have depJ : ∀ j, i ∈ (depTab l.toArray (n + m)).getD j [] → Lf listed j = false := fun j hj => by
        cases hLj : Lf listed j
        · rfl
        · have := depTab_closed closed (n + m) j (fun o' ho' => closed j o' ho' hLj) i hj
          rw [hLi] at this; cases this
      have hLset : ∀ j, Lf (listed.setIfInBounds i true) j = (decide (j = i) || Lf listed j) := fun j => by
        by_cases e : j = i
        · subst e
          have hlt : j < listed.size := by rw [inv.size]; exact (Array.getElem?_eq_some_iff.1 ho).1
          simp [Lf, hlt]
        · simp only [e, decide_false, Bool.false_or, Lf]
          exact getD_set_ne false (Ne.symm e)
      have hcnt : cnt (n + m) (Lf (listed.setIfInBounds i true)) = f := by
        have := cnt_set (L := Lf listed) (L' := Lf (listed.setIfInBounds i true)) (i := i) hLi (by rw [hLset]; simp) (fun j hj => by rw [hLset]; simp [hj]) (n + m)
        rw [if_pos hin1] at this
        omega
      unfold wpOpV
      simp only [ho]
      by_cases hS : n ≤ i
      · -- a store
        obtain ⟨jS, rfl⟩ : ∃ jS, i = n + jS := ⟨i - n, by omega⟩
        have hjS : jS < m := by omega
        obtain ⟨oS, hoS, hSd, hSg, hSV⟩ := hstores jS hjS
        have : o2 = oS := by
          have h1 : l.toArray[n + jS]? = some oS := by simpa using hoS
          exact Option.some.inj (ho.symm.trans h1)
        subst this
        have chain : ∀ k k', k < k' → k' < m → n + k ∈ (depTab l.toArray (n + m)).getD (n + k') [] := fun k k' h1 h2 => by
          have := List.all_eq_true.1 (List.all_eq_true.1 hC k' (List.mem_range.2 h2)) k (List.mem_range.2 h1)
          simpa using this
        have sc0 : scU m (fun j => Lf listed (n + j)) = jS := scU_eq (by omega) fun k hk => by
          rcases Nat.lt_trichotomy k jS with h1 | h1 | h1
          · rw [depI (n + k) (chain k jS h1 hjS), decide_eq_true h1]
          · subst h1; rw [hLi]; simp
          · rw [depJ (n + k) (chain jS k h1 hk), decide_eq_false (by omega)]
        have sc1 : scU m (fun j => Lf (listed.setIfInBounds (n + jS) true) (n + j)) = jS + 1 := scU_eq (by omega) fun k hk => by
          show Lf (listed.setIfInBounds (n + jS) true) (n + k) = _
          rw [hLset]
          rcases Nat.lt_trichotomy k jS with h1 | h1 | h1
          · rw [depI (n + k) (chain k jS h1 hjS), decide_eq_true (show k < jS + 1 by omega)]; simp
          · subst h1; simp
          · rw [depJ (n + k) (chain jS k h1 hk), decide_eq_false (show ¬ k < jS + 1 by omega), decide_eq_false (show ¬ n + k = n + jS by omega)]; rfl
        rw [sc0] at hinv
        rw [show Region.wanted o2 (yielded l.toArray a.tmps) = true by simp [Region.wanted, hSg]]
        rw [if_pos rfl]
        have sameLook : ∀ u, u ∈ o2.looksAt l.toArray → look (stS (Lf listed) T 0 s).tm u = look (stS (fun _ => true) T 0 s).tm u := fun u hu =>
          look_stS T 0 s s rfl fun j tr hj hdu => by
            rw [Nat.zero_add]
            obtain ⟨hjn, oj, hoj, hjd⟩ := hTd j tr hj
            exact depI j ((hord (n + jS) o2 j oj u (by omega) (by omega) (by omega) ho hoj (hjd ▸ hdu) (.inl hu)).1 (by omega))
        refine OpV.mono (hSV L g a.eval s.ow w hinv.mem fun x hx => ?_) fun y w' hKy => ?_
        · have := rep_ev hinv.tm x
          rwa [ev_same (tm' := (stS (fun _ => true) T 0 s).tm) fun u hu => by subst hu; exact sameLook u (looksAt_op hx)] at this
        · obtain ⟨g', h1, h2⟩ := hKy
          have hi2 : Inv E g' ⟨(stS (Lf listed) T 0 s).tm, bls (jS + 1), s.ow⟩ a w' := ⟨h2, fun t => rep_goes h1 (hinv.tm t), hinv.de, hinv.sz⟩
          have htm : stS (Lf (listed.setIfInBounds (n + jS) true)) T 0 s = stS (Lf listed) T 0 s := by
            have : ∀ (T : List Tr) (k : Nat) (s : St), (∀ j, j < T.length → Lf (listed.setIfInBounds (n + jS) true) (k + j) = Lf listed (k + j)) → stS (Lf (listed.setIfInBounds (n + jS) true)) T k s = stS (Lf listed) T k s := by
              intro T
              induction T with
              | nil => intro k s _; rfl
              | cons t T ih =>
                intro k s hL
                simp only [stS]
                rw [show Lf (listed.setIfInBounds (n + jS) true) k = Lf listed k by simpa using hL 0 (by simp)]
                exact ih (k + 1) _ fun j hj => by have := hL (j + 1) (by simp; omega); rwa [show k + (j + 1) = k + 1 + j by omega] at this
            exact this T 0 s fun j hj => by
              rw [Nat.zero_add, hLset, decide_eq_false (by omega), Bool.false_or]
          have := ih (listed.setIfInBounds (n + jS) true) g' a w' hcnt (inv.set hi hin1) (by
            rw [htm, sc1]; exact hi2)
          rw [hSd]; exact this
      · have hin : i < n := by omega
        obtain ⟨o3, t, ho3, ho', ht⟩ := hopt i hin
        have : o3 = o2 := Option.some.inj (ho3.symm.trans ho)
        subst this
        obtain ⟨hd, hdst, hnb, hno, hrun⟩ := hstep i o3 t ho' ht
        have sameLook : ∀ u, u ∈ o3.looksAt l.toArray → look (stS (Lf listed) T 0 s).tm u = look (stS (fun j => decide (j < i)) T 0 s).tm u := fun u hu =>
          look_stS T 0 s s rfl fun j tr hj hdu => by
            rw [Nat.zero_add]
            obtain ⟨hjn, oj, hoj, hjd⟩ := hTd j tr hj
            rcases Nat.lt_trichotomy j i with h1 | h1 | h1
            · rw [decide_eq_true h1]
              exact depI j ((hord i o3 j oj u hin1 (by omega) (by omega) ho hoj (hjd ▸ hdu) (.inl hu)).1 h1)
            · subst h1; rw [hLi]; simp
            · rw [decide_eq_false (by omega)]
              exact depJ j ((hord i o3 j oj u hin1 (by omega) (by omega) ho hoj (hjd ▸ hdu) (.inl hu)).2 h1)
        have hdst' : ∀ k, t.d = some k → k < E.nt := fun k hk => dstB_spec hdst k (hd ▸ hk)
        have hLn : scU m (fun j => Lf (listed.setIfInBounds i true) (n + j)) = scU m (fun j => Lf listed (n + j)) := scU_congr fun k hk => by
          show Lf (listed.setIfInBounds i true) (n + k) = _
          rw [hLset, decide_eq_false (by omega), Bool.false_or]
        have next : ∀ (g' : Gh) (a' : Act) (w' : CW), Inv E g' ⟨((stS (Lf listed) T 0 s).app t.d t.v [] []).tm, bls (scU m fun j => Lf listed (n + j)), s.ow⟩ a' w' → wpAnyV L .any l.toArray (post E Q) (f + (l.toArray.size - (n + m))) (listed.setIfInBounds i true) a' w' := by
          intro g' a' w' hinv'
          refine ih _ g' a' w' hcnt (inv.set hi hin1) ⟨by rw [hLn]; exact hinv'.mem, fun u => ?_, hinv'.de, hinv'.sz⟩
          have hu := hinv'.tm u
          have heq : look (stS (Lf (listed.setIfInBounds i true)) T 0 s).tm u = look ((stS (Lf listed) T 0 s).app t.d t.v [] []).tm u := by
            by_cases hdu : t.d = some u
            · have h1 : look ((stS (Lf listed) T 0 s).app t.d t.v [] []).tm u = t.v := by simp [St.app, hdu, look]
              rw [h1]
              refine look_last T 0 i s t ht hdu rfl (by rw [Nat.zero_add, hLset]; simp) fun j tr hj hij hdj => ?_
              rw [Nat.zero_add, hLset]
              obtain ⟨hjn, oj, hoj, hjd⟩ := hTd j tr hj
              have := depJ j ((hord i o3 j oj u hin1 (by omega) (by omega) ho hoj (hjd ▸ hdj) (.inr (hd ▸ hdu))).2 hij)
              rw [this]
              simp; omega
            · have h1 : look ((stS (Lf listed) T 0 s).app t.d t.v [] []).tm u = look (stS (Lf listed) T 0 s).tm u := by
                simp only [St.app]
                cases hdd : t.d with
                | none => rfl
                | some k =>
                  have : k ≠ u := fun e => hdu (by rw [hdd, e])
                  simp only [look]
                  cases hb : Nat.beq k u
                  · rfl
                  · exact absurd (Nat.eq_of_beq_eq_true hb) this
              rw [h1]
              refine look_stS T 0 s s rfl fun j tr hj hdj => ?_
              rw [Nat.zero_add, hLset]
              have : j ≠ i := fun e => by subst e; rw [ht] at hj; cases hj; exact hdu hdj
              simp [this]
          rw [heq]; exact hu
        have hguard : ∀ {j d b}, o3.guard = some (j, b) → (l.toArray[j]?).bind (·.dst) = some d → ∀ c, look (stS (fun j => decide (j < i)) T 0 s).tm d = .v (.bool c) → yielded l.toArray a.tmps j = some c := fun {j d b} hg hj c hc' => by
          have h1 := hinv.tm d
          simp only at h1
          rw [sameLook d (looksAt_guard hg hj), hc'] at h1
          simp only [rep] at h1
          exact yielded_of hj h1
        have operandsOk : ∀ x ∈ o3.op.operands, rep g w.w (ev (stS (fun j => decide (j < i)) T 0 s).tm x) (a.eval x) := fun x hx => by
          have := rep_ev hinv.tm x
          rwa [ev_same (tm' := (stS (fun j => decide (j < i)) T 0 s).tm) fun u hu => by subst hu; exact sameLook u (looksAt_op hx)] at this
        rcases hrun with ⟨hq, hg⟩ | ⟨hv, j, dd, b, hg, hj, hb⟩
        · have hw : Region.wanted o3 (yielded l.toArray a.tmps) = true := by
            rcases hg with hg | ⟨j, dd, b, hg, hj, hb⟩
            · simp [Region.wanted, hg]
            · simp [Region.wanted, hg, hguard hg hj b hb]
          rw [hw]
          rw [if_pos rfl]
          have hsub : ∀ p ∈ pickB [] (0 + i) blc, p ∈ (bls (scU m fun j => Lf listed (n + j))) := fun p hp => hc0 _ (scU_le _ _) p (by simpa [pickB, inL] using hp)
          refine OpV.mono (hq L g a.eval (bls (scU m fun j => Lf listed (n + j))) s.ow w hinv.mem hsub (fun p hp => by simp at hp) (fun k hk => by simp at hk) operandsOk) fun y w' hKy => ?_
          obtain ⟨g', h1, h2, h3⟩ := hKy
          have := hinv.app (d := t.d) (nb := []) (no := []) hdst' h1 h2 h3
          rw [hd] at this
          exact next g' _ w' (by rw [hd]; exact this)
        · have hw : Region.wanted o3 (yielded l.toArray a.tmps) = false := by
            simp [Region.wanted, hg, hguard hg hj b hb]
          rw [hw]
          have := hinv.app (d := t.d) (v := t.v) (y := undef) (nb := []) (no := []) hdst' (Goes.refl g _) hinv.mem (by rw [hv]; simp [rep])
          rw [hd] at this
          exact next g _ w (by rw [hd]; exact this)
  refine wpV_region_any hm fun w₁ rw₁ => ?_
  have inv0 : HeadInv .any l.toArray (n + m) (Array.replicate l.toArray.size false) :=
    ⟨by simp, fun j oj _ hl => (by rw [getD_replicate_false] at hl; cases hl), fun t _ ht => getD_in (by simpa using ht) (getD_replicate_false _ _)⟩
  have hL0 : Lf (Array.replicate l.toArray.size false) = fun _ => false := by funext i; exact getD_replicate_false _ _
  have := main (n + m) (Array.replicate l.toArray.size false) g0 a0 ⟨w00.V, { w₁ with drawn := w₁.drawn + 1 }⟩ (by rw [hL0]; exact cnt_false (n + m)) inv0 ?_
  · rwa [show n + m + (l.toArray.size - (n + m)) = l.toArray.size by omega] at this
  · rw [hL0]
    have zero : ∀ (T : List Tr) (i : Nat) (s : St), stS (fun _ => false) T i s = s := by
      intro T
      induction T with
      | nil => intro i s; rfl
      | cons t T ih => intro i s; simp only [stS, cond_false]; exact ih _ s
    rw [zero, scU_eq (j := 0) (Nat.zero_le _) (fun k hk => by simp), h0]
    exact (hi0.rely rw₁).drew
/-- Four stores at the end. -/
theorem wdraw4 {E : En} {id : Nat} {l hd tl : List Oper} {o0 o1 o2 o3 : Oper} {Q : Exit → St → Prop} {tm : List (Nat × AV)} {bl : List (Nat × List AV)} {ow : List Nat} (n : Nat) (blc b1 b2 b3 b4 : List (Nat × List AV)) (hm : E.P.follows .mixedOrders = true) (hB : headB l.toArray (n + 4) = true) (hT : tailB l.toArray (n + 4) = true) (hC : chainM l.toArray n 4 = true) (hs : splitO n l = some (hd, o0 :: o1 :: o2 :: o3 :: tl))
    (hc : ∀ p ∈ blc, p ∈ bl ∧ p ∈ b1 ∧ p ∈ b2 ∧ p ∈ b3 ∧ p ∈ b4)
    (h : HS E l.toArray blc [] 0 hd ⟨tm, bl, ow⟩ (fun s' => SV E s'.tm bl o0 b1 ∧ SV E s'.tm b1 o1 b2 ∧ SV E s'.tm b2 o2 b3 ∧ SV E s'.tm b3 o3 b4 ∧ WL E l.toArray tl Q ⟨s'.tm, b4, s'.ow⟩)) : W E (.region id l.toArray true) Q ⟨tm, bl, ow⟩ := by
  obtain ⟨h1, h2⟩ := splitO_eq hs
  have hd4 : l.drop (n + 4) = tl := by
    have : (l.drop n).drop 4 = tl := by rw [h2]; rfl
    simpa [List.drop_drop] using this
  have hj : ∀ j, l[n + j]? = (o0 :: o1 :: o2 :: o3 :: tl)[j]? := fun j => by rw [← h2, List.getElem?_drop]
  refine W_drawM n 4 blc (fun j => match j with | 0 => bl | 1 => b1 | 2 => b2 | 3 => b3 | _ => b4) hm hB hT hC rfl (fun j hj p hp => ?_) ?_
  · obtain ⟨k0, k1, k2, k3, k4⟩ := hc p hp
    match j, hj with
    | 0, _ => exact k0
    | 1, _ => exact k1
    | 2, _ => exact k2
    | 3, _ => exact k3
    | 4, _ => exact k4
  · rw [h1]
    have mono : ∀ (hd : List Oper) (k : Nat) (s : St) (K K' : St → Prop), (∀ s, K s → K' s) → HS E l.toArray blc [] k hd s K → HS E l.toArray blc [] k hd s K' := by
      intro hd
      induction hd with
      | nil => intro k s K K' hK h; exact hK _ h
      | cons o hd ih =>
        intro k s K K' hK h
        rcases h with ⟨v, h1, h2, h4, h5⟩ | ⟨j, d, b, h1, h2, h3, h4, h5⟩
        · exact .inl ⟨v, h1, h2, h4, ih _ _ _ _ hK h5⟩
        · exact .inr ⟨j, d, b, h1, h2, h3, h4, ih _ _ _ _ hK h5⟩
    refine mono _ _ _ _ _ (fun s' ⟨s0, s1, s2, s3, hw⟩ => ⟨fun j hjm => ?_, by rw [hd4]; exact hw⟩) h
    match j, hjm with
    | 0, _ => exact ⟨o0, hj 0, s0⟩
    | 1, _ => exact ⟨o1, hj 1, s1⟩
    | 2, _ => exact ⟨o2, hj 2, s2⟩
    | 3, _ => exact ⟨o3, hj 3, s3⟩
theorem svst {E : En} {tm : List (Nat × AV)} {ty : TypeId} {pos : String} {af : Array Edge} {v : AV} {x y : Operand} {t nn o sz : Nat} {ag : Bool} {cs ds r : List AV} {bl bl' : List (Nat × List AV)} [ht : TyOk E.P t ag sz] (hx : ev tm x = .ptr nn o) (hy : evO tm y = some v) (hb : lookB bl nn = some cs) (hro : nn ∉ E.ron)
    (hc : isC v = true) (ha : acellsO v = some ds) (hall : ds.all isCell = true) (hl : Nat.beq ds.length sz = true) (hp : putO cs o ds = some r) (hs : setBO bl nn r = some bl') : SV E tm bl ⟨none, .store t x y, ty, pos, af, none⟩ bl' := by
  obtain ⟨h1, h2⟩ := putO_eq hp
  have e := acellsO_eq ha
  have e2 := Nat.eq_of_beq_eq_true hl
  have := SV_store (ty := ty) (pos := pos) (af := af) (t := t) (x := x) (y := y) hx (evO_ev hy) hb hro hc (by rw [e]; exact hall) (by rw [e]; exact e2) (by omega)
  rw [e, h2, setBO_eq hs] at this
  exact this
end Go.Eng

namespace Go.Eng
open Go Go.Conc Go.ConcN Go.RowKit Go.Conc.Lib Go.ConcR.Gen Go.ConcN.Gen
open Go.ConcR (KK wgBlock WgAt stA smA rd wr DC0 Bk g_of_ofEvents bk_of_mute ofEvent_loc_mark)

/-- What the starter knows of the world: what it sees stands; the group is there. -/
def RLw (vis : Nat → Prop) (ty : TypeId) (Wg : Nat) (w w₁ : World) : Prop := RelyB vis w w₁ ∧ (WgLive ty Wg w → WgLive ty Wg w₁)
def KW (vis : Nat → Prop) (ty : TypeId) (Wg : Nat) (w0 w : World) : Prop := RelyB vis w0 w ∧ WgLive ty Wg w
theorem KW.set {vis : Nat → Prop} {ty : TypeId} {Wg : Nat} {w0 w w₁ : World} (h : KW vis ty Wg w0 w) (hn : ¬ vis Wg) (ha : Aside Wg w w₁) (hl : WgLive ty Wg w₁) : KW vis ty Wg w0 w₁ :=
  ⟨h.1.trans ⟨ha.os, ha.tape, ha.output, by rw [ha.size]; exact Nat.le_refl _, fun b hb => ha.block b fun e => hn (e ▸ hb)⟩, hl⟩
section
variable {P : Program} {F : Machine → Trace → Prop} {hF : Back P F} {d : CDat} {j : Nat} {tag : Tag} {V : Rig}
/-- Idle steps. -/
theorem f_goes (hV : V.ext = .crew d j tag) : ∀ (n : Nat) {g : Goroutine} {w : World}, Goes P true (RLw V.vis d.ty d.Wg) DC0 (LF P F hF |>.ok V) n g w → (LF P F hF).ok V g w
  | 0, g, w, h => h w ⟨.refl _ _, id⟩
  | n + 1, g, w, h => by
    rcases h with h | ⟨hs, h⟩
    · exact h w ⟨.refl _ _, id⟩
    · refine (LF P F hF).step hs fun w₁ r => ?_
      have hr : RLw V.vis d.ty d.Wg w w₁ := ⟨r.toRelyB, by have := r.ext; rw [hV] at this; exact this⟩
      have h1 := h w₁ hr
      show ∃ g' w' es, stepG P true g w₁ = .go g' w' es ∧ _
      cases hgo : stepG P true g w₁ with
      | go g' w' es =>
        rw [hgo, goes_go] at h1
        obtain ⟨⟨rfl, rfl⟩, hk⟩ := h1
        exact ⟨g', _, _, rfl, Guar.idle V _, by rw [Rig.grow_self]; exact f_goes hV n hk⟩
      | _ => rw [hgo] at h1; exact h1.elim
end
theorem zr {vis : Nat → Prop} {ty : TypeId} {Wg : Nat} {w0 w w₁ : World} (h : KW vis ty Wg w0 w) (r : RLw vis ty Wg w w₁) : KW vis ty Wg w0 w₁ := ⟨h.1.trans r.1, r.2 h.2⟩
macro "z_cnd " t:term:max hF:ident : tactic => `(tactic| (u_in zr $hF; rw [stepG_cond (t := $t) (by first | rfl | (simp [Act.eval]; omega))]; simp only [goes_go, if_true, if_false, Bool.false_eq_true, ↓reduceIte]; refine ⟨by u_nil, ?_⟩))
set_option hygiene false in
macro "z_one " hF:ident : tactic => `(tactic| first
  | u_c stepG_region_end zr $hF
  | u_c stepG_seq zr $hF
  | u_reg zr $hF
  | u_c stepG_skip zr $hF
  | u_c stepG_ret' zr $hF
  | u_c stepG_block zr $hF
  | u_c stepG_loop zr $hF
  | u_c stepG_inBlock zr $hF
  | u_c stepG_inLoop zr $hF
  | u_cond true zr $hF
  | u_cond false zr $hF
  | u_skip zr $hF
  | u_exit zr $hF
  | u_defer zr $hF
  | u_op zr $hF
  | u_call H.f_uAdd (nm_uAdd L) uAddFn zr $hF
  | u_call H.f_uLoad (nm_uLoad L) uLoadFn zr $hF
  | u_call H.f_uCas (nm_uCas L) uCasFn zr $hF
  | u_leave1 H.f_uAdd zr $hF
  | u_leave1 H.f_uLoad zr $hF
  | u_leave1 H.f_uCas zr $hF
  | u_bub zr $hF
  | u_conv H.underlying_tWgP H.room_tWg (WgLive.cell0 (And.right $hF)).choose_spec zr $hF
  | u_conv H.underlying_tPU32 H.room_tU32 (WgLive.cell1 (And.right $hF)).choose_spec zr $hF
  | z_cnd true $hF
  | z_cnd false $hF)

section
variable {P : Program} {F : Machine → Trace → Prop} {hF : Back P F} {d : CDat} {j : Nat} {tag : Tag} {V : Rig} {g : Goroutine} {w : World} {ty : TypeId} {w0 : World}
theorem f_goesL (hty : d.ty = ty) (hV : V.ext = .crew d j tag) (n : Nat) (h : Goes P true (RLw V.vis ty d.Wg) DC0 ((LF P F hF).ok V) n g w) : (LF P F hF).ok V g w := by subst hty; exact f_goes hV n h
theorem bk_disable (Wg : Nat) : ∀ e ∈ #[Go.ConcR.mk .disable], BkS Wg e := by intro e he; simp at he; subst he; exact .inl (.inl rfl)
theorem bk_enable (Wg : Nat) : ∀ e ∈ #[Go.ConcR.mk .enable], BkS Wg e := by intro e he; simp at he; subst he; exact .inl (.inr (.inl rfl))
theorem f_disable {p b : Nat} (hK : KW V.vis ty d.Wg w0 w) (hty : d.ty = ty) (hV : V.ext = .crew d j (.opn p 0 b)) (hrun : g.status = .running) {g' : Goroutine} (hgo : ∀ w, stepG P true g w = .go g' w #[Go.ConcR.mk .disable])
    (hk : ∀ w, KW V.vis ty d.Wg w0 w → (LF P F hF).ok (V.as (.crew d j (.opn p 1 b))) g' w) : (LF P F hF).ok V g w := by
  subst hty
  refine f_book hV hrun fun w₁ D st sm hr hwg hmo hbd hjn hnv => ⟨g', w₁, _, .opn p 1 b, hgo w₁, Aside.refl _ _, bk_disable _, rfl, hjn, hbd, ⟨st, sm, hwg, hmo⟩, by simp only [Tag.k, Tag.p]; split <;> rfl, hk w₁ ⟨hK.1.trans hr.toRelyB, _, _, hwg⟩⟩
theorem f_enable {p b : Nat} (hK : KW V.vis ty d.Wg w0 w) (hty : d.ty = ty) (hV : V.ext = .crew d j (.opn p 1 b)) (hrun : g.status = .running) (hgo : ∀ w, ∃ g', stepG P true g w = .go g' w #[Go.ConcR.mk .enable] ∧
    (KW V.vis ty d.Wg w0 w → (LF P F hF).ok (V.as (.crew d j (.opn p 0 b))) g' w)) : (LF P F hF).ok V g w := by
  subst hty
  refine f_book hV hrun fun w₁ D st sm hr hwg hmo hbd hjn hnv => ?_
  obtain ⟨g', h1, h2⟩ := hgo w₁
  exact ⟨g', w₁, _, .opn p 0 b, h1, Aside.refl _ _, bk_enable _, rfl, hjn, hbd, ⟨st, sm, hwg, hmo⟩, by simp only [Tag.k, Tag.p]; split <;> rfl, h2 ⟨hK.1.trans hr.toRelyB, _, _, hwg⟩⟩
theorem f_enable' (hK : KW V.vis ty d.Wg w0 w) (hty : d.ty = ty) (hV : V.ext = .crew d j (.fin 1)) (hrun : g.status = .running) {g' : Goroutine} (hgo : ∀ w, stepG P true g w = .go g' w #[Go.ConcR.mk .enable])
    (hk : ∀ w, KW V.vis ty d.Wg w0 w → (LF P F hF).ok (V.as (.crew d j (.fin 0))) g' w) : (LF P F hF).ok V g w := by
  subst hty
  refine f_book hV hrun fun w₁ D st sm hr hwg hmo hbd hjn hnv => ⟨g', w₁, _, .fin 0, hgo w₁, Aside.refl _ _, bk_enable _, rfl, hjn, hbd, ⟨st, sm, hwg, hmo⟩, rfl, hk w₁ ⟨hK.1.trans hr.toRelyB, _, _, hwg⟩⟩
theorem f_said (hK : KW V.vis ty d.Wg w0 w) (hty : d.ty = ty) (hV : V.ext = .crew d j tag) (htag : tag.p = pend tag.k) (hrun : g.status = .running) {g' : Goroutine} {es : Array Event} (hes : (∃ a : Addr, a.block = d.Wg ∧ (es = #[⟨.mark (.read a), false, true⟩] ∨ es = #[⟨.mark (.write a), false, true⟩]))) (hgo : ∀ w, stepG P true g w = .go g' w es)
    (hk : ∀ w, KW V.vis ty d.Wg w0 w → (LF P F hF).ok V g' w) : (LF P F hF).ok V g w := by
  subst hty
  refine f_book hV hrun fun w₁ D st sm hr hwg hmo hbd hjn hnv => ⟨g', w₁, _, tag, hgo w₁, Aside.refl _ _, ?_, ?_, hjn, hbd, ⟨st, sm, hwg, hmo⟩, htag.symm, by rw [Rig.as_self hV]; exact hk w₁ ⟨hK.1.trans hr.toRelyB, _, _, hwg⟩⟩
  · obtain ⟨a, ha, rfl | rfl⟩ := hes
    · intro e he; simp at he; subst he; exact .inr ⟨a, ha, .inl rfl⟩
    · intro e he; simp at he; subst he; exact .inr ⟨a, ha, .inr rfl⟩
  · obtain ⟨a, ha, rfl | rfl⟩ := hes <;> rfl
theorem bk_rd (Wg : Nat) : ∀ e ∈ #[rd (stA Wg)], BkS Wg e := by intro e he; simp at he; subst he; exact .inl (bk_cell _ _ rfl)
theorem bk_rdwr (Wg : Nat) : ∀ e ∈ #[rd (stA Wg), wr (stA Wg)], BkS Wg e := by intro e he; simp at he; rcases he with rfl | rfl <;> exact .inl (bk_cell _ _ rfl)
theorem f_addU {b : Nat} (hK : KW V.vis ty d.Wg w0 w) (hty : d.ty = ty) (hV : V.ext = .crew d j (.opn 0 1 b)) (hj : j < d.n) (hn : d.n < 2147483648) (hrun : g.status = .running)
    (hgo : ∀ (w : World) (v : Nat), v < 2147483647 → KW V.vis ty d.Wg w0 w → ¬ V.vis d.Wg → WgAt ty d.Wg w (v * KK) 0 → ∃ g', stepG P true g w = .go g' (w.setCell (stA d.Wg) (.int .u64 ((v + 1) * KK))) #[rd (stA d.Wg), wr (stA d.Wg)] ∧
      (LF P F hF).ok (V.as (.crew d j (.opn 1 1 b))) g' (w.setCell (stA d.Wg) (.int .u64 ((v + 1) * KK)))) : (LF P F hF).ok V g w := by
  subst hty
  refine f_book hV hrun fun w₁ D st sm hr hwg hmo hbd hjn hnv => ?_
  obtain ⟨ho, rfl, rfl, _⟩ := hmo.open_inv trivial
  have hV' := Vc_le j D
  have e0 : Vc j D + pend (Tag.opn 0 1 b).k = Vc j D := rfl
  rw [e0] at hwg
  obtain ⟨g', h1, h2⟩ := hgo w₁ (Vc j D) (by omega) ⟨hK.1.trans hr.toRelyB, _, _, hwg⟩ hnv hwg
  refine ⟨g', _, _, .opn 1 1 b, h1, aside_setCell _ (stA d.Wg) _, bk_rdwr _, rfl, by show j + 1 ≤ d.n; omega, hbd, ⟨_, _, hwg.setSt _, ?_⟩, rfl, h2⟩
  have := Mode.opn (j := j) (D := D) (tag := .sp 0 3) trivial ho (fun _ e => by cases e)
  show Go.ConcN.Mode j D (.sp 0 3) _ _
  simpa [pend] using this
theorem f_load {b : Nat} (hK : KW V.vis ty d.Wg w0 w) (hty : d.ty = ty) (hV : V.ext = .crew d j (.opn 0 1 b)) (hn : d.n < 2147483648) (hrun : g.status = .running)
    (hgo : ∀ (w : World) (v : Nat), v < 2147483648 → v ≤ b → KW V.vis ty d.Wg w0 w → WgAt ty d.Wg w (v * KK) 0 → ∃ g', stepG P true g w = .go g' w #[rd (stA d.Wg)] ∧
      (v = 0 → (LF P F hF).ok (V.as (.crew d j (.fin 1))) g' w) ∧ (v ≠ 0 → (LF P F hF).ok (V.as (.crew d j (.opn 0 1 v))) g' w)) : (LF P F hF).ok V g w := by
  subst hty
  refine f_book hV hrun fun w₁ D st sm hr hwg hmo hbd hjn hnv => ?_
  obtain ⟨ho, rfl, rfl, _⟩ := hmo.open_inv trivial
  have hV' := Vc_le j D
  have e0 : Vc j D + pend (Tag.opn 0 1 b).k = Vc j D := rfl
  have hjn' : j ≤ d.n := hjn
  rw [e0] at hwg
  obtain ⟨g', h1, h2, h3⟩ := hgo w₁ (Vc j D) (by omega) hbd ⟨hK.1.trans hr.toRelyB, _, _, hwg⟩ hwg
  by_cases hv : Vc j D = 0
  · refine ⟨g', _, _, .fin 1, h1, Aside.refl _ _, bk_rd _, rfl, hjn, trivial, ⟨_, _, hwg, ?_⟩, rfl, h2 hv⟩
    have := Mode.fin (j := j) (D := D) (tag := .w4) trivial (allQuit_of ho hv)
    show Go.ConcN.Mode j D .w4 _ _
    simpa [hv] using this
  · refine ⟨g', _, _, .opn 0 1 (Vc j D), h1, Aside.refl _ _, bk_rd _, rfl, hjn, Nat.le_refl _, ⟨_, _, hwg, ?_⟩, rfl, h3 hv⟩
    have := Mode.opn (j := j) (D := D) (tag := .anch) trivial ho (fun _ e => by cases e)
    exact this
theorem f_cas {vs : Nat} (hK : KW V.vis ty d.Wg w0 w) (hty : d.ty = ty) (hV : V.ext = .crew d j (.opn 0 1 vs)) (hvs : vs ≠ 0) (hrun : g.status = .running)
    (hgo : ∀ (w : World) (v : Nat), v ≤ vs → KW V.vis ty d.Wg w0 w → ¬ V.vis d.Wg → WgAt ty d.Wg w (v * KK) 0 →
      (v = vs → ∃ g', stepG P true g w = .go g' (w.setCell (stA d.Wg) (.int .u64 (v * KK + 1))) #[rd (stA d.Wg), wr (stA d.Wg)] ∧ (LF P F hF).ok (V.as (.crew d j .reg)) g' (w.setCell (stA d.Wg) (.int .u64 (v * KK + 1)))) ∧
      (v ≠ vs → ∃ g', stepG P true g w = .go g' w #[rd (stA d.Wg)] ∧ (LF P F hF).ok (V.as (.crew d j (.opn 0 1 (vs - 1)))) g' w)) : (LF P F hF).ok V g w := by
  subst hty
  refine f_book hV hrun fun w₁ D st sm hr hwg hmo hbd hjn hnv => ?_
  obtain ⟨ho, rfl, rfl, _⟩ := hmo.open_inv trivial
  have e0 : Vc j D + pend (Tag.opn 0 1 vs).k = Vc j D := rfl
  have hbd' : Vc j D ≤ vs := hbd
  rw [e0] at hwg
  obtain ⟨h1, h2⟩ := hgo w₁ (Vc j D) hbd ⟨hK.1.trans hr.toRelyB, _, _, hwg⟩ hnv hwg
  by_cases hv : Vc j D = vs
  · obtain ⟨g', h3, h4⟩ := h1 hv
    refine ⟨g', _, _, .reg, h3, aside_setCell _ (stA d.Wg) _, bk_rdwr _, rfl, hjn, trivial, ⟨_, _, hwg.setSt _, ?_⟩, rfl, h4⟩
    exact .reg trivial ho (by omega)
  · obtain ⟨g', h3, h4⟩ := h2 hv
    refine ⟨g', _, _, .opn 0 1 (vs - 1), h3, Aside.refl _ _, bk_rd _, rfl, hjn, by show Vc j D ≤ vs - 1; omega, ⟨_, _, hwg, ?_⟩, rfl, h4⟩
    exact Mode.opn (j := j) (D := D) (tag := .anch) trivial ho (fun _ e => by cases e)
theorem f_load4 (hK : KW V.vis ty d.Wg w0 w) (hty : d.ty = ty) (hV : V.ext = .crew d j (.fin 1)) (hrun : g.status = .running) (hgo : ∀ (w : World), KW V.vis ty d.Wg w0 w → WgAt ty d.Wg w 0 0 → ∃ g', stepG P true g w = .go g' w #[rd (stA d.Wg)] ∧ (LF P F hF).ok V g' w) : (LF P F hF).ok V g w := by
  subst hty
  refine f_book hV hrun fun w₁ D st sm hr hwg hmo hbd hjn hnv => ?_
  obtain ⟨ho, rfl, rfl⟩ := hmo.fin_inv trivial
  obtain ⟨g', h1, h2⟩ := hgo w₁ ⟨hK.1.trans hr.toRelyB, _, _, hwg⟩ hwg
  exact ⟨g', _, _, .fin 1, h1, Aside.refl _ _, bk_rd _, rfl, hjn, hbd, ⟨_, _, hwg, hmo⟩, rfl, by rw [Rig.as_self hV]; exact h2⟩
theorem f_semaL (hK : KW V.vis ty d.Wg w0 w) (hty : d.ty = ty) (hV : V.ext = .crew d j .reg) (hrun : g.status = .running) (hoffers : g.offers = none)
    (H1 : ∀ (w₁ : World) (st : Int), WgAt ty d.Wg w₁ st 0 → stepG P true g w₁ = .go { g with status := .blocked } w₁ #[])
    (H2 : ∀ (w₁ : World), KW V.vis ty d.Wg w0 w₁ → ¬ V.vis d.Wg → WgAt ty d.Wg w₁ 0 1 → ∃ g', stepG P true g w₁ = .go g' (w₁.setCell (smA d.Wg) (.int .u32 0)) (semEvents (smA d.Wg)) ∧ (LF P F hF).ok (V.as (.crew d j (.fin 1))) g' (w₁.setCell (smA d.Wg) (.int .u32 0))) : (LF P F hF).ok V g w := by
  subst hty
  exact f_sema hV hrun hoffers (fun w₁ st _ h => H1 w₁ st h) fun w₁ hr h hnv => H2 w₁ ⟨hK.1.trans hr.toRelyB, _, _, h⟩ hnv h
end
end Go.Eng

namespace Go.Eng
open Go Go.Conc Go.ConcN Go.RowKit Go.Conc.Lib Go.ConcR.Gen Go.ConcN.Gen
open Go.ConcR (KK wgBlock WgAt stA smA rd wr DC0 Bk g_of_ofEvents bk_of_mute ofEvent_loc_mark)

/-- m steps, each of which does no more than D says, to where Fin holds. -/
def Meet (P : Program) (R : World → World → Prop) (D : World → World → Array Event → Prop) (Fin : Goroutine → World → Prop) : Nat → Goroutine → World → Prop
  | 0, g, w => Fin g w
  | m + 1, g, w => g.status = .running ∧ ∀ w₁, R w w₁ → (stepG P false g w₁).goes fun g' w' es => D w₁ w' es ∧ Meet P R D Fin m g' w'
section
variable {P : Program} {R : World → World → Prop} {D D' : World → World → Array Event → Prop} {S : Goroutine → World → Prop} {Fin : Goroutine → World → Prop}
theorem Meet.step {m : Nat} {g : Goroutine} {w : World} (hs : g.status = .running) (h : ∀ w₁, R w w₁ → (stepG P false g w₁).goes fun g' w' es => D w₁ w' es ∧ Meet P R D Fin m g' w') : Meet P R D Fin (m + 1) g w := ⟨hs, h⟩
theorem Meet.goes : ∀ (m n : Nat) (g : Goroutine) (w : World), Goes P false R D' S n g w → Meet P R D (fun g w => ∀ n, Goes P false R D' S n g w → ∀ w₁, R w w₁ → S g w₁) m g w → Goes P false R D S m g w
  | 0, n, g, w, h, k => k n h
  | m + 1, 0, g, w, h, _ => .inl h
  | m + 1, n + 1, g, w, h, k => by
    rcases h with h | ⟨hs, h⟩
    · exact .inl h
    · refine .inr ⟨hs, fun w₁ r => ?_⟩
      have h1 := h w₁ r
      have h2 := k.2 w₁ r
      cases hgo : stepG P false g w₁ with
      | go g' w' es =>
        rw [hgo, goes_go] at h1 h2
        rw [goes_go]
        exact ⟨h2.1, Meet.goes m n g' w' h1.2 h2.2⟩
      | _ => rw [hgo] at h1; exact h1.elim
theorem no_step (hR : ∀ w, R w w) {g g' : Goroutine} {w w' : World} {es : Array Event} (hS : ¬ S g w) (hgo : stepG P false g w = .go g' w' es) (h : ∀ n, ¬ Goes P false R D S n g' w') : ∀ n, ¬ Goes P false R D S n g w
  | 0, k => hS (k w (hR w))
  | n + 1, k => by
    rcases k with k | ⟨_, k⟩
    · exact hS (k w (hR w))
    · have := k w (hR w)
      rw [hgo, goes_go] at this
      exact h n this.2
theorem no_end (hR : ∀ w, R w w) {g g' : Goroutine} {w w' : World} {es : Array Event} (hS : ¬ S g w) (hgo : stepG P false g w = .go g' w' es) (hD : ¬ D w w' es) : ∀ n, ¬ Goes P false R D S n g w
  | 0, k => hS (k w (hR w))
  | n + 1, k => by
    rcases k with k | ⟨_, k⟩
    · exact hS (k w (hR w))
    · have := k w (hR w)
      rw [hgo, goes_go] at this
      exact hD this.1
end
section
variable {P : Program} {d : CDat} {i : Nat} {V : Rig}
/-- Idle steps of a hand. -/
theorem h_goes (hV : V.ext = .hand d i) {v : Value} : ∀ (n : Nat) {g : Goroutine} {w : World}, Goes P false (@Go.ConcN.RW d.pay d.ty d.Wg d.C d.n 0 i) DC0 (@Go.ConcN.AtR0 d.pay P d.ty d.Wg d.C d.n 0 (i + 1) v) n g w → d.Res i V.vis v w → (LH P (HStop P d i)).ok V g w
  | 0, g, w, h, hr => LH.stop (h w (@RW.refl d.pay _ _ _ _ _ _ _)).1 fun w₁ r => ⟨v, h w₁ (by have := r.ext; rw [hV] at this; exact this), d.keep r.block hr⟩
  | n + 1, g, w, h, hr => by
    rcases h with h | ⟨hs, h⟩
    · exact LH.stop (h w (@RW.refl d.pay _ _ _ _ _ _ _)).1 fun w₁ r => ⟨v, h w₁ (by have := r.ext; rw [hV] at this; exact this), d.keep r.block hr⟩
    · refine (LH P (HStop P d i)).step hs fun w₁ r => ?_
      have h1 := h w₁ (by have := r.ext; rw [hV] at this; exact this)
      show ∃ g' w' es, stepG P false g w₁ = .go g' w' es ∧ _
      cases hgo : stepG P false g w₁ with
      | go g' w' es =>
        rw [hgo, goes_go] at h1
        obtain ⟨⟨rfl, rfl⟩, hk⟩ := h1
        exact ⟨g', _, _, rfl, Guar.idle V _, by rw [Rig.grow_self]; exact h_goes hV n hk (d.keep r.block hr)⟩
      | _ => rw [hgo] at h1; exact h1.elim
end
macro_rules | `(tactic| u_in $rl $hF) => `(tactic| (refine Meet.step rfl (fun _ h₁ => ?_); replace $hF := $rl $hF h₁; clear h₁))
theorem rw_live {pay : Go.ConcR.Payload} {ty : TypeId} {Wg C n Low i : Nat} {w w₁ : World} (h : WgLive ty Wg w) (r : @Go.ConcN.RW pay ty Wg C n Low i w w₁) : WgLive ty Wg w₁ := r.live h
set_option hygiene false in
macro "zh_one " hF:ident : tactic => `(tactic| first
  | u_c stepG_region_end rw_live $hF
  | u_c stepG_seq rw_live $hF
  | u_reg rw_live $hF
  | u_cond true rw_live $hF
  | u_cond false rw_live $hF
  | u_skip rw_live $hF
  | u_op rw_live $hF
  | u_call H.f_add (nm_add L) addFn rw_live $hF
  | u_conv H.underlying_tWgP H.room_tWg (WgLive.cell0 $hF).choose_spec rw_live $hF)
section
variable {P : Program} {pay : Go.ConcR.Payload} {L : WgLink}
theorem atR0_ne {ty : TypeId} {Wg C n Low k : Nat} {v : Value} {g g' : Goroutine} {w w' : World} {es : Array Event} (h : stepG P false g w = .go g' w' es) (he : es ≠ #[Go.ConcR.mk (.releaseMerge (stA Wg))]) : ¬ @Go.ConcN.AtR0 pay P ty Wg C n Low k v g w := by
  rintro ⟨_, _, g2, h2, _⟩
  rw [h] at h2
  cases h2
  exact he rfl
set_option maxRecDepth 100000 in
set_option maxHeartbeats 16000000 in
theorem h_done (H : WgLib P L) {Wg C n i : Nat} {val : Value} {c : Frame} {cs : List Frame} {qt : Nat} (hcm : c.mode = .returning) (hT : QuitsD P qt 0 (G c cs)) (w : World) (hL : WgLive L.tWg Wg w) (hH : Has C i val w) :
    Goes P false (@Go.ConcN.RW pay L.tWg Wg C n 0 i) DC0 (@Go.ConcN.AtR0 pay P L.tWg Wg C n 0 (i + 1) val) 15 (G ((baseD L.done).at ⟨#[.pointer (some ⟨Wg, 0, none⟩), undef, undef, undef], []⟩ [.code (body_done L)]) (c :: cs)) w := by
  letI := pay
  refine Meet.goes 15 _ _ _ (doneN (n := n) (k := i + 1) (Low := 0) (Own := fun _ _ => False) (Rd := fun _ _ => False) H hcm hT w ⟨hL, hH⟩) ?_
  clear hH hT hcm
  lib_facts
  simp only [body_done, doneFn, Option.getD_some]
  repeat zh_one hL
  intro n' hg w₁ hr
  cases n' with
  | zero => exact hg w₁ hr
  | succ n' =>
    rcases hg with hg | ⟨_, hg⟩
    · exact hg w₁ hr
    · exfalso
      have h1 := hg w₁ hr
      rw [stepG_markAt .releaseMerge (by simp) rfl rfl (by k_ne) rfl H.f_relMerge (x_relMerge_n L) (x_relMerge_b L) (x_relMerge_x L) (x_relMerge_f L) (ad := stA Wg) (by simp [Act.eval, stA]), goes_go] at h1
      refine no_step (fun w => RW.refl w) (atR0_ne stepG_region_end (by simp)) stepG_region_end (fun n => ?_) _ h1.2
      refine no_step (fun w => RW.refl w) (atR0_ne stepG_seq (by simp)) stepG_seq (fun n => ?_) _
      refine no_step (fun w => RW.refl w) (atR0_ne stepG_region (by simp)) stepG_region (fun n => ?_) _
      refine no_end (fun w => RW.refl w) (atR0_ne (stepG_mark0 .disable (by simp) rfl rfl (by k_ne) rfl H.f_disable (x_disable_n L) (x_disable_b L) (x_disable_x L) (x_disable_f L)) (by simp [Go.ConcR.mk])) (stepG_mark0 .disable (by simp) rfl rfl (by k_ne) rfl H.f_disable (x_disable_n L) (x_disable_b L) (x_disable_x L) (x_disable_f L)) (fun h => ?_) _
      exact (h.2 _ (Array.mem_singleton.2 rfl)).2.1 rfl
end
end Go.Eng

namespace Go.Eng
open Go
theorem W_drawQ {E : En} {id : Nat} {l : List Oper} {s : St} (n : Nat) (hm : E.P.follows .mixedOrders = true) (hB : headB l.toArray n = true) (hT : tailB l.toArray n = true) {K : St → Prop}
    (h : HW E l.toArray s.bl (l.take n) s K) (L : Lg E.P) {Q' : Exit → Act → CW → Prop} (hK0 : ∀ s' g a x, K s' → Inv E g s' a x → wpListV L l.toArray Q' (l.drop n) a x) {g0 : Gh} {a0 : Act} {w00 : CW} (hi0 : Inv E g0 s a0 w00) : (Code.region id l.toArray true).wpV L Q' a0 w00 := by
  obtain ⟨T, hTl, hK, hstep⟩ := HW_trace _ _ h
  obtain ⟨hn, hback, hord⟩ := headB_spec hB
  have hn' : n ≤ l.length := by simpa using hn
  have hTn : T.length = n := by rw [hTl]; simp; omega
  simp only [tailB, Bool.and_eq_true] at hT
  obtain ⟨hT1, hT2⟩ := hT
  have hopt : ∀ i, i < n → ∃ o t, l.toArray[i]? = some o ∧ (l.take n)[i]? = some o ∧ T[i]? = some t := fun i hi => by
    have h1 : i < l.length := by omega
    refine ⟨l[i], T[i]'(by omega), by simp [h1], by simp [hi, h1], by simp [hTn, hi]⟩
  have inS : ∀ (i : Nat) (t : Tr), T[i]? = some t → ∀ (j : Nat) (t' : Tr), j < i → T[j]? = some t' → ∀ q ∈ t'.nb, q ∈ (stS (fun j => decide (j < i)) T 0 s).bl := fun i t _ j t' hj ht' q hq => (mem_bl_stS T 0 s).2 (.inr ⟨j, t', ht', by simpa using hj, hq⟩)
  have inS0 : ∀ (i : Nat) q, q ∈ s.bl → q ∈ (stS (fun j => decide (j < i)) T 0 s).bl := fun i q hq => (mem_bl_stS T 0 s).2 (.inl hq)
  have inO : ∀ (i : Nat) (t : Tr), T[i]? = some t → ∀ (j : Nat) (t' : Tr), j < i → T[j]? = some t' → ∀ k ∈ t'.no, k ∈ (stS (fun j => decide (j < i)) T 0 s).ow := fun i t _ j t' hj ht' k hk => (mem_ow_stS T 0 s).2 (.inr ⟨j, t', ht', by simpa using hj, hk⟩)
  let Lf : Array Bool → Nat → Bool := fun listed i => listed.getD i false
  have tailNot : ∀ listed, HeadInv .any l.toArray n listed → 0 < cnt n (Lf listed) → ∀ i ∈ Region.ready .any l.toArray listed, i < n := by
    intro listed inv hc i hi
    rcases Nat.lt_or_ge i n with h1 | h1
    · exact h1
    · exfalso
      have hlt : i < l.toArray.size := by
        obtain ⟨_, o, ho, _⟩ := mem_ready.1 hi
        exact (Array.getElem?_eq_some_iff.1 ho).1
      have hns : n < l.toArray.size := by omega
      have hb : Nat.blt n l.toArray.size = true := Nat.ble_eq_true_of_le hns
      rw [hb] at hT1
      simp only [cond_true, Bool.and_eq_true] at hT1
      obtain ⟨k, hk1, hk2, _⟩ := cnt_pos hc
      have hk3 : listed.getD k true = false := getD_in (by rw [inv.size]; omega) hk2
      exact tail_waits hT1.1 hT1.2 hns inv _ k rfl hk1 hk3 i h1 hi
  have progress : ∀ listed, HeadInv .any l.toArray n listed → 0 < cnt n (Lf listed) → Region.ready .any l.toArray listed ≠ [] := by
    intro listed inv hc he
    obtain ⟨k, hk1, hk2, hk3⟩ := cnt_pos hc
    have : k ∈ Region.ready .any l.toArray listed := by
      obtain ⟨o, t, h1, _, _⟩ := hopt k hk1
      exact mem_ready.2 ⟨getD_in (by rw [inv.size]; omega) hk2, o, h1, fun e he hb => hk3 _ (hback k o hk1 h1 e he hb)⟩
    rw [he] at this
    cases this
  have main : ∀ (f : Nat) (listed : Array Bool) (g : Gh) (a : Act) (w : CW), cnt n (Lf listed) = f → HeadInv .any l.toArray n listed → Inv E g (stS (Lf listed) T 0 s) a w → wpAnyV L .any l.toArray Q' (f + (l.toArray.size - n)) listed a w := by
    intro f
    induction f with
    | zero =>
      intro listed g a w hc inv hinv
      have hall := cnt_zero hc
      have hst : stS (Lf listed) T 0 s = stS (fun _ => true) T 0 s := by
        have : ∀ (T : List Tr) (i : Nat) (s : St), (∀ j, j < T.length → Lf listed (i + j) = true) → stS (Lf listed) T i s = stS (fun _ => true) T i s := by
          intro T
          induction T with
          | nil => intro i s _; rfl
          | cons t T ih =>
            intro i s hL
            simp only [stS]
            rw [show Lf listed i = true by simpa using hL 0 (by simp)]
            exact ih (i + 1) _ fun j hj => by have := hL (j + 1) (by simp; omega); rwa [show i + (j + 1) = i + 1 + j by omega] at this
        exact this T 0 s fun j hj => by rw [Nat.zero_add]; exact hall j (by omega)
      rw [hst] at hinv
      have hli : listed = ((List.range l.toArray.size).map fun i => Nat.blt i n).toArray := by
        apply Array.ext
        · simp [inv.size]
        · intro i h1 h2
          have h3 : i < l.toArray.size := by rw [← inv.size]; exact h1
          simp only [List.getElem_toArray, List.getElem_map, List.getElem_range]
          rcases Nat.lt_or_ge i n with h4 | h4
          · have h5 := hall i h4
            simp only [Lf, Array.getD_eq_getD_getElem?, Array.getElem?_eq_getElem h1, Option.getD_some] at h5
            rw [h5]
            exact (Nat.ble_eq_true_of_le h4).symm
          · have h5 := inv.tail i h4 h3
            simp only [Array.getD_eq_getD_getElem?, Array.getElem?_eq_getElem h1, Option.getD_some] at h5
            rw [h5]
            cases h6 : Nat.blt i n
            · rfl
            · have := Nat.le_of_ble_eq_true h6; omega
      have hdl : (l.drop n).length = l.toArray.size - n := by simp
      have := wpAnyV_of_seq (L := L) (md := .any) (Q' := Q') (l.drop n) n listed a w (fun j => by simp [List.getElem?_drop]) (by rw [hdl, hli]; exact hT2) (hK0 _ g a w hK hinv)
      rw [hdl] at this
      rw [Nat.zero_add]; exact this
    | succ f ih =>
      intro listed g a w hc inv hinv
      rw [show f + 1 + (l.toArray.size - n) = (f + (l.toArray.size - n)) + 1 by omega]
      have hpos : 0 < cnt n (Lf listed) := by omega
      refine ⟨fun he => absurd he (progress listed inv hpos), fun i hi => ?_⟩
      have hin := tailNot listed inv hpos i hi
      obtain ⟨o, t, ho, ho', ht⟩ := hopt i hin
      obtain ⟨hun, o2, ho2, hdeps⟩ := mem_ready.1 hi
      have : o2 = o := Option.some.inj (ho2.symm.trans ho)
      subst this
      have hLi : Lf listed i = false := getD_both hun
      obtain ⟨⟨hd, hdst, hrun⟩, hnew⟩ := hstep i o2 t ho' ht
      have closed : ∀ k ok, l.toArray[k]? = some ok → Lf listed k = true → ∀ e ∈ ok.after, Region.binds .any e = true → Lf listed e.on = true := fun k ok hk hl e he hb => inv.closed k ok hk hl e he hb
      have depI : ∀ j ∈ (depTab l.toArray n).getD i [], Lf listed j = true := depTab_closed closed n i fun o' ho' e he hb => by
        have : o' = o2 := Option.some.inj (ho'.symm.trans ho)
        subst this
        exact hdeps e he hb
      have depJ : ∀ j, i ∈ (depTab l.toArray n).getD j [] → Lf listed j = false := fun j hj => by
        cases hLj : Lf listed j
        · rfl
        · have := depTab_closed closed n j (fun o' ho' => closed j o' ho' hLj) i hj
          rw [hLi] at this; cases this
      have hTd : ∀ j tr, T[j]? = some tr → j < n ∧ ∃ oj, l.toArray[j]? = some oj ∧ tr.d = oj.dst := fun j tr hj => by
        have hjn : j < n := by rw [← hTn]; exact (List.getElem?_eq_some_iff.1 hj).1
        obtain ⟨oj, t', h1, h2, h3⟩ := hopt j hjn
        exact ⟨hjn, oj, h1, (hstep j oj tr h2 hj).1.d⟩
      have sameLook : ∀ u, u ∈ o2.looksAt l.toArray → look (stS (Lf listed) T 0 s).tm u = look (stS (fun j => decide (j < i)) T 0 s).tm u := fun u hu =>
        look_stS T 0 s s rfl fun j tr hj hdu => by
          rw [Nat.zero_add]
          obtain ⟨hjn, oj, hoj, hjd⟩ := hTd j tr hj
          rcases Nat.lt_trichotomy j i with h1 | h1 | h1
          · rw [decide_eq_true h1]
            exact depI j ((hord i o2 j oj u hin hjn (by omega) ho hoj (hjd ▸ hdu) (.inl hu)).1 h1)
          · subst h1; rw [hLi]; simp
          · rw [decide_eq_false (by omega)]
            exact depJ j ((hord i o2 j oj u hin hjn (by omega) ho hoj (hjd ▸ hdu) (.inl hu)).2 h1)
      have hLset : ∀ j, Lf (listed.setIfInBounds i true) j = (decide (j = i) || Lf listed j) := fun j => by
        by_cases e : j = i
        · subst e
          have hlt : j < listed.size := by rw [inv.size]; exact (Array.getElem?_eq_some_iff.1 ho).1
          simp [Lf, hlt]
        · simp only [e, decide_false, Bool.false_or, Lf]
          exact getD_set_ne false (Ne.symm e)
      have hcnt : cnt n (Lf (listed.setIfInBounds i true)) = f := by
        have := cnt_set (L := Lf listed) (L' := Lf (listed.setIfInBounds i true)) (i := i) hLi (by rw [hLset]; simp) (fun j hj => by rw [hLset]; simp [hj]) n
        rw [if_pos hin] at this
        omega
      -- what holds behind the step
      have next : ∀ (g' : Gh) (a' : Act) (w' : CW), Inv E g' ((stS (Lf listed) T 0 s).app t.d t.v t.nb t.no) a' w' → wpAnyV L .any l.toArray Q' (f + (l.toArray.size - n)) (listed.setIfInBounds i true) a' w' := by
        intro g' a' w' hinv'
        refine ih _ g' a' w' hcnt (inv.set hi hin) ⟨⟨hinv'.mem.mem.same (fun p => ?_) (fun k hk => ?_), hinv'.mem.vis⟩, fun u => ?_, hinv'.de, hinv'.sz⟩
        · simp only [St.app, List.mem_append, mem_bl_stS, hLset, Nat.zero_add]
          constructor
          · rintro (hp | hp | ⟨j, tr, h1, h2, h3⟩)
            · exact .inr ⟨i, t, ht, by simp, hp⟩
            · exact .inl hp
            · exact .inr ⟨j, tr, h1, by simp [h2], h3⟩
          · rintro (hp | ⟨j, tr, h1, h2, h3⟩)
            · exact .inr (.inl hp)
            · by_cases e : j = i
              · subst e
                rw [ht] at h1; cases h1; exact .inl h3
              · exact .inr (.inr ⟨j, tr, h1, by simpa [e] using h2, h3⟩)
        · simp only [St.app, List.mem_append, mem_ow_stS, hLset, Nat.zero_add] at hk ⊢
          rcases hk with hp | hp | ⟨j, tr, h1, h2, h3⟩
          · exact .inr ⟨i, t, ht, by simp, hp⟩
          · exact .inl hp
          · exact .inr ⟨j, tr, h1, by simp [h2], h3⟩
        · have hu := hinv'.tm u
          have heq : look (stS (Lf (listed.setIfInBounds i true)) T 0 s).tm u = look ((stS (Lf listed) T 0 s).app t.d t.v t.nb t.no).tm u := by
            by_cases hdu : t.d = some u
            · have h1 : look ((stS (Lf listed) T 0 s).app t.d t.v t.nb t.no).tm u = t.v := by simp [St.app, hdu, look]
              rw [h1]
              refine look_last T 0 i s t ht hdu rfl (by rw [Nat.zero_add, hLset]; simp) fun j tr hj hij hdj => ?_
              rw [Nat.zero_add, hLset]
              obtain ⟨hjn, oj, hoj, hjd⟩ := hTd j tr hj
              have := depJ j ((hord i o2 j oj u hin hjn (by omega) ho hoj (hjd ▸ hdj) (.inr (hd ▸ hdu))).2 hij)
              rw [this]
              simp; omega
            · have h1 : look ((stS (Lf listed) T 0 s).app t.d t.v t.nb t.no).tm u = look (stS (Lf listed) T 0 s).tm u := by
                simp only [St.app]
                cases hdd : t.d with
                | none => rfl
                | some k =>
                  have : k ≠ u := fun e => hdu (by rw [hdd, e])
                  simp only [look]
                  cases hb : Nat.beq k u
                  · rfl
                  · exact absurd (Nat.eq_of_beq_eq_true hb) this
              rw [h1]
              refine look_stS T 0 s s rfl fun j tr hj hdj => ?_
              rw [Nat.zero_add, hLset]
              have : j ≠ i := fun e => by subst e; rw [ht] at hj; cases hj; exact hdu hdj
              simp [this]
          rw [heq]; exact hu
      have hdst' : ∀ k, t.d = some k → k < E.nt := fun k hk => dstB_spec hdst k (hd ▸ hk)
      unfold wpOpV
      simp only [ho]
      have hguard : ∀ {j d b}, o2.guard = some (j, b) → (l.toArray[j]?).bind (·.dst) = some d → ∀ c, look (stS (fun j => decide (j < i)) T 0 s).tm d = .v (.bool c) → yielded l.toArray a.tmps j = some c := fun {j d b} hg hj c hc' => by
        have h1 := hinv.tm d
        rw [sameLook d (looksAt_guard hg hj), hc'] at h1
        simp only [rep] at h1
        exact yielded_of hj h1
      have oth : ∀ j tr, T[j]? = some tr → Lf listed j = true → j ≠ i := fun j tr _ hL e => by subst e; rw [hLi] at hL; cases hL
      have operandsOk : ∀ x ∈ o2.op.operands, rep g w.w (ev (stS (fun j => decide (j < i)) T 0 s).tm x) (a.eval x) := fun x hx => by
        have := rep_ev hinv.tm x
        rwa [ev_same (tm' := (stS (fun j => decide (j < i)) T 0 s).tm) fun u hu => by subst hu; exact sameLook u (looksAt_op hx)] at this
      rcases hrun with ⟨hq, ⟨hf, hnm⟩, hg⟩ | ⟨hv, hnb, hno, j, dd, b, hg, hj, hb⟩ | ⟨n0, cs0, hqi, hv, hnb, hno⟩ | ⟨hv, hnb, hno, j, dd, b, hg, hj, hb⟩
      · have hw : Region.wanted o2 (yielded l.toArray a.tmps) = true := by
          rcases hg with hg | ⟨j, dd, b, hg, hj, hb⟩
          · simp [Region.wanted, hg]
          · simp [Region.wanted, hg, hguard hg hj b hb]
        rw [hw]
        rw [if_pos rfl]
        have hfresh : (∀ p ∈ t.nb, ∀ q ∈ (stS (Lf listed) T 0 s).bl, p.1 ≠ q.1) ∧ ∀ k ∈ t.no, k ∉ (stS (Lf listed) T 0 s).ow := by
          obtain ⟨f1, f2⟩ := freshB_spec hf
          · refine ⟨fun p hp q hq' => ?_, fun k hk hk' => ?_⟩
            · rcases (mem_bl_stS T 0 s).1 hq' with hq' | ⟨j, tr, h1, h2, h3⟩
              · exact f1 p hp q (inS0 i q hq')
              · rw [Nat.zero_add] at h2
                rcases Nat.lt_trichotomy j i with h4 | h4 | h4
                · exact f1 p hp q (inS i t ht j tr h4 h1 q h3)
                · exact absurd h4 (oth j tr h1 h2)
                · obtain ⟨hjn, oj, hoj, hjd⟩ := hTd j tr h1
                  obtain ⟨oj', t', k1, k2, k3⟩ := hopt j hjn
                  have : oj' = oj := Option.some.inj (k1.symm.trans hoj)
                  subst this
                  rcases (hstep j oj' tr k2 h1).2 with ⟨hf', _⟩ | ⟨n2, cs2, e3, _, _, hop2, _⟩
                  · exact fun e => (freshB_spec hf').1 q h3 p (inS j tr h1 i t h4 ht p hp) e.symm
                  · intro e
                    rw [e3] at h3
                    simp only [List.mem_singleton] at h3
                    have e5 : o2.dst = some n2 := by rw [hnm p hp, e, h3]
                    have := depJ j ((hord j oj' i o2 n2 hjn hin (by omega) hoj ho e5 (.inl (looksAt_op hop2))).1 h4)
                    rw [h2] at this; cases this
            · rcases (mem_ow_stS T 0 s).1 hk' with hk' | ⟨j, tr, h1, h2, h3⟩
              · exact f2 k hk ((mem_ow_stS T 0 s).2 (.inl hk'))
              · rw [Nat.zero_add] at h2
                rcases Nat.lt_trichotomy j i with h4 | h4 | h4
                · exact f2 k hk (inO i t ht j tr h4 h1 k h3)
                · exact absurd h4 (oth j tr h1 h2)
                · obtain ⟨hjn, oj, hoj, hjd⟩ := hTd j tr h1
                  obtain ⟨oj', t', k1, k2, k3⟩ := hopt j hjn
                  rcases (hstep j oj' tr k2 h1).2 with ⟨hf', _⟩ | ⟨n2, cs2, e3, e4, _, hop2, _⟩
                  · exact (freshB_spec hf').2 k h3 (inO j tr h1 i t h4 ht k hk)
                  · rw [e4] at h3; simp at h3
        refine (hq L g a.eval (stS (Lf listed) T 0 s).bl (stS (Lf listed) T 0 s).ow w hinv.mem (fun p hp => (mem_bl_stS T 0 s).2 (.inl hp)) hfresh.1 hfresh.2 operandsOk).mono fun y w' hKy => ?_
        obtain ⟨g', h1, h2, h3⟩ := hKy
        have := hinv.app (d := t.d) hdst' h1 h2 h3
        rw [hd] at this
        exact next g' _ w' (by rw [hd]; exact this)
      · have hw : Region.wanted o2 (yielded l.toArray a.tmps) = false := by
          simp [Region.wanted, hg, hguard hg hj b hb]
        rw [hw]
        have := hinv.app (d := t.d) (v := t.v) (y := undef) (nb := t.nb) (no := t.no) hdst' (Goes.refl g _) (by rw [hnb, hno]; exact hinv.mem) (by rw [hv]; simp [rep])
        rw [hd] at this
        exact next g _ w (by rw [hd]; exact this)
      · have hw : Region.wanted o2 (yielded l.toArray a.tmps) = true := by simp [Region.wanted, hqi.2.1]
        rw [hw]
        rw [if_pos rfl]
        have hin0 : initB n0 cs0.length (stS (fun j => decide (j < i)) T 0 s).bl = true := by
          rcases hnew with ⟨hf, hnm⟩ | ⟨n1, cs1, e1, _, _, _, hin1⟩
          · have := hnm (n0, cs0) (by rw [hnb]; simp)
            rw [hqi.1] at this; cases this
          · rw [hnb] at e1
            simp only [List.cons.injEq, Prod.mk.injEq, and_true] at e1
            obtain ⟨rfl, rfl⟩ := e1
            exact hin1
        obtain ⟨⟨c0, hc0⟩, hall0⟩ := initB_spec hin0
        have hopt0 : n0 ∈ o2.looksAt l.toArray := looksAt_op hqi.2.2.1
        have hnt : ∀ c : List AV, c.all (fun x => !isTop x) = true → c ≠ [] → c.all isTop = true → False := by
          intro c h1 h2 h3
          cases c with
          | nil => exact h2 rfl
          | cons x c =>
            simp only [List.all_cons, Bool.and_eq_true, Bool.not_eq_true'] at h1 h3
            rw [h3.1] at h1; cases h1.1
        refine (hqi.2.2.2.2 L g a.eval (stS (Lf listed) T 0 s).bl (stS (Lf listed) T 0 s).ow w hinv.mem ⟨c0, ?_⟩ (fun c hc => ?_) operandsOk).mono fun y w' hKy => ?_
        · rcases (mem_bl_stS T 0 s).1 hc0 with h1 | ⟨j, tr, h1, h2, h3⟩
          · exact (mem_bl_stS T 0 s).2 (.inl h1)
          · rw [Nat.zero_add] at h2
            have hji : j < i := of_decide_eq_true h2
            refine (mem_bl_stS T 0 s).2 (.inr ⟨j, tr, h1, ?_, h3⟩)
            rw [Nat.zero_add]
            obtain ⟨hjn, oj, hoj, hjd⟩ := hTd j tr h1
            obtain ⟨oj', t', k1, k2, k3⟩ := hopt j hjn
            have : oj' = oj := Option.some.inj (k1.symm.trans hoj)
            subst this
            rcases (hstep j oj' tr k2 h1).2 with ⟨_, hnm'⟩ | ⟨n2, cs2, e3, _, hnt2, _, _⟩
            · exact depI j ((hord i o2 j oj' n0 hin hjn (by omega) ho hoj (hnm' _ h3) (.inl hopt0)).1 hji)
            · rw [e3] at h3
              simp only [List.mem_singleton, Prod.mk.injEq] at h3
              obtain ⟨rfl, rfl⟩ := h3
              exact (hnt _ hnt2.1 hnt2.2 (hall0 _ hc0).2).elim
        · rcases (mem_bl_stS T 0 s).1 hc with h1 | ⟨j, tr, h1, h2, h3⟩
          · exact hall0 c (inS0 i _ h1)
          · rw [Nat.zero_add] at h2
            rcases Nat.lt_trichotomy j i with h4 | h4 | h4
            · exact hall0 c (inS i t ht j tr h4 h1 _ h3)
            · exact absurd h4 (oth j tr h1 h2)
            · obtain ⟨hjn, oj, hoj, hjd⟩ := hTd j tr h1
              obtain ⟨oj', t', k1, k2, k3⟩ := hopt j hjn
              rcases (hstep j oj' tr k2 h1).2 with ⟨hf', _⟩ | ⟨n2, cs2, e3, _, _, _, hin2⟩
              · exact absurd rfl ((freshB_spec hf').1 _ h3 (n0, cs0) (inS j tr h1 i t h4 ht _ (by rw [hnb]; simp)))
              · rw [e3] at h3
                simp only [List.mem_singleton, Prod.mk.injEq] at h3
                obtain ⟨rfl, rfl⟩ := h3
                have := (initB_spec hin2).2 cs0 (inS j tr h1 i t h4 ht _ (by rw [hnb]; simp))
                exact (hnt _ hqi.2.2.2.1.1 hqi.2.2.2.1.2 this.2).elim
        · obtain ⟨hy, g', h1, h2⟩ := hKy
          have := hinv.app (d := t.d) (v := t.v) (y := y) (nb := t.nb) (no := t.no) hdst' h1 (by rw [hnb, hno]; exact h2) (by
            have hdn : t.d = none := hd.trans hqi.1
            rw [hv, hy]; simp [rep])
          rw [hd] at this
          exact next g' _ w' (by rw [hd]; exact this)
      · have hw : Region.wanted o2 (yielded l.toArray a.tmps) = false := by
          have h1 := hinv.tm dd
          rw [sameLook dd (looksAt_guard hg hj), hb] at h1
          simp only [rep] at h1
          simp [Region.wanted, hg, yielded_un hj h1]
        rw [hw]
        have := hinv.app (d := t.d) (v := t.v) (y := undef) (nb := t.nb) (no := t.no) hdst' (Goes.refl g _) (by rw [hnb, hno]; exact hinv.mem) (by rw [hv]; simp [rep])
        rw [hd] at this
        exact next g _ w (by rw [hd]; exact this)
  refine wpV_region_any hm fun w₁ rw₁ => ?_
  have inv0 : HeadInv .any l.toArray n (Array.replicate l.toArray.size false) :=
    ⟨by simp, fun j oj _ hl => (by rw [getD_replicate_false] at hl; cases hl), fun t _ ht => getD_in (by simpa using ht) (getD_replicate_false _ _)⟩
  have hL0 : Lf (Array.replicate l.toArray.size false) = fun _ => false := by funext i; exact getD_replicate_false _ _
  have := main n (Array.replicate l.toArray.size false) g0 a0 ⟨w00.V, { w₁ with drawn := w₁.drawn + 1 }⟩ (by rw [hL0]; exact cnt_false n) inv0 ?_
  · rwa [show n + (l.toArray.size - n) = l.toArray.size by omega] at this
  · rw [hL0]
    have zero : ∀ (T : List Tr) (i : Nat) (s : St), stS (fun _ => false) T i s = s := by
      intro T
      induction T with
      | nil => intro i s; rfl
      | cons t T ih => intro i s; simp only [stS, cond_false]; exact ih _ s
    rw [zero]
    exact (hi0.rely rw₁).drew
open Go.Conc Go.ConcN in
section
variable {P : Program}
theorem Inv_enter {I : Nat → Nat → Prop} {x : CW} {vals : Array Value} {args : List AV} {nt : Nat} (df : List Deferred) (hI : SeesI I x) (hx : Rigged x) (hargs' : reps (g0 I) x.w args vals.toList) (hn : args.length ≤ nt) :
    Inv ⟨P, x.w.heap.size, x.w, nt, fun b => ¬ x.V.vis b, [], I, fun _ _ _ => False, x.V, df⟩ (g0 I) ⟨(args.zipIdx 0).map fun p => (p.2, p.1), [], []⟩ { tmps := vals ++ Array.replicate (nt - vals.size) undef, defers := df } x := by
  have hlen := reps_length hargs'
  refine ⟨⟨⟨BelowM.refl _ _ _, Nat.le_refl _, fun b o h => (hI b o h).1, fun n b h => by simp [g0] at h, fun n b h => by simp [g0] at h, fun n n' b h => by simp [g0] at h, fun n n' b h => by simp [g0] at h, fun n n' b h => by simp [g0] at h,
    fun n cs h => by simp at h, fun n b h => by simp [g0] at h, fun n h => h.elim, fun b o h => .inl h, fun b o h => h, fun n b T h => h.elim⟩,
    ⟨fun b o h => (hI b o h).2, fun n b h => by simp [g0] at h, fun n b h => by simp [g0] at h, hx.sub, hx.lt, fun _ h => h, fun _ h => h, fun _ h => .inl h, fun _ h => .inl h, fun b h => Classical.not_not.1 h, rfl⟩⟩, fun t => ?_, rfl, ?_⟩
  · simp only [look_zip, Nat.zero_le, if_true, Nat.sub_zero]
    rcases Nat.lt_or_ge t args.length with h1 | h1
    · obtain ⟨y, hy, hr⟩ := reps_get hargs' (List.getElem?_eq_getElem h1)
      have : t < vals.size := by simpa [← hlen] using h1
      have hy' : vals[t] = y := by simpa [this] using hy
      simp only [List.getD_eq_getElem?_getD, List.getElem?_eq_getElem h1, Option.getD_some]
      simp only [Array.getD_eq_getD_getElem?, Array.getElem?_append_left this, Array.getElem?_eq_getElem this, Option.getD_some, hy']
      exact hr
    · simp only [List.getD_eq_getElem?_getD, List.getElem?_eq_none h1, Option.getD_none, rep]
  · have : vals.size = args.length := by simpa using hlen
    show (vals ++ Array.replicate (nt - vals.size) undef).size = nt
    simp; omega
/-- The store of what a hand hands in. -/
theorem hand_store {L : Lg P} {d : CDat} {i : Nat} {V : Rig} {w : World} {ρ : Operand → Value} {t : Nat} {ag : Bool} {xo yo : Operand} {ty : TypeId} {pos : String} {af : Array Edge} {K : Value → CW → Prop} [ht : TyOk P t ag 1]
    (hV : V.ext = .hand d i) (hCW : d.C ≠ d.Wg) (hi : i < d.n) (hCv : ¬ V.vis d.C) (hx : ρ xo = .pointer (some ⟨d.C, i, none⟩)) (hc : (ρ yo).cells = #[ρ yo]) (h1 : (ρ yo).oneCell' = true)
    (hK : ∀ w₁ w', Rely V w w₁ → RelyB V.vis w₁ w' → Has d.C i (ρ yo) w' → WgLive d.ty d.Wg w' → K undef ⟨V, w'⟩) : OpV L ⟨none, .store t xo yo, ty, pos, af, none⟩ ρ ⟨V, w⟩ K := by
  letI := d.pay
  intro w₁ r
  have hl := r.live
  rw [hV] at hl
  obtain ⟨⟨cs, hp1, hp2⟩, hlw⟩ := hl
  have hic : i < cs.size := by omega
  have hcell : w₁.cell? ⟨d.C, i, none⟩ = some cs[i] := by simp [World.cell?, hp1, hic]
  have hfro : w₁.frozen? ⟨d.C, i, none⟩ = false := by simp [World.frozen?, hp1]
  have hst : (store ((⟨d.C, i, none⟩ : Addr).add 0) (ρ yo)).run P w₁ = .ok () (w₁.setRow d.C (cs.setIfInBounds i (ρ yo))) := by
    rw [addr_add, run_store P w₁ _ _ _ h1, Nat.add_zero, hcell]
    simp [hfro, setCell_eq_setRow w₁ d.C i cs _ (0, 0) (ρ yo) hp1]
  have hev : (store ((⟨d.C, i, none⟩ : Addr).add 0) (ρ yo)).events P w₁ #[] = #[⟨.cell ⟨d.C, i, none⟩, true, false⟩] := by
    rw [addr_add, events_store P w₁ #[] _ _ _ h1, Nat.add_zero, hcell]
    simp only [hfro, Bool.false_eq_true, if_false]
    rfl
  have hsz1 : ¬ ((ρ yo).cells.size ≠ 1) := by rw [hc]; simp
  have hrun : (execOp ρ ⟨none, .store t xo yo, ty, pos, af, none⟩).run P w₁ = .ok .skip (w₁.setRow d.C (cs.setIfInBounds i (ρ yo))) := by
    simp only [execOp, hx, Instr.storeAt, Instr.sureAddr, storeVar, Sem.run_bind, Sem.run_pure, Result.andThen_ok, ht.sz, if_neg hsz1]
    rw [hc]
    simp only [storeCells, Sem.run_bind, hst, Result.andThen_ok, Sem.run_pure]
  have hevs : (execOp ρ ⟨none, .store t xo yo, ty, pos, af, none⟩).events P w₁ #[] = #[⟨.cell ⟨d.C, i, none⟩, true, false⟩] := by
    simp only [execOp, hx, Instr.storeAt, Instr.sureAddr, storeVar, Sem.events_bind, Sem.run_bind, Sem.run_pure, Sem.events_pure, Result.evThen_ok, Result.andThen_ok, ht.sz, events_sizeOf, if_neg hsz1]
    rw [hc]
    simp only [storeCells, Sem.events_bind, hst, Result.evThen_ok, hev, Sem.events_pure, Sem.run_bind, Result.andThen_ok, Sem.run_pure]
  rw [hrun, hevs]
  have size : (w₁.setRow d.C (cs.setIfInBounds i (ρ yo))).heap.size = w₁.heap.size := by simp [World.setRow]
  have hheap := setRow_heap w₁ d.C cs (cs.setIfInBounds i (ρ yo)) _ (0, 0) hp1
  have hoth : ∀ b, b ≠ d.C → (w₁.setRow d.C (cs.setIfInBounds i (ρ yo))).heap[b]? = w₁.heap[b]? := fun b hb => setRow_other w₁ d.C b _ hb
  refine ⟨.inr ?_, ?_⟩
  · rw [hV]
    refine ⟨⟨rfl, rfl, rfl, size, fun b hb => hoth b hb, fun _ => ⟨_, hheap, by simpa using hp2⟩, fun i' hne => ?_⟩, fun e he => .inl (by simpa using he)⟩
    simp only [World.cell?, hheap, hp1]
    simp [Array.getElem?_setIfInBounds_ne (Ne.symm hne)]
  · rw [size, Rig.grow_self]
    refine hK w₁ _ r ⟨rfl, rfl, rfl, by rw [size]; exact Nat.le_refl _, fun b hb => hoth b fun e => hCv (e ▸ hb)⟩ ?_ ?_
    · simp only [Has, World.cell?, hheap]
      simp [hic]
    · obtain ⟨st, sm, hw⟩ := hlw
      exact ⟨st, sm, hw.of_block (hoth _ (Ne.symm hCW))⟩
end

theorem wdrawQ {E : En} {id : Nat} {l hd tl : List Oper} {tm : List (Nat × AV)} {bl : List (Nat × List AV)} {ow : List Nat} (n : Nat) (hm : E.P.follows .mixedOrders = true) (hB : headB l.toArray n = true) (hT : tailB l.toArray n = true) (hs : splitO n l = some (hd, tl)) {K : St → Prop} (L : Lg E.P) {Q' : Exit → Act → CW → Prop} {g0 : Gh} {a0 : Act} {x0 : CW}
    (h : HW E l.toArray bl hd ⟨tm, bl, ow⟩ K) (hi0 : Inv E g0 ⟨tm, bl, ow⟩ a0 x0) (hK0 : ∀ s' g a x, K s' → Inv E g s' a x → wpListV L l.toArray Q' tl a x) : (Code.region id l.toArray true).wpV L Q' a0 x0 := by
  obtain ⟨h1, h2⟩ := splitO_eq hs
  subst h1; subst h2
  exact W_drawQ n hm hB hT h L hK0 hi0

section
variable {P : Program}
theorem wpListV_cons {L : Lg P} {ops : Array Oper} {Q : Exit → Act → CW → Prop} {o : Oper} {rest : List Oper} {a : Act} {x : CW} (hg : o.guard = none) (h : OpV L o a.eval x fun y x' => wpListV L ops Q rest (a.put o.dst y) x') : wpListV L ops Q (o :: rest) a x := by
  unfold wpListV
  rw [if_pos (by simp [Region.wanted, hg])]
  exact h
theorem hand_index {L : Lg P} {C i n c : Nat} {V : Rig} {w : World} {ρ : Operand → Value} {t T by_ : Nat} {xo io : Operand} {dst : Option Tmp} {ty : TypeId} {pos : String} {af : Array Edge} {gd : Option (Nat × Bool)} {K : Value → CW → Prop} [hs : SlOk P t T 1 by_]
    (h3 : ρ xo = .slice (some ⟨C, 0, none⟩) n c) (h2 : ρ io = .int .i64 (i : Int)) (hlt : i < n) (hK : ∀ w₁, Rely V w w₁ → K (.pointer (some ⟨C, i, none⟩)) ⟨V, w₁⟩) : OpV L ⟨dst, .indexAddr t xo io, ty, pos, af, gd⟩ ρ ⟨V, w⟩ K := by
  intro w₁ r
  obtain ⟨in0, z, hi1, hi2, hi3, hi4, hi5⟩ := hs.info
  have hsz : (sizeOf T).run P w₁ = .ok 1 w₁ := by simp [sizeOf, typeInfo, hi1, hi3]
  have hrun : (execOp ρ ⟨dst, .indexAddr t xo io, ty, pos, af, gd⟩).run P w₁ = .ok (.value (.pointer (some ⟨C, i, none⟩))) w₁ := by
    simp [execOp, h2, h3, Instr.indexAt, asIntOf, run_underlying hs.und, hsz, addr_add, hlt]
  have hev : (execOp ρ ⟨dst, .indexAddr t xo io, ty, pos, af, gd⟩).events P w₁ #[] = #[] := by
    simp [execOp, h2, h3, Instr.indexAt, asIntOf, run_underlying hs.und, hlt]
  rw [hrun, hev]
  exact ⟨Guar.idle _ _, by rw [Rig.grow_self]; exact hK w₁ r⟩
end

open Go.Conc in
theorem wpV_use {P : Program} {L : Lg P} {c : Code} {Q : Exit → Act → CW → Prop} {a : Act} {V : Rig} {w : World} {b : Frame} {k : List Item} {cs : List Frame} (hb : b.kind ≠ .early) (h : c.wpV L Q a ⟨V, w⟩) (hc : ∀ e a' x', Q e a' x' → AfterV L b k cs e a' x') : L.ok V (G (b.at a (.code c :: k)) cs) w := h b k cs hb hc

theorem use_W {E : En} {c : Code} {Q' : Exit → Act → CW → Prop} {s s1 : St} {g : Gh} {a : Act} {x : CW} {L : Lg E.P} (h : W E c (fun e s' => e = .normal ∧ s' = s1) s) (hi : Inv E g s a x) (hk : ∀ g' a' x', Inv E g' s1 a' x' → Q' .normal a' x') : c.wpV L Q' a x :=
  wpV_mono (h L g a x hi) fun e a' x' ⟨g', s', ⟨h1, h2⟩, h3⟩ => by subst h1; subst h2; exact hk g' a' x' h3
theorem use_W' {E : En} {c : Code} {Q' : Exit → Act → CW → Prop} {s : St} (K : St → Prop) {g : Gh} {a : Act} {x : CW} {L : Lg E.P} (h : W E c (fun e s' => e = .normal ∧ K s') s) (hi : Inv E g s a x) (hk : ∀ s' g' a' x', K s' → Inv E g' s' a' x' → Q' .normal a' x') : c.wpV L Q' a x :=
  wpV_mono (h L g a x hi) fun e a' x' ⟨g', s', ⟨h1, h2⟩, h3⟩ => by subst h1; exact hk s' g' a' x' h2 h3

theorem Inv.only {E : En} {tm tm' : List (Nat × AV)} {bl : List (Nat × List AV)} {ow : List Nat} {g : Gh} {a : Act} {x : CW} (h : Inv E g ⟨tm, bl, ow⟩ a x) (hk : ∀ p ∈ tm', look tm p.1 = p.2) : Inv E g ⟨tm', bl, ow⟩ a x := by
  refine ⟨h.mem, fun t => ?_, h.de, h.sz⟩
  have : ∀ tm' : List (Nat × AV), (∀ p ∈ tm', look tm p.1 = p.2) → look tm' t = .top ∨ look tm' t = look tm t := by
    intro tm'
    induction tm' with
    | nil => intro _; exact .inl rfl
    | cons p r ih =>
      intro hk
      obtain ⟨k, v⟩ := p
      simp only [look]
      cases hb : Nat.beq k t
      · exact ih fun p hp => hk p (by simp [hp])
      · have e := Nat.eq_of_beq_eq_true hb
        subst e
        exact .inr (hk (k, v) (by simp)).symm
  rcases this tm' hk with h1 | h1
  · simp only [h1, rep]
  · show rep g x.w (look tm' t) _
    rw [h1]; exact h.tm t
end Go.Eng

namespace Go.Eng
open Go Go.Conc Go.ConcN Go.RowKit Go.Conc.Lib Go.ConcR.Gen Go.ConcN.Gen
open Go.ConcR (KK wgBlock WgAt stA smA rd wr DC0 Bk g_of_ofEvents bk_of_mute ofEvent_loc_mark)

section
variable {P : Program} {F : Machine → Trace → Prop} {hF : Back P F} {d : CDat} {j : Nat} {V : Rig} {L : WgLink} {b₀ : Frame} {a₀ : Act} {ops₀ : Array Oper} {i₀ : Nat} {rest₀ : List Nat} {k₀ : List Item} {cs : List Frame}
set_option maxRecDepth 100000 in
set_option maxHeartbeats 16000000 in
theorem f_add (H : WgLib P L) (hty : d.ty = L.tWg) (hV : V.ext = .crew d j (.opn 0 0 d.n)) (hj : j < d.n) (hn : d.n < 2147483648)
    {w0 : World} (hT : ∀ w, KW V.vis d.ty d.Wg w0 w → (LF P F hF).ok (V.as (.crew d j (.opn 1 0 d.n))) (G (b₀.at (a₀.put ((ops₀[i₀]?).bind (·.dst)) (.tuple #[])) (.inRegion ops₀ rest₀ :: k₀)) cs) w) (w : World) (hL : KW V.vis d.ty d.Wg w0 w) :
    (LF P F hF).ok V (G ((base L.add).at ⟨#[.pointer (some ⟨d.Wg, 0, none⟩), .int .i64 1, undef, undef, undef, undef, undef, undef, undef, undef, undef, undef, undef, undef, undef, undef, undef, undef, undef, undef, undef, undef, undef, undef, undef, undef, undef, undef, undef, undef, undef, undef, undef, undef, undef, undef, undef, undef, undef, undef, undef, undef, undef, undef, undef, undef, undef, undef, undef, undef, undef, undef, undef, undef, undef, undef, undef, undef, undef, undef, undef, undef, undef, undef, undef, undef, undef, undef, undef, undef, undef, undef, undef, undef, undef, undef, undef, undef, undef, undef, undef, undef, undef, undef, undef, undef, undef, undef, undef, undef, undef, undef, undef, undef, undef, undef, undef, undef, undef, undef, undef, undef, undef, undef, undef, undef, undef, undef, undef, undef, undef, undef, undef, undef, undef, undef, undef], []⟩ [.code (body_add L)]) (b₀.at a₀ (.inRegion ops₀ (i₀ :: rest₀) :: k₀) :: cs)) w := by
  rw [hty] at hL hT
  refine f_goesL hty hV 60 ?_
  lib_facts
  simp only [body_add, addFn, Option.getD_some]
  u_c stepG_seq zr hL
  u_cond true zr hL
  u_c stepG_seq zr hL
  u_c stepG_seq zr hL
  u_reg zr hL
  u_op zr hL
  u_op zr hL
  u_c stepG_region_end zr hL
  u_cond false zr hL
  u_c stepG_skip zr hL
  u_c stepG_seq zr hL
  u_reg zr hL
  refine Goes.stop fun w₁ h₁ => ?_
  replace hL := zr hL h₁
  clear h₁
  refine f_disable hL hty hV rfl (fun w => stepG_mark0 .disable (by simp) rfl rfl (by k_ne) rfl H.f_disable (x_disable_n L) (x_disable_b L) (x_disable_x L) (x_disable_f L)) fun w₂ hL => ?_
  refine f_goesL hty rfl 80 ?_
  walk_nrm
  u_c stepG_region_end zr hL
  u_reg zr hL
  u_defer zr hL
  u_c stepG_region_end zr hL
  u_c stepG_seq zr hL
  u_reg zr hL
  u_op zr hL
  u_c stepG_region_end zr hL
  u_c stepG_seq zr hL
  u_c stepG_seq zr hL
  u_reg zr hL
  u_bub zr hL
  u_c stepG_region_end zr hL
  u_cond false zr hL
  u_c stepG_skip zr hL
  u_c stepG_seq zr hL
  u_reg zr hL
  u_op zr hL
  u_op zr hL
  u_op zr hL
  u_op zr hL
  u_op zr hL
  u_op zr hL
  u_call H.f_uAdd (nm_uAdd L) uAddFn zr hL
  u_c stepG_seq zr hL
  u_reg zr hL
  u_op zr hL
  u_c stepG_region_end zr hL
  u_c stepG_seq zr hL
  u_reg zr hL
  u_op zr hL
  u_op zr hL
  u_op zr hL
  u_op zr hL
  refine Goes.stop fun w₃ h₃ => ?_
  replace hL := zr hL h₃
  clear h₃
  refine f_addU hL hty rfl hj hn rfl fun w₄ v hv hL hnv hw => ?_
  rcases Nat.eq_zero_or_pos v with rfl | hvp
  · replace hw : WgAt L.tWg d.Wg w₄ 0 0 := by simpa using hw
    have z : (((0 : Nat) : Int) + 1) * KK = KK := by simp
    rw [z]
    have e0 : IntKind.u64.wrap (0 + 4294967296) = KK := by decide
    refine ⟨_, (stepG_add_atomic rfl rfl (by k_ne) rfl H.f_addU64 (x_addU64_n L) (x_addU64_b L) (x_addU64_x L) .u64 (x_addU64_f L) rfl rfl hw.cellSt (hw.thaw 0)).trans (by rw [e0]; rfl), ?_⟩
    replace hL : KW V.vis L.tWg d.Wg w0 (w₄.setCell (stA d.Wg) (.int .u64 KK)) := hL.set hnv (aside_setCell w₄ (stA d.Wg) _) ⟨_, _, hw.setSt _⟩
    clear hw
    simp only [KK] at hL ⊢
    refine f_goesL hty rfl 120 ?_
    walk_nrm
    u_op zr hL
    u_c stepG_region_end zr hL
    u_c stepG_ret' zr hL
    u_leave1 H.f_uAdd zr hL
    u_op zr hL
    u_c stepG_region_end zr hL
    u_c stepG_seq zr hL
    u_c stepG_seq zr hL
    u_reg zr hL
    u_op zr hL
    u_op zr hL
    u_op zr hL
    u_op zr hL
    u_skip zr hL
    u_skip zr hL
    u_op zr hL
    u_c stepG_region_end zr hL
    u_cond false zr hL
    u_c stepG_skip zr hL
    u_c stepG_seq zr hL
    u_reg zr hL
    u_op zr hL
    u_op zr hL
    u_op zr hL
    u_op zr hL
    u_c stepG_region_end zr hL
    u_c stepG_seq zr hL
    u_reg zr hL
    u_op zr hL
    u_op zr hL
    u_op zr hL
    u_op zr hL
    u_c stepG_region_end zr hL
    u_c stepG_seq zr hL
    u_c stepG_seq zr hL
    u_reg zr hL
    u_op zr hL
    u_op zr hL
    u_op zr hL
    u_op zr hL
    u_op zr hL
    u_op zr hL
    u_op zr hL
    u_op zr hL
    u_op zr hL
    u_op zr hL
    u_c stepG_region_end zr hL
    u_cond true zr hL
    u_reg zr hL
    u_op zr hL
    u_op zr hL
    u_op zr hL
    u_conv H.underlying_tPU32 H.room_tU32 (WgLive.cell1 (And.right hL)).choose_spec zr hL
    refine Goes.stop fun w₅ h₅ => ?_
    replace hL := zr hL h₅
    clear h₅
    refine f_said hL hty rfl rfl rfl ⟨⟨d.Wg, 1, none⟩, rfl, .inl rfl⟩ (fun w => stepG_markAt .read (by simp) rfl rfl (by k_ne) rfl H.f_raceRead (x_raceRead_n L) (x_raceRead_b L) (x_raceRead_x L) (x_raceRead_f L) (ad := ⟨d.Wg, 1, none⟩) (by simp [Act.eval])) fun w₆ hL => ?_
    refine f_goesL hty rfl 120 ?_
    walk_nrm
    u_c stepG_region_end zr hL
    u_c stepG_seq zr hL
    u_c stepG_seq zr hL
    u_reg zr hL
    u_op zr hL
    u_op zr hL
    u_c stepG_region_end zr hL
    u_cond false zr hL
    u_c stepG_skip zr hL
    u_c stepG_seq zr hL
    u_c stepG_seq zr hL
    u_reg zr hL
    u_op zr hL
    u_op zr hL
    u_op zr hL
    u_skip zr hL
    u_skip zr hL
    u_op zr hL
    u_op zr hL
    u_skip zr hL
    u_skip zr hL
    u_skip zr hL
    u_skip zr hL
    u_op zr hL
    u_c stepG_region_end zr hL
    u_cond false zr hL
    u_c stepG_skip zr hL
    u_c stepG_seq zr hL
    u_c stepG_seq zr hL
    u_reg zr hL
    u_op zr hL
    u_op zr hL
    u_op zr hL
    u_skip zr hL
    u_skip zr hL
    u_op zr hL
    u_c stepG_region_end zr hL
    u_cond true zr hL
    u_c stepG_ret' zr hL
    refine Goes.stop fun w₅ h₅ => ?_
    replace hL := zr hL h₅
    clear h₅
    refine f_enable hL hty rfl rfl fun w => ⟨_, stepG_unwind_entry (v := .tuple #[]) (evs := #[Go.ConcR.mk .enable]) rfl H.f_enable (x_enable_n L) (x_enable_b L) (x_enable_x L) (x_enable_f L) (by simp [Extern.Race.none_]) (by simp [Go.ConcR.mk]) (by simp [Go.ConcR.mk]), fun hL => ?_⟩
    refine f_goesL hty rfl 5 ?_
    u_leave0 H.f_add zr hL
    exact Goes.stop fun w h => hT w (zr hL h)
  · obtain ⟨V', hV'⟩ : ∃ V' : Int, V' = (v : Int) + 1 := ⟨_, rfl⟩
    obtain ⟨S, hS⟩ : ∃ S : Int, S = V' * KK := ⟨_, rfl⟩
    have eS : IntKind.u64.wrap ((v : Int) * KK + 4294967296) = S := by rw [IntKind.wrap_u64, hS, hV']; simp only [KK]; omega
    rw [← hV', ← hS]
    have a1 : S / 4294967296 = V' := by rw [hS]; simp only [KK]; omega
    have b1 : bits .and .u64 S 2147483648 = 0 := by rw [hS, hV']; have := st_flag (v + 1) 0 (by omega) (by omega); simpa [KK] using this
    have b2 : bits .and .u64 S 2147483647 = 0 := by rw [hS, hV']; have := st_waiters (v + 1) 0 (by omega) (by omega); simpa [KK] using this
    have c1 : IntKind.i32.wrap V' = V' := by rw [IntKind.wrap_i32]; omega
    have hV1 : 1 < V' := by omega
    have hV2 : V' < 2147483648 := by omega
    have q1 : (V' == 1) = false := by simp; omega
    have q2 : decide (V' = 1) = false := decide_eq_false (by omega)
    have q3 : decide (V' < 0) = false := decide_eq_false (by omega)
    have q4 : decide (0 < V') = true := decide_eq_true (by omega)
    have q5 : (V' == 0) = false := by simp; omega
    have q6 : decide (V' = 0) = false := decide_eq_false (by omega)
    refine ⟨_, (stepG_add_atomic rfl rfl (by k_ne) rfl H.f_addU64 (x_addU64_n L) (x_addU64_b L) (x_addU64_x L) .u64 (x_addU64_f L) rfl rfl hw.cellSt (hw.thaw 0)).trans (by rw [eS]; rfl), ?_⟩
    replace hL : KW V.vis L.tWg d.Wg w0 (w₄.setCell (stA d.Wg) (.int .u64 S)) := hL.set hnv (aside_setCell w₄ (stA d.Wg) _) ⟨_, _, hw.setSt _⟩
    clear hw hS hV' eS
    refine f_goesL hty rfl 120 ?_
    walk_nrm
    u_op zr hL
    u_c stepG_region_end zr hL
    u_c stepG_ret' zr hL
    u_leave1 H.f_uAdd zr hL
    u_op zr hL
    u_c stepG_region_end zr hL
    u_c stepG_seq zr hL
    u_c stepG_seq zr hL
    u_reg zr hL
    u_op zr hL
    u_op zr hL
    u_op zr hL
    u_op zr hL
    u_skip zr hL
    u_skip zr hL
    u_op zr hL
    u_c stepG_region_end zr hL
    first | u_cond false zr hL | z_cnd false hL
    u_c stepG_skip zr hL
    u_c stepG_seq zr hL
    u_reg zr hL
    u_op zr hL
    u_op zr hL
    u_op zr hL
    u_op zr hL
    u_c stepG_region_end zr hL
    u_c stepG_seq zr hL
    u_reg zr hL
    u_op zr hL
    u_op zr hL
    u_op zr hL
    u_op zr hL
    u_c stepG_region_end zr hL
    u_c stepG_seq zr hL
    u_c stepG_seq zr hL
    u_reg zr hL
    u_op zr hL
    u_op zr hL
    u_op zr hL
    u_op zr hL
    u_op zr hL
    u_op zr hL
    u_op zr hL
    u_op zr hL
    u_op zr hL
    u_op zr hL
    u_c stepG_region_end zr hL
    first | u_cond false zr hL | z_cnd false hL
    u_c stepG_skip zr hL
    u_c stepG_seq zr hL
    u_c stepG_seq zr hL
    u_reg zr hL
    u_op zr hL
    u_op zr hL
    u_c stepG_region_end zr hL
    first | u_cond false zr hL | z_cnd false hL
    u_c stepG_skip zr hL
    u_c stepG_seq zr hL
    u_c stepG_seq zr hL
    u_reg zr hL
    u_op zr hL
    u_op zr hL
    u_op zr hL
    u_skip zr hL
    u_skip zr hL
    u_op zr hL
    u_op zr hL
    u_skip zr hL
    u_skip zr hL
    u_skip zr hL
    u_skip zr hL
    u_op zr hL
    u_c stepG_region_end zr hL
    first | u_cond false zr hL | z_cnd false hL
    u_c stepG_skip zr hL
    u_c stepG_seq zr hL
    u_c stepG_seq zr hL
    u_reg zr hL
    u_op zr hL
    u_op zr hL
    u_op zr hL
    u_skip zr hL
    u_skip zr hL
    u_op zr hL
    u_c stepG_region_end zr hL
    first | u_cond true zr hL | z_cnd true hL
    u_c stepG_ret' zr hL
    refine Goes.stop fun w₅ h₅ => ?_
    replace hL := zr hL h₅
    clear h₅
    refine f_enable hL hty rfl rfl fun w => ⟨_, stepG_unwind_entry (v := .tuple #[]) (evs := #[Go.ConcR.mk .enable]) rfl H.f_enable (x_enable_n L) (x_enable_b L) (x_enable_x L) (x_enable_f L) (by simp [Extern.Race.none_]) (by simp [Go.ConcR.mk]) (by simp [Go.ConcR.mk]), fun hL => ?_⟩
    refine f_goesL hty rfl 5 ?_
    u_leave0 H.f_add zr hL
    exact Goes.stop fun w h => hT w (zr hL h)
end
end Go.Eng
