/- My walking engine, part 17: abstract values of Go, and the rules of a walk over them. No program in sight. -/
import Derived.Test.YtpcahgedkmgllaaGreatZ3
import Derived.Conc.WgGenN2
namespace Go.Eng
open Go Go.Conc Go.ConcN
open Go.ConcR (KK wgBlock WgAt stA smA rd wr mk DC0 Bk g_of_ofEvents bk_of_mute ofEvent_loc_mark)

inductive Rk
  | zero
  | sup (f : World → Rk)
def Rk.lt (a b : Rk) : Prop := ∃ f w, b = .sup f ∧ a = f w
theorem Rk.acc : ∀ r : Rk, Acc Rk.lt r
  | .zero => ⟨_, fun _ ⟨_, _, h, _⟩ => by cases h⟩
  | .sup f => ⟨_, fun a ⟨g, w, h, e⟩ => by cases h; rw [e]; exact Rk.acc (f w)⟩
abbrev Ms := Nat × Rk × Nat
def Ms.lt : Ms → Ms → Prop := Prod.Lex (· < ·) (Prod.Lex Rk.lt (· < ·))
theorem Ms.wf : WellFounded Ms.lt := (Prod.lex ⟨_, Nat.lt_wfRel.wf⟩ (Prod.lex ⟨_, ⟨Rk.acc⟩⟩ ⟨_, Nat.lt_wfRel.wf⟩)).wf
def Dec (n : Nat) (f' f : Nat → Ms) : Prop := ∃ i, i < n ∧ Ms.lt (f' i) (f i) ∧ ∀ j, j ≠ i → f' j = f j
theorem Dec.congr {n : Nat} {f : Nat → Ms} (h : Acc (Dec n) f) : ∀ g, (∀ i, i < n → g i = f i) → Acc (Dec n) g := by
  induction h with
  | intro f _ ih =>
    intro g hg
    refine ⟨_, fun g' ⟨i, hi, hlt, ho⟩ => ih (upd f i (g' i)) ⟨i, hi, by rw [upd_same, ← hg i hi]; exact hlt, fun j hj => upd_ne f _ hj⟩ g' fun j hj => ?_⟩
    by_cases e : j = i
    · subst e; rw [upd_same]
    · rw [upd_ne f _ e, ho j e, hg j hj]
theorem Dec.acc : ∀ (n : Nat) (f : Nat → Ms), Acc (Dec n) f
  | 0, _ => ⟨_, fun _ ⟨_, h, _⟩ => absurd h (Nat.not_lt_zero _)⟩
  | n + 1, f => by
    have key : ∀ a, Acc Ms.lt a → ∀ f, Acc (Dec n) f → f n = a → Acc (Dec (n + 1)) f := by
      intro a ha
      induction ha with
      | intro a _ iha =>
        intro f hf
        induction hf with
        | intro f hf' ihf =>
          intro he
          refine ⟨_, fun f' ⟨i, hi, hlt, ho⟩ => ?_⟩
          by_cases e : i = n
          · subst e
            exact iha (f' i) (he ▸ hlt) f' (Dec.congr ⟨_, hf'⟩ f' fun j hj => ho j (by omega)) rfl
          · exact ihf f' ⟨i, by omega, hlt, ho⟩ (by rw [ho n (Ne.symm e), he])
    exact key (f n) (Ms.wf.apply _) f (Dec.acc n f) rfl

section
variable (Sh : Loc → Prop) (B : Nat) (vis mine : Nat → Nat → Prop) (cel : Nat → Addr → Prop)
structure TG : Prop where
  sub : ∀ g b, mine g b → vis g b
  lt : ∀ g b, vis g b → b < B
  ap : ∀ g g' b, g ≠ g' → mine g b → ¬ vis g' b
  cv : ∀ g g' a, cel g a → ¬ vis g' a.block
  cc : ∀ g g' a, cel g a → cel g' a → g = g'
  sv : ∀ g a, Sh (.cell a) → ¬ vis g a.block
  sc : ∀ g a, Sh (.cell a) → ¬ cel g a
  sb : ∀ a, Sh (.cell a) → a.block < B
  cb : ∀ g a, cel g a → a.block < B
structure TI (t : Trace) : Prop where
  nr : ∀ said, ¬ Race said t
  low : ∀ op ∈ t, op.act.low B
  quiet : Quiet Sh t
  pv : ∀ g (a : Addr), vis g a.block → PermW t g (.cell a)
  pm : ∀ g (a : Addr), mine g a.block → Perm t g (.cell a)
  pc : ∀ g a, cel g a → Perm t g (.cell a)
def OkT (g : Nat) (x : Touch) : Prop :=
  (Sh x.loc ∧ x.kind ≠ .plain ∧ (x.kind = .said → g = 0)) ∨
    ∃ a, x.loc = .cell a ∧ x.kind = .plain ∧ ((vis g a.block ∧ (x.write = true → mine g a.block)) ∨ cel g a ∨ B ≤ a.block)
end
section
variable {Sh : Loc → Prop} {B B' : Nat} {vis mine vis' mine' : Nat → Nat → Prop} {cel : Nat → Addr → Prop} {t u : Trace} {g : Nat}
theorem low_touch {op : MemOp} {x : Touch} {a : Addr} (h : op.act.low B) (hx : op.act.touch? = some x) (hl : x.loc = .cell a) : a.block < B := by
  revert h hx
  cases op.act with
  | access e =>
    intro h hx
    simp only [MemAct.touch?, Option.some.injEq] at hx
    subst hx
    simp only at hl
    rw [MemAct.low, hl] at h
    exact h
  | mark m =>
    cases m <;> intro h hx <;> simp only [MemAct.touch?, Option.some.injEq] at hx <;> first | (cases hx; done) | (subst hx; cases (show Loc.cell _ = Loc.cell a from hl); exact h)
  | _ => intro _ hx; simp [MemAct.touch?] at hx
theorem TI.grow (h : TI Sh B vis mine cel t) (G : TG Sh B vis mine cel) (hB : B ≤ B') (hu : ∀ op ∈ u, op.g = g) (hlow : ∀ op ∈ u, op.act.low B') (hok : ∀ op ∈ u, ∀ x, op.act.touch? = some x → OkT Sh B vis mine cel g x)
    (hv : ∀ k b, vis' k b → vis k b ∨ (k = g ∧ B ≤ b ∧ b < B')) (hm : ∀ k b, mine' k b → mine k b ∨ (k = g ∧ B ≤ b ∧ b < B')) : TI Sh B' vis' mine' cel (t ++ u) := by
  have fresh : ∀ {a : Addr}, B ≤ a.block → ∀ (k : Nat), k = g → Perm (t ++ u) k (.cell a) := by
    rintro a ha k rfl i x hx hl
    obtain ⟨op, ho, hox⟩ := touch_of hx
    rcases getElem?_append_cases ho with ⟨_, ho'⟩ | ⟨_, hou⟩
    · have := low_touch (h.low op (Array.mem_of_getElem? ho')) hox hl
      omega
    · have := knows_own ho
      rwa [hu op hou] at this
  have pw : ∀ k (a : Addr), vis k a.block → PermW (t ++ u) k (.cell a) := fun k a hk => (h.pv k a hk).app fun op hop x hx hl hw => by
    rcases hok op hop x hx with ⟨hs, _⟩ | ⟨a', e, _, h1 | h1 | h1⟩
    · rw [hl] at hs; exact absurd hk (G.sv k a hs)
    · rw [hl] at e; cases e
      by_cases hkg : g = k
      · rw [hu op hop, hkg]
      · exact absurd hk (G.ap g k _ hkg (h1.2 hw))
    · rw [hl] at e; cases e
      exact absurd hk (G.cv g k _ h1)
    · rw [hl] at e; cases e
      have := G.lt k _ hk
      omega
  have pm : ∀ k (a : Addr), mine k a.block → Perm (t ++ u) k (.cell a) := fun k a hk => (h.pm k a hk).app fun op hop x hx hl => by
    rcases hok op hop x hx with ⟨hs, _⟩ | ⟨a', e, _, h1 | h1 | h1⟩
    · rw [hl] at hs; exact absurd (G.sub k _ hk) (G.sv k a hs)
    · rw [hl] at e; cases e
      by_cases hkg : k = g
      · rw [hu op hop, hkg]
      · exact absurd h1.1 (G.ap k g _ hkg hk)
    · rw [hl] at e; cases e
      exact absurd (G.sub k _ hk) (G.cv g k _ h1)
    · rw [hl] at e; cases e
      have := G.lt k _ (G.sub k _ hk)
      omega
  refine ⟨fun said => noRace_append (h.nr said) hu fun i a ha op hop b hb hc => ?_, fun op hop => (Array.mem_append.1 hop).elim (fun h' => MemAct.low_mono hB (h.low op h')) (hlow op), h.quiet.app fun op hop x hx hs => ?_, fun k a hk => ?_, fun k a hk => ?_, fun k a hk => (h.pc k a hk).app fun op hop x hx hl => ?_⟩
  · rcases hok op hop b hb with ⟨hs, h1, h2⟩ | ⟨a', e, _, h1 | h1 | h1⟩
    · exact h.quiet.known hs h1 h2 i a ha hc
    · cases hbw : b.write with
      | true => exact h.pm g a' (h1.2 hbw) i a ha (hc.1.trans e)
      | false => exact h.pv g a' h1.1 i a ha (hc.1.trans e) (hc.2.2.1.resolve_right (by simp [hbw]))
    · exact h.pc g a' h1 i a ha (hc.1.trans e)
    · obtain ⟨op', ho', hox'⟩ := touch_of ha
      have := low_touch (h.low op' (Array.mem_of_getElem? ho')) hox' (hc.1.trans e)
      omega
  · rcases hok op hop x hx with ⟨_, h1, h2⟩ | ⟨a', e, hk, h1 | h1 | h1⟩
    · exact ⟨h1, fun e => by rw [hu op hop]; exact h2 e⟩
    · rw [e] at hs; exact absurd h1.1 (G.sv g a' hs)
    · rw [e] at hs; exact absurd h1 (G.sc g a' hs)
    · rw [e] at hs; have := G.sb a' hs; omega
  · rcases hv k _ hk with h1 | ⟨h1, h2, _⟩
    · exact pw k a h1
    · exact .of (fresh h2 k h1)
  · rcases hm k _ hk with h1 | ⟨h1, h2, _⟩
    · exact pm k a h1
    · exact fresh h2 k h1
  · rcases hok op hop x hx with ⟨hs, _⟩ | ⟨a', e, _, h1 | h1 | h1⟩
    · rw [hl] at hs; exact absurd hk (G.sc k a hs)
    · rw [hl] at e; cases e
      exact absurd h1.1 (G.cv k g _ hk)
    · rw [hl] at e; cases e
      rw [hu op hop]; exact G.cc g k _ h1 hk
    · rw [hl] at e; cases e
      have := G.cb k _ hk
      omega
theorem TI.fork {cel' : Nat → Addr → Prop} {c : Nat} (h : TI Sh B vis mine cel t) {x y : MemOp} (hx : x.g = 0 ∧ x.act = .go c) (hy : y.g = c ∧ y.act = .start) (h0 : Deaf t 0 = 0) (hk : Deaf t c = 0)
    (hv : ∀ k b, vis' k b → vis k b ∨ (k = c ∧ vis 0 b)) (hm : ∀ k b, mine' k b → mine k b) (hc : ∀ k a, cel' k a → cel k a ∨ (k = c ∧ cel 0 a)) : TI Sh B vis' mine' cel' (t ++ #[x, y]) := by
  have hnt : ∀ op ∈ #[x, y], ∀ b, op.act.touch? = some b → False := by
    intro op hop b hb
    simp only [List.mem_toArray, List.mem_cons, List.not_mem_nil, or_false] at hop
    rcases hop with rfl | rfl
    · rw [hx.2] at hb; cases hb
    · rw [hy.2] at hb; cases hb
  have old : ∀ {i : Nat} {a : Touch}, touchAt (t ++ #[x, y]) i = some a → touchAt t i = some a := by
    intro i a ha
    obtain ⟨z, hz, hza⟩ := touch_of ha
    rcases getElem?_append_cases hz with ⟨_, hz'⟩ | ⟨_, hzu⟩
    · rw [touchAt_of hz']; exact hza
    · exact (hnt z hzu a hza).elim
  refine ⟨fun said => ?_, fun op hop => ?_, h.quiet.app fun op hop b hb _ => (hnt op hop b hb).elim, fun k a hkv => ?_, fun k a hkm => (h.pm k a (hm k _ hkm)).app fun op hop b hb _ => (hnt op hop b hb).elim, fun k a hkc => ?_⟩
  · have e : t ++ #[x, y] = (t ++ #[x]) ++ #[y] := by apply Array.ext'; simp
    rw [e]
    refine noRace_append (g := c) (noRace_append (g := 0) (h.nr said) (fun op hop => by simp at hop; rw [hop]; exact hx.1) (fun i a _ op hop b hb _ => (hnt op (by simp at hop ⊢; exact .inl hop) b hb).elim))
      (fun op hop => by simp at hop; rw [hop]; exact hy.1) (fun i a _ op hop b hb _ => (hnt op (by simp at hop ⊢; exact .inr hop) b hb).elim)
  · rcases Array.mem_append.1 hop with h1 | h1
    · exact h.low op h1
    · simp only [List.mem_toArray, List.mem_cons, List.not_mem_nil, or_false] at h1
      rcases h1 with rfl | rfl
      · rw [hx.2]; trivial
      · rw [hy.2]; trivial
  · rcases hv k _ hkv with h1 | ⟨rfl, h1⟩
    · exact (h.pv k a h1).app fun op hop b hb _ _ => (hnt op hop b hb).elim
    · exact fun i z hz e hw => fork_knows hx hy h0 hk (h.pv 0 a h1 i z (old hz) e hw)
  · rcases hc k a hkc with h1 | ⟨rfl, h1⟩
    · exact (h.pc k a h1).app fun op hop b hb _ => (hnt op hop b hb).elim
    · exact fun i z hz e => fork_knows hx hy h0 hk (h.pc 0 a h1 i z (old hz) e)
end

def TreeR (P : Program) (S : Rig → Goroutine → World → Prop) : Rk → Rig → Goroutine → World → Prop
  | .zero, V, g, w => g.status = .running ∧ ∀ w₁, Rely V w w₁ → S V g w₁
  | .sup f, V, g, w => g.status = .running ∧ ((∀ w₁, Rely V w w₁ → S V g w₁) ∨ ∀ w₁, Rely V w w₁ → ∃ g' w' es, stepG P false g w₁ = .go g' w' es ∧ Guar V w₁ w' es ∧ TreeR P S (f w₁) (V.grow w₁.heap.size w'.heap.size) g' w')
section
variable {P : Program} {S : Rig → Goroutine → World → Prop}
theorem TreeR.rely : ∀ {r : Rk} {V : Rig} {g : Goroutine} {w w₁ : World}, TreeR P S r V g w → Rely V w w₁ → TreeR P S r V g w₁
  | .zero, _, _, _, _, h, r => ⟨h.1, fun w₂ r₂ => h.2 w₂ (r.trans r₂)⟩
  | .sup _, _, _, _, _, h, r => ⟨h.1, h.2.imp (fun h w₂ r₂ => h w₂ (r.trans r₂)) fun h w₂ r₂ => h w₂ (r.trans r₂)⟩
theorem TreeR.running {r : Rk} {V : Rig} {g : Goroutine} {w : World} (h : TreeR P S r V g w) : g.status = .running := by
  cases r <;> exact h.1
theorem TreeR.cases {r : Rk} {V : Rig} {g : Goroutine} {w : World} (h : TreeR P S r V g w) (hl : V.ext.live w) : S V g w ∨ ∃ r', Rk.lt r' r ∧ ∃ g' w' es, stepG P false g w = .go g' w' es ∧ Guar V w w' es ∧ TreeR P S r' (V.grow w.heap.size w'.heap.size) g' w' := by
  cases r with
  | zero => exact .inl (h.2 w (Rely.refl hl))
  | sup f =>
    rcases h.2 with h | h
    · exact .inl (h w (Rely.refl hl))
    · exact .inr ⟨f w, ⟨f, w, rfl, rfl⟩, h w (Rely.refl hl)⟩
end
def LH (P : Program) (S : Rig → Goroutine → World → Prop) : Lg P where
  main := false
  ok V g w := V.ext = .alone ∨ ∃ r, TreeR P S r V g w
  rely h r := h.imp id fun ⟨k, h⟩ => ⟨k, h.rely r⟩
  step := by
    intro V g w hs h
    by_cases e : V.ext = .alone
    · exact .inl e
    refine .inr ?_
    have key : ∀ w₁, ∃ r : Rk, Rely V w w₁ → ∃ g' w' es, stepG P false g w₁ = .go g' w' es ∧ Guar V w₁ w' es ∧ TreeR P S r (V.grow w₁.heap.size w'.heap.size) g' w' := by
      intro w₁
      by_cases hr : Rely V w w₁
      · obtain ⟨g', w', es, h1, h2, h3⟩ := h w₁ hr
        rcases h3 with h3 | ⟨r, h3⟩
        · exact absurd h3 e
        · exact ⟨r, fun _ => ⟨g', w', es, h1, h2, h3⟩⟩
      · exact ⟨.zero, fun h => absurd h hr⟩
    exact ⟨.sup fun w₁ => (key w₁).choose, hs, .inr fun w₁ hr => (key w₁).choose_spec hr⟩
  big h _ := .inl h
theorem LH.stop {P : Program} {S : Rig → Goroutine → World → Prop} {V : Rig} {g : Goroutine} {w : World} (hs : g.status = .running) (h : ∀ w₁, Rely V w w₁ → S V g w₁) : (LH P S).ok V g w := .inr ⟨.zero, hs, h⟩

def Tag.k : Tag → CTag
  | .opn p _ _ => if p = 1 then .sp 0 3 else .anch
  | .reg => .w3
  | .fin _ => .w4
def Tag.deaf : Tag → Nat
  | .opn _ d _ => d
  | .reg => 1
  | .fin d => d
def Tag.p : Tag → Nat
  | .opn p _ _ => if p = 1 then 1 else 0
  | _ => 0
def Tag.bound (tag : Tag) (v : Nat) : Prop := match tag with
  | .opn _ _ b => v ≤ b
  | _ => True
def HStop (P : Program) (d : CDat) (i : Nat) (V : Rig) (g : Goroutine) (w : World) : Prop := ∃ v, @Go.ConcN.AtR0 d.pay P d.ty d.Wg d.C d.n 0 (i + 1) v g w ∧ d.Res i V.vis v w
def Sit (P : Program) (d : CDat) (i : Nat) (R : Rig) (D : WD) (r : Rk) (v : Value) (g : Goroutine) (w : World) : Prop :=
  (D.stage = 7 ∧ D.deaf = 0 ∧ TreeR P (HStop P d i) r R g w) ∨ (D.stage ≤ 6 ∧ @WSit d.pay P d.ty d.Wg d.C d.n (fun _ _ => False) (fun _ _ => False) 0 (i + 1) v D.stage D.fuel D.deaf g w)
def crewCel (d : CDat) (j : Nat) (g : Nat) (a : Addr) : Prop := ∃ i, i < d.n ∧ a = ⟨d.C, i, none⟩ ∧ ((g = 0 ∧ j ≤ i) ∨ (g = d.off + i ∧ i < j))
structure Crew (P : Program) (d : CDat) (j : Nat) (tag : Tag) (R : Nat → Rig) (gs : Array Goroutine) (w : World) (t : Trace) (D : Nat → WD) (rk : Nat → Rk) (val : Nat → Value) (q : Nat → Nat) (Shun : Loc → Prop) : Prop where
  ext0 : (R 0).ext = .crew d j tag
  jn : j + tag.p ≤ d.n
  n31 : d.n < 2147483648
  off : 1 ≤ d.off
  size : gs.size = d.off + j
  old : ∀ k g, 0 < k → k < d.off → gs[k]? = some g → QuitsD P (q k) (Deaf t k) g
  wk : ∀ i, i < j → ∃ g, gs[d.off + i]? = some g ∧ Sit P d i (R (d.off + i)) (D i) (rk i) (val i) g w
  dfw : ∀ i, i < j → Deaf t (d.off + i) = (D i).deaf
  above : ∀ k, d.off + j ≤ k → Deaf t k = 0
  deaf0 : Deaf t 0 = tag.deaf
  ext : ∀ i, i < j → (R (d.off + i)).ext = .hand d i
  tg : TG (ShN d.Wg) w.heap.size (fun g => (R g).vis) (fun g => (R g).mine) (crewCel d j)
  ti : TI (ShN d.Wg) w.heap.size (fun g => (R g).vis) (fun g => (R g).mine) (crewCel d j) t
  visC : ∀ g, ¬ (R g).vis d.C
  dn : ∀ g b, (R g).vis b → d.dn b
  dnw : ∀ b, d.Wg ≤ b → d.dn b
  nob : ∀ k, 0 < k → k < d.off ∨ d.off + j ≤ k → ∀ b, ¬ (R k).vis b
  CW : d.C ≠ d.Wg
  Wlt : d.Wg < w.heap.size
  Clt : d.C < w.heap.size
  shun : ∀ l, Shun l → ∃ a : Addr, l = .cell a ∧ a.block < w.heap.size ∧ a.block ≠ d.C ∧ a.block ≠ d.Wg ∧ ∀ g, ¬ (R g).vis a.block
  norel : ∀ op ∈ t, op.act ≠ .mark (.release (stA d.Wg))
  rel : ∀ i, i < j → (D i).stage ≤ 6 → ∃ r, RelBy (stA d.Wg) t (d.off + i) r
  has : ∀ i, i < j → (D i).stage ≤ 6 → Has d.C i (val i) w ∧ d.Res i (R (d.off + i)).vis (val i) w
  pay : @PayAt d.pay d.C d.n w
  bound : tag.bound (Vc j D)
  known : ∀ i a, touchAt t i = some a → a.loc.isMemory = true → Knows t 0 i ∨ (Shun a.loc ∧ a.kind = .atomic) ∨ (ShN d.Wg a.loc ∧ a.kind = .atomic) ∨ (∃ k, k < j ∧ t.g? i = some (d.off + k) ∧ a.kind ≠ .atomic)
  over : ∀ i g, t.g? i = some g → g ≠ 0 → t.counts i → (∃ m, t.g? m = some 0 ∧ HappensBefore t i m) ∨ ∃ k, k < j ∧ g = d.off + k
section
variable {Sh : Loc → Prop} {B B' : Nat} {vis mine vis' mine' : Nat → Nat → Prop} {cel : Nat → Addr → Prop} {g : Nat}
theorem TG.grow (G : TG Sh B vis mine cel) (hB : B ≤ B') (hs : ∀ k b, mine' k b → vis' k b)
    (hv : ∀ k b, vis' k b → vis k b ∨ (k = g ∧ B ≤ b ∧ b < B')) (hm : ∀ k b, mine' k b → mine k b ∨ (k = g ∧ B ≤ b ∧ b < B')) : TG Sh B' vis' mine' cel where
  sub := hs
  lt k b h := (hv k b h).elim (fun h => Nat.lt_of_lt_of_le (G.lt k b h) hB) (·.2.2)
  ap k k' b hne h h' := by
    rcases hm k b h with h1 | ⟨rfl, h1, _⟩ <;> rcases hv k' b h' with h2 | ⟨e, h2, _⟩
    · exact G.ap k k' b hne h1 h2
    · have := G.lt k b (G.sub k b h1); omega
    · have := G.lt k' b h2; omega
    · exact hne e.symm
  cv k k' a h h' := by
    rcases hv k' _ h' with h2 | ⟨_, h2, _⟩
    · exact G.cv k k' a h h2
    · have := G.cb k a h; omega
  cc := G.cc
  sv k a h h' := by
    rcases hv k _ h' with h2 | ⟨_, h2, _⟩
    · exact G.sv k a h h2
    · have := G.sb a h; omega
  sc := G.sc
  sb a h := Nat.lt_of_lt_of_le (G.sb a h) hB
  cb k a h := Nat.lt_of_lt_of_le (G.cb k a h) hB
end

section
variable {P : Program} {d : CDat} {i : Nat} {R : Rig} {D : WD} {r : Rk} {v : Value} {g : Goroutine} {w w₁ : World}
theorem HStop.running {V : Rig} (h : HStop P d i V g w) : g.status = .running := h.choose_spec.1.1
theorem Sit.rely (h : Sit P d i R D r v g w) (hr : @Go.ConcN.RW d.pay d.ty d.Wg d.C d.n 0 i w w₁) (hR : Rely R w w₁) : Sit P d i R D r v g w₁ := by
  letI := d.pay
  exact h.imp (fun h => ⟨h.1, h.2.1, h.2.2.rely hR⟩) fun h => ⟨h.1, h.2.rely hr⟩
theorem Sit.status (h : Sit P d i R D r v g w) : g.status = .running ∨ g.status = .finished := by
  letI := d.pay
  exact h.elim (fun h => .inl h.2.2.running) fun h => h.2.status
theorem Sit.woken (h : Sit P d i R D r v g w) (a a' : Goroutine) (w' : World) : woken P a a' w' g = g := by
  unfold Go.Conc.woken
  split
  · exact again_running _ h.status
  · rfl
end

section
variable {P : Program} {d : CDat} {j : Nat} {tag tag' : Tag} {R : Nat → Rig} {gs : Array Goroutine} {w w' : World} {t : Trace} {D D' : Nat → WD} {rk rk' : Nat → Rk} {val val' : Nat → Value} {q : Nat → Nat} {Shun : Loc → Prop}
theorem Crew.visW (h : Crew P d j tag R gs w t D rk val q Shun) (g : Nat) : ¬ (R g).vis d.Wg := h.tg.sv g ⟨d.Wg, 0, none⟩ ⟨_, rfl, rfl⟩
theorem Crew.keeps (h : Crew P d j tag R gs w t D rk val q Shun) {k : Nat} (hB : RelyB (fun b => b < w.heap.size ∧ b ≠ d.Wg ∧ b ≠ d.C ∧ ¬ (R k).mine b) w w') {g : Nat} (hg : g ≠ k) : RelyB (R g).vis w w' :=
  ⟨hB.os, hB.tape, hB.output, hB.size, fun b hb => hB.block b ⟨h.tg.lt g b hb, fun e => h.visW g (e ▸ hb), fun e => h.visC g (e ▸ hb), fun hm => h.tg.ap k g b (Ne.symm hg) hm hb⟩⟩
theorem Crew.step (h : Crew P d j tag R gs w t D rk val q Shun) {k : Nat} {g g' : Goroutine} {fn : FuncId} {pos : String} {es : Array Event} {Rk' : Rig}
    {q' : Nat → Nat} (hk : (k = 0 ∨ ∃ i, i < j ∧ k = d.off + i) ∨ (0 < k ∧ k < d.off ∧ ∀ op ∈ MemOp.ofEvents k fn pos es, op.act.touch? = none))
    (hq : ∀ k', 0 < k' → k' < d.off → k' ≠ k → q' k' = q k') (hqk : 0 < k → k < d.off → QuitsD P (q' k) (deafBehind (Deaf t k) es) g')
    (hnew : k < d.off → 0 < k → ∀ b, ¬ (w.heap.size ≤ b ∧ b < w'.heap.size))
    (hsame : ∀ i, i < j → d.off + i ≠ k → D' i = D i ∧ rk' i = rk i ∧ val' i = val i)
    (hv : ∀ b, Rk'.vis b → (R k).vis b ∨ (w.heap.size ≤ b ∧ b < w'.heap.size)) (hm : ∀ b, Rk'.mine b → (R k).mine b ∨ (w.heap.size ≤ b ∧ b < w'.heap.size)) (hsub : ∀ b, Rk'.mine b → Rk'.vis b)
    (hB : RelyB (fun b => b < w.heap.size ∧ b ≠ d.Wg ∧ b ≠ d.C ∧ ¬ (R k).mine b) w w')
    (hcell : ∀ i, i < j → d.off + i ≠ k → w'.cell? ⟨d.C, i, none⟩ = w.cell? ⟨d.C, i, none⟩) (hlive : WgLive d.ty d.Wg w') (hpay : @PayAt d.pay d.C d.n w')
    (hok : ∀ op ∈ MemOp.ofEvents k fn pos es, ∀ x, op.act.touch? = some x → OkT (ShN d.Wg) w.heap.size (fun g => (R g).vis) (fun g => (R g).mine) (crewCel d j) k x)
    (hlow : ∀ op ∈ MemOp.ofEvents k fn pos es, op.act.low w'.heap.size) (hnr : ∀ op ∈ MemOp.ofEvents k fn pos es, op.act ≠ .mark (.release (stA d.Wg)))
    (hkind : k < d.off ∨ ∀ op ∈ MemOp.ofEvents k fn pos es, ∀ x, op.act.touch? = some x → (ShN d.Wg x.loc ∧ x.kind = .atomic) ∨ x.kind ≠ .atomic)
    (hext0 : (upd R k Rk' 0).ext = .crew d j tag') (hdf0 : Deaf (t ++ MemOp.ofEvents k fn pos es) 0 = tag'.deaf) (hjn : j + tag'.p ≤ d.n) (hbd : tag'.bound (Vc j D'))
    (hsit : ∀ i, i < j → d.off + i = k → Sit P d i Rk' (D' i) (rk' i) (val' i) g' w' ∧ Rk'.ext = .hand d i ∧ deafBehind (Deaf t k) es = (D' i).deaf ∧
      ((D' i).stage ≤ 6 → ∃ r, RelBy (stA d.Wg) (t ++ MemOp.ofEvents k fn pos es) k r) ∧ ((D' i).stage ≤ 6 → Has d.C i (val' i) w' ∧ d.Res i Rk'.vis (val' i) w')) :
    Crew P d j tag' (upd R k Rk') ((gs.map (woken P g g' w')).setIfInBounds k g') w' (t ++ MemOp.ofEvents k fn pos es) D' rk' val' q' Shun := by
  letI := d.pay
  have off := h.off
  have hkl : k < gs.size := by rw [h.size]; rcases hk with (rfl | ⟨i, _, rfl⟩) | hk <;> omega
  have hvis : ∀ g b, (upd R k Rk' g).vis b → (R g).vis b ∨ (g = k ∧ w.heap.size ≤ b ∧ b < w'.heap.size) := fun g b hb => by
    by_cases e : g = k
    · subst e; rw [upd_same] at hb; exact (hv b hb).imp id fun x => ⟨rfl, x⟩
    · rw [upd_ne R _ e] at hb; exact .inl hb
  have hmine : ∀ g b, (upd R k Rk' g).mine b → (R g).mine b ∨ (g = k ∧ w.heap.size ≤ b ∧ b < w'.heap.size) := fun g b hb => by
    by_cases e : g = k
    · subst e; rw [upd_same] at hb; exact (hm b hb).imp id fun x => ⟨rfl, x⟩
    · rw [upd_ne R _ e] at hb; exact .inl hb
  have hrw : ∀ i, i < j → d.off + i ≠ k → RW d.ty d.Wg d.C d.n 0 i w w' := fun i hi e => ⟨fun b hb => absurd hb (Nat.not_lt_zero _), fun _ => hlive, fun _ => hpay, hcell i hi e⟩
  have hother : ∀ {k'}, k ≠ k' → Deaf (t ++ MemOp.ofEvents k fn pos es) k' = Deaf t k' := fun e => Deaf_other t e _ g_of_ofEvents
  refine { ext0 := hext0, jn := hjn, n31 := h.n31, off := off, size := by simp [h.size], old := fun k' x h0 h1 hx => ?_, wk := fun i hi => ?_, dfw := fun i hi => ?_, above := fun k' hk' => ?_, deaf0 := hdf0, ext := fun i hi => ?_,
           tg := h.tg.grow (g := k) hB.size (fun k' b hb => ?_) hvis hmine, ti := h.ti.grow h.tg (g := k) hB.size g_of_ofEvents hlow hok hvis hmine, visC := fun g' hg' => ?_, dn := fun g' b hb => ?_, dnw := h.dnw, nob := fun k' h0 h1 b hb => ?_, CW := h.CW, Wlt := Nat.lt_of_lt_of_le h.Wlt hB.size, Clt := Nat.lt_of_lt_of_le h.Clt hB.size,
           shun := fun a ha => ?_, norel := fun op hop => (Array.mem_append.1 hop).elim (h.norel op) (hnr op), rel := fun i hi hs => ?_, has := fun i hi hs => ?_, pay := hpay, bound := hbd, known := fun i a ha hmem => ?_, over := fun i g hgi hne hc => ?_ }
  · by_cases e : k = k'
    · subst e
      rw [get_map_set_same _ _ _ hkl] at hx
      cases hx
      rw [Deaf_own]
      exact hqk h0 h1
    · rw [get_map_set _ _ _ _ e] at hx
      obtain ⟨y, hy, rfl⟩ := Option.map_eq_some_iff.1 hx
      have hq0 := h.old k' y h0 h1 hy
      rw [woken_quitsD hq0, hother e, hq k' h0 h1 (Ne.symm e)]
      exact hq0
  · by_cases e : d.off + i = k
    · exact ⟨g', by rw [e]; exact get_map_set_same _ _ _ hkl, by rw [e, upd_same]; exact (hsit i hi e).1⟩
    · obtain ⟨x, hx, hsx⟩ := h.wk i hi
      obtain ⟨e1, e2, e3⟩ := hsame i hi e
      refine ⟨x, by rw [get_map_set _ _ _ _ (Ne.symm e), hx, Option.map_some, hsx.woken], ?_⟩
      rw [e1, e2, e3, upd_ne R _ e]
      refine hsx.rely (hrw i hi e) ⟨h.keeps hB e, ?_, ?_⟩
      · rw [h.ext i hi]
        exact hrw i hi e
      · rw [h.ext i hi]
        exact ⟨hpay, hlive⟩
  · by_cases e : d.off + i = k
    · rw [← (hsit i hi e).2.2.1, e, Deaf_own]
    · rw [hother (Ne.symm e), h.dfw i hi, (hsame i hi e).1]
  · have : k ≠ k' := by rcases hk with (rfl | ⟨i, _, rfl⟩) | hk <;> omega
    rw [hother this]
    exact h.above k' hk'
  · by_cases e : d.off + i = k
    · rw [e, upd_same]; exact (hsit i hi e).2.1
    · rw [upd_ne R _ e]; exact h.ext i hi
  · by_cases e : k' = k
    · subst e; simp only [upd_same] at hb ⊢; exact hsub b hb
    · simp only [upd_ne R _ e] at hb ⊢; exact h.tg.sub k' b hb
  · rcases hvis g' _ hg' with h1 | ⟨_, h1, _⟩
    · exact h.visC g' h1
    · have := h.Clt; omega
  · rcases hvis g' _ hb with h1 | ⟨_, h1, _⟩
    · exact h.dn g' b h1
    · exact h.dnw b (by have := h.Wlt; omega)
  · by_cases e : k' = k
    · subst e
      rw [upd_same] at hb
      rcases hk with (rfl | ⟨i, _, rfl⟩) | hk
      · omega
      · omega
      · exact h.nob k' h0 h1 b ((hv b hb).resolve_right (hnew hk.2.1 h0 b))
    · rw [upd_ne R _ e] at hb
      exact h.nob k' h0 h1 b hb
  · obtain ⟨a0, e0, h1, h2, h3, h4⟩ := h.shun a ha
    refine ⟨a0, e0, Nat.lt_of_lt_of_le h1 hB.size, h2, h3, fun g hg => ?_⟩
    rcases hvis g _ hg with h5 | ⟨_, h5, _⟩
    · exact h4 g h5
    · omega
  · by_cases e : d.off + i = k
    · rw [e]; exact (hsit i hi e).2.2.2.1 hs
    · rw [(hsame i hi e).1] at hs
      obtain ⟨r, hr⟩ := h.rel i hi hs
      exact ⟨r, hr.appOther g_of_ofEvents (Ne.symm e)⟩
  · by_cases e : d.off + i = k
    · rw [e, upd_same]; exact (hsit i hi e).2.2.2.2 hs
    · obtain ⟨e1, _, e3⟩ := hsame i hi e
      rw [e1] at hs
      rw [e3, upd_ne R _ e]
      obtain ⟨h1, h2⟩ := h.has i hi hs
      exact ⟨(hcell i hi e).trans h1, d.keep (h.keeps hB e).block h2⟩
  · obtain ⟨x, hx, hxa⟩ := touch_of ha
    rcases getElem?_append_cases hx with ⟨hlt, hx'⟩ | ⟨_, hxu⟩
    · rcases h.known i a (by rw [touchAt_of hx']; exact hxa) hmem with h1 | h1 | h1 | ⟨k', h1, h2, h3⟩
      · exact .inl (h1.app _)
      · exact .inr (.inl h1)
      · exact .inr (.inr (.inl h1))
      · exact .inr (.inr (.inr ⟨k', h1, by rw [g?_old hlt]; exact h2, h3⟩))
    · have hg : x.g = k := g_of_ofEvents x hxu
      rcases hk with (rfl | ⟨i', hi', rfl⟩) | hk
      · have := knows_own hx
        rw [hg] at this
        exact .inl this
      · rcases hkind with h0 | hkind
        · omega
        rcases hkind x hxu a hxa with h1 | h1
        · exact .inr (.inr (.inl h1))
        · exact .inr (.inr (.inr ⟨i', hi', by simp [Trace.g?, hx, hg], h1⟩))
      · rw [hk.2.2 x hxu] at hxa; cases hxa
  · obtain ⟨op, hop, hog⟩ := Option.map_eq_some_iff.1 hgi
    rcases getElem?_append_cases hop with ⟨hi, hop'⟩ | ⟨_, hopu⟩
    · rcases h.over i g (by simp [Trace.g?, hop', hog]) hne ((counts_old hi).1 hc) with ⟨m, hm, hb⟩ | h1
      · obtain ⟨z, hz, _⟩ := Option.map_eq_some_iff.1 hm
        exact .inl ⟨m, by rw [g?_old (lt_size_of_getElem? hz)]; exact hm, hb_app _ hb⟩
      · exact .inr h1
    · have hg : op.g = k := g_of_ofEvents op hopu
      rw [hg] at hog
      rcases hk with (rfl | ⟨i', hi', rfl⟩) | hk
      · exact absurd hog.symm hne
      · exact .inr ⟨i', hi', hog.symm⟩
      · obtain ⟨x, hx, _⟩ := hc
        obtain ⟨y, hy, hyx⟩ := touch_of hx
        rw [hop] at hy; cases hy
        rw [hk.2.2 op hopu] at hyx; cases hyx
end

def crewMs (d : CDat) (D : Nat → WD) (rk : Nat → Rk) (q : Nat → Nat) (k : Nat) : Ms := if k < d.off then (1, .zero, q k) else ((D (k - d.off)).stage, rk (k - d.off), (D (k - d.off)).fuel)
def StartAt (a : Goroutine) (ct : CTag) : Prop := (a.status = .running ∧ ct ≠ .blk) ∨ (ct = .blk ∧ ∃ g0 : Goroutine, g0.status = .running ∧ g0.offers = none ∧ a = { g0 with status := .blocked })
def StartBy (a : Goroutine) (ct : CTag) (a' : Goroutine) (ct' : CTag) : Prop := (a' = a ∧ ct' = ct) ∨ (ct = .blk ∧ ct' = .w3 ∧ a'.status = .running ∧ a'.offers = none ∧ a = { a' with status := .blocked })
theorem StartAt.woken {P : Program} {a : Goroutine} {ct : CTag} (h : StartAt a ct) (g g' : Goroutine) (w' : World) :
    ∃ ct', StartBy a ct (woken P g g' w' a) ct' ∧ StartAt (woken P g g' w' a) ct' ∧ (ct' = ct ∨ (ct = .blk ∧ ct' = .w3)) ∧ (mayWake P g = true → g'.status = .running → ct' ≠ .blk) := by
  unfold Go.Conc.woken
  split
  · rcases h with ⟨hs, hne⟩ | ⟨rfl, g0, h1, h2, rfl⟩
    · rw [again_running _ (.inl hs)]
      exact ⟨ct, .inl ⟨rfl, rfl⟩, .inl ⟨hs, hne⟩, .inl rfl, fun _ _ => hne⟩
    · rw [Go.ConcR.again_blocked h1 h2]
      exact ⟨.w3, .inr ⟨rfl, rfl, h1, h2, rfl⟩, .inl ⟨h1, by simp⟩, .inr ⟨rfl, rfl⟩, fun _ _ => by simp⟩
  · rename_i hc
    exact ⟨ct, .inl ⟨rfl, rfl⟩, h, .inl rfl, fun h1 h2 => absurd (by simp [h1, h2]) hc⟩
structure CrewM (P : Program) (d : CDat) (j : Nat) (tag : Tag) (ct : CTag) (R : Nat → Rig) (gs : Array Goroutine) (w : World) (t : Trace) (D : Nat → WD) (rk : Nat → Rk) (val : Nat → Value) (q : Nat → Nat) (Shun : Loc → Prop) : Prop extends Crew P d j tag R gs w t D rk val q Shun where
  mode : ∃ st sm, WgAt d.ty d.Wg w st sm ∧ Go.ConcN.Mode j D ct st sm
  ctp : pend ct = tag.p
theorem okT_book {d : CDat} {B : Nat} {vis mine : Nat → Nat → Prop} {cel : Nat → Addr → Prop} {k : Nat} {fn : FuncId} {pos : String} {es : Array Event} (h : ∀ e ∈ es, Bk d.Wg e) :
    ∀ op ∈ MemOp.ofEvents k fn pos es, ∀ x, op.act.touch? = some x → OkT (ShN d.Wg) B vis mine cel k x ∧ ShN d.Wg x.loc ∧ x.kind = .atomic := by
  intro op hop x hx
  obtain ⟨e, he, rfl⟩ := Go.Conc.mem_ofEvents hop
  rcases h e he with h1 | h1 | ⟨a, wr, rfl, ha⟩
  · simp only [ofEvent_loc_mark h1] at hx; cases hx
  · simp only [ofEvent_loc_mark h1] at hx; cases hx
  · simp only [Go.ConcR.ofEvent_cell, MemAct.touch?, Option.some.injEq] at hx
    subst hx
    exact ⟨.inl ⟨⟨a, rfl, ha⟩, by simp, by simp⟩, ⟨a, rfl, ha⟩, by simp⟩
theorem low_book {Wg B : Nat} {k : Nat} {fn : FuncId} {pos : String} {es : Array Event} (h : ∀ e ∈ es, Bk Wg e) (hW : Wg < B) : ∀ op ∈ MemOp.ofEvents k fn pos es, op.act.low B := by
  intro op hop
  obtain ⟨e, he, rfl⟩ := Go.Conc.mem_ofEvents hop
  rcases h e he with h1 | h1 | ⟨a, wr, rfl, ha⟩
  · simp only [ofEvent_loc_mark h1]; trivial
  · simp only [ofEvent_loc_mark h1]; trivial
  · simp only [Go.ConcR.ofEvent_cell]; show a.block < B; omega
theorem norel_book {Wg : Nat} {k : Nat} {fn : FuncId} {pos : String} {es : Array Event} (h : ∀ e ∈ es, Bk Wg e) : ∀ op ∈ MemOp.ofEvents k fn pos es, op.act ≠ .mark (.release (stA Wg)) := norel_of (norel_of_Bk h)
theorem touch_guar {V : Rig} {n m k : Nat} {fn : FuncId} {pos : String} {es : Array Event} (hal : V.ext ≠ .alone) (h : ∀ e ∈ es, EvG V n m e) : ∀ op ∈ MemOp.ofEvents k fn pos es, (op.act = .mark .noRoom) ∨ ∃ a wr, op.act.touch? = some ⟨.cell a, wr, .plain⟩ ∧ op.act = .access ⟨.cell a, wr, false⟩ ∧ ((V.vis a.block ∧ (wr = true → V.mine a.block)) ∨ (n ≤ a.block ∧ a.block < m)) := by
  intro op hop
  obtain ⟨e, he, rfl⟩ := Go.Conc.mem_ofEvents hop
  rcases h e he with ⟨a, wr, rfl, ha⟩ | ⟨k, rfl, hk⟩ | ⟨h0, _⟩
  · exact .inr ⟨a, wr, by simp [Go.ConcR.ofEvent_cell, MemAct.touch?], by simp [Go.ConcR.ofEvent_cell], ha⟩
  · unfold Neutral at hk
    subst hk
    exact .inl rfl
  · exact absurd h0 hal
theorem Tag.bound_mono {tag : Tag} {v v' : Nat} (h : tag.bound v) (hv : v' ≤ v) : tag.bound v' := by
  cases tag with
  | opn _ _ _ => exact Nat.le_trans hv h
  | _ => trivial
section
variable {P : Program} {d : CDat} {j : Nat} {tag : Tag} {ct : CTag} {R : Nat → Rig} {gs : Array Goroutine} {w : World} {t : Trace} {D : Nat → WD} {rk : Nat → Rk} {val : Nat → Value} {q : Nat → Nat} {Shun : Loc → Prop}
set_option maxHeartbeats 3200000 in
theorem CrewM.other (h : CrewM P d j tag ct R gs w t D rk val q Shun) {a : Goroutine} (ha : gs[0]? = some a) (hst0 : StartAt a ct) {k : Nat} {g : Goroutine} (hk : k ≠ 0) (hg : gs[k]? = some g) (hrun : g.status = .running) (sl : Option (Nat × Nat)) :
    ∃ gs' w' ops, runT P (crowd gs w sl) k = (.next (crowd gs' w' sl), ops) ∧ ∃ ct' R' D' rk' val' q' a', CrewM P d j tag ct' R' gs' w' (t ++ ops) D' rk' val' q' Shun ∧ R' 0 = R 0 ∧ Rely (R 0) w w' ∧ gs'[0]? = some a' ∧ StartBy a ct a' ct' ∧ StartAt a' ct' ∧
      Dec gs.size (crewMs d D' rk' q') (crewMs d D rk q) ∧ gs'.size = gs.size := by
  letI := d.pay
  have hc := h.toCrew
  have off := h.off
  have hk0 : (k == 0) = false := by simpa using hk
  have hkl : k < gs.size := (Array.getElem?_eq_some_iff.1 hg).1
  obtain ⟨st, sm, hwg, hmode⟩ := h.mode
  have fin : ∀ {g' : Goroutine} {w' : World} {es : Array Event} {Rk' : Rig} {D' : Nat → WD} {rk' : Nat → Rk} {val' : Nat → Value} {q' : Nat → Nat}, stepG P false g w = .go g' w' es →
      Crew P d j tag (upd R k Rk') ((gs.map (woken P g g' w')).setIfInBounds k g') w' (t ++ MemOp.ofEvents k g.frame.fn g.frame.place es) D' rk' val' q' Shun → Rely (R 0) w w' →
      (∀ ct', (ct' = ct ∨ (ct = .blk ∧ ct' = .w3)) → (mayWake P g = true → g'.status = .running → ct' ≠ .blk) → ∃ st sm, WgAt d.ty d.Wg w' st sm ∧ Go.ConcN.Mode j D' ct' st sm) → Dec gs.size (crewMs d D' rk' q') (crewMs d D rk q) →
      ∃ gs' w' ops, runT P (crowd gs w sl) k = (.next (crowd gs' w' sl), ops) ∧ ∃ ct' R' D' rk' val' q' a', CrewM P d j tag ct' R' gs' w' (t ++ ops) D' rk' val' q' Shun ∧ R' 0 = R 0 ∧ Rely (R 0) w w' ∧ gs'[0]? = some a' ∧ StartBy a ct a' ct' ∧ StartAt a' ct' ∧
      Dec gs.size (crewMs d D' rk' q') (crewMs d D rk q) ∧ gs'.size = gs.size := by
    intro g' w' es Rk' D' rk' val' q' hgo hcr hrely hmo hdec
    obtain ⟨ct', h1, h2, h3, h4⟩ := hst0.woken (P := P) g g' w'
    refine ⟨_, w', _, runT_crowd_go hg (by rw [hk0]; exact hgo), ct', upd R k Rk', D', rk', val', q', Go.Conc.woken P g g' w' a, ⟨hcr, hmo ct' h3 h4, ?_⟩, upd_ne R _ (Ne.symm hk), hrely, by rw [get_map_set _ _ _ _ hk, ha]; rfl, h1, h2, hdec, by simp⟩
    rcases h3 with rfl | ⟨rfl, rfl⟩
    · exact h.ctp
    · exact h.ctp
  have live : WgLive d.ty d.Wg w := ⟨st, sm, hwg⟩
  by_cases hko : k < d.off
  · -- A LEAVER
    have hq := h.old k g (by omega) hko hg
    cases hqi : q k with
    | zero => rw [hqi] at hq; rw [hq.1] at hrun; cases hrun
    | succ n =>
      rw [hqi] at hq
      rcases hq with ⟨hf, _⟩ | ⟨_, g', es, hm, hstp, hq'⟩
      · rw [hf] at hrun; cases hrun
      have hnt : ∀ op ∈ MemOp.ofEvents k g.frame.fn g.frame.place es, op.act.touch? = none := fun op hop => by obtain ⟨e, he, rfl⟩ := Go.Conc.mem_ofEvents hop; exact touch_mute (hm e he)
      refine fin (hstp w) (D' := D) (rk' := rk) (val' := val) (q' := upd q k n) (Rk' := R k) (hc.step (.inr ⟨by omega, hko, hnt⟩) (fun k' _ _ e => upd_ne q _ e) (fun _ _ => by rw [upd_same]; exact hq') (fun _ _ b => by omega) (fun _ _ _ => ⟨rfl, rfl, rfl⟩)
        (fun b hb => .inl hb) (fun b hb => .inl hb) (h.tg.sub k) (.refl _ _) (fun _ _ _ => rfl) live h.pay (fun op hop x hx => by rw [hnt op hop] at hx; cases hx) (fun op hop => by obtain ⟨e, he, rfl⟩ := Go.Conc.mem_ofEvents hop; exact low_mute (hm e he) _)
        (norel_book fun e he => bk_of_mute (hm e he)) (.inl hko) (by rw [upd_ne R _ (Ne.symm hk)]; exact h.ext0) (by rw [Deaf_other t hk _ g_of_ofEvents]; exact h.deaf0) h.jn h.bound (fun i _ e => by omega)) (.refl (by rw [h.ext0]; trivial)) (fun ct' e _ => ⟨st, sm, hwg, hmode.retag e⟩) ⟨k, hkl, ?_, fun k' hk' => ?_⟩
      · simp only [crewMs, hko, if_true, upd_same, hqi]
        exact .right _ (.right _ (by omega))
      · simp only [crewMs]
        split
        · rw [upd_ne q _ hk']
        · rfl
  -- A HAND
  obtain ⟨i, rfl⟩ : ∃ i, k = d.off + i := ⟨k - d.off, by omega⟩
  have hi : i < j := by rw [h.size] at hkl; omega
  obtain ⟨g₁, hg₁, hs⟩ := h.wk i hi
  obtain rfl : g = g₁ := by rw [hg] at hg₁; exact Option.some.inj hg₁
  have hVj := Vc_le j D
  have hdk : Deaf t (d.off + i) = (D i).deaf := h.dfw i hi
  have hCne : d.C ≠ d.Wg := h.CW
  have hand : ∀ {g' : Goroutine} {w' : World} {es : Array Event} {x : WD} {r' : Rk} {v' : Value}, stepG P false g w = .go g' w' es → RelyB (fun b => b < w.heap.size ∧ b ≠ d.Wg ∧ b ≠ d.C ∧ ¬ (R (d.off + i)).mine b) w w' →
      (∀ i', i' ≠ i → w'.cell? ⟨d.C, i', none⟩ = w.cell? ⟨d.C, i', none⟩) → WgLive d.ty d.Wg w' → PayAt d.C d.n w' →
      (∀ op ∈ MemOp.ofEvents (d.off + i) g.frame.fn g.frame.place es, ∀ x, op.act.touch? = some x → OkT (ShN d.Wg) w.heap.size (fun g => (R g).vis) (fun g => (R g).mine) (crewCel d j) (d.off + i) x) →
      (∀ op ∈ MemOp.ofEvents (d.off + i) g.frame.fn g.frame.place es, op.act.low w'.heap.size) → (∀ op ∈ MemOp.ofEvents (d.off + i) g.frame.fn g.frame.place es, op.act ≠ .mark (.release (stA d.Wg))) →
      (∀ op ∈ MemOp.ofEvents (d.off + i) g.frame.fn g.frame.place es, ∀ x, op.act.touch? = some x → (ShN d.Wg x.loc ∧ x.kind = .atomic) ∨ x.kind ≠ .atomic) →
      Sit P d i ((R (d.off + i)).grow w.heap.size w'.heap.size) x r' v' g' w' → deafBehind (D i).deaf es = x.deaf → (x.stage ≤ 6 → ∃ r, RelBy (stA d.Wg) (t ++ MemOp.ofEvents (d.off + i) g.frame.fn g.frame.place es) (d.off + i) r) →
      (x.stage ≤ 6 → Has d.C i v' w' ∧ d.Res i ((R (d.off + i)).grow w.heap.size w'.heap.size).vis v' w') → Vc j (upd D i x) ≤ Vc j D →
      (∀ ct', (ct' = ct ∨ (ct = .blk ∧ ct' = .w3)) → (mayWake P g = true → g'.status = .running → ct' ≠ .blk) → ∃ st sm, WgAt d.ty d.Wg w' st sm ∧ Go.ConcN.Mode j (upd D i x) ct' st sm) → Ms.lt (x.stage, r', x.fuel) ((D i).stage, rk i, (D i).fuel) →
      ∃ gs' w' ops, runT P (crowd gs w sl) (d.off + i) = (.next (crowd gs' w' sl), ops) ∧ ∃ ct' R' D' rk' val' q' a', CrewM P d j tag ct' R' gs' w' (t ++ ops) D' rk' val' q' Shun ∧ R' 0 = R 0 ∧ Rely (R 0) w w' ∧ gs'[0]? = some a' ∧ StartBy a ct a' ct' ∧ StartAt a' ct' ∧
      Dec gs.size (crewMs d D' rk' q') (crewMs d D rk q) ∧ gs'.size = gs.size := by
    intro g' w' es x r' v' hgo hB hcell hlive hpay hok hlow hnr hkind hsit hdf hrel hhas hV hmo hlt
    refine fin hgo (Rk' := (R (d.off + i)).grow w.heap.size w'.heap.size) (D' := upd D i x) (rk' := upd rk i r') (val' := upd val i v') (q' := q) (hc.step (.inl (.inr ⟨i, hi, rfl⟩)) (fun _ _ _ _ => rfl) (fun _ e => by omega) (fun e => by omega) (fun i' _ e => ?_) (fun b hb => hb) (fun b hb => hb) (fun b hb => hb.imp (h.tg.sub _ b) id) hB
      (fun i' _ e => hcell i' (by omega)) hlive hpay hok hlow hnr (.inr hkind) (by rw [upd_ne R _ (Ne.symm hk)]; exact h.ext0) (by rw [Deaf_other t hk _ g_of_ofEvents]; exact h.deaf0) h.jn (Tag.bound_mono h.bound hV) (fun i' _ e => ?_))
      ⟨hc.keeps hB (Ne.symm hk), by rw [h.ext0]; exact fun _ => hlive, by rw [h.ext0]; trivial⟩ hmo ⟨d.off + i, hkl, ?_, fun k' hk' => ?_⟩
    · have : i' ≠ i := by omega
      rw [upd_ne D _ this, upd_ne rk _ this, upd_ne val _ this]
      exact ⟨rfl, rfl, rfl⟩
    · obtain rfl : i' = i := by omega
      rw [upd_same, upd_same, upd_same, hdk]
      exact ⟨hsit, h.ext i' hi, hdf, hrel, hhas⟩
    · have e1 : ¬ (d.off + i < d.off) := by omega
      simp only [crewMs, e1, if_false, Nat.add_sub_cancel_left, upd_same]
      exact hlt
    · simp only [crewMs]
      split
      · rfl
      · have : k' - d.off ≠ i := by omega
        rw [upd_ne D _ this, upd_ne rk _ this]
  rcases hs with ⟨h7, hde, htree⟩ | ⟨h6, hs⟩
  · have hcnt : ∀ s' m' dd', s' = 7 → Vc j (upd D i ⟨s', m', dd'⟩) ≤ Vc j D := by
      rintro s' m' dd' rfl
      have := Vc_upd D (⟨7, m', dd'⟩ : WD) hi
      have c1 : Go.ConcN.cnt (D i) = 1 := by simp [Go.ConcN.cnt, h7]
      have c2 : Go.ConcN.cnt (⟨7, m', dd'⟩ : WD) = 1 := by simp [Go.ConcN.cnt]
      omega
    rcases htree.cases (by rw [h.ext i hi]; exact ⟨h.pay, live⟩) with hstop | ⟨r', hr', g', w', es, hgo, hgu, htree'⟩
    · -- IT HANDS IN
      obtain ⟨v, ⟨_, hhas, g', hgo, m, hk1⟩, hres⟩ := hstop
      have hbk : ∀ op ∈ MemOp.ofEvents (d.off + i) g.frame.fn g.frame.place #[Go.ConcR.mk (.releaseMerge (stA d.Wg))], op.act = .mark (.releaseMerge (stA d.Wg)) := by
        intro op hop
        obtain ⟨e, he, rfl⟩ := Go.Conc.mem_ofEvents hop
        simp at he; subst he; rfl
      have e0 : (R (d.off + i)).grow w.heap.size w.heap.size = R (d.off + i) := Rig.grow_self _ _
      refine hand hgo (x := ⟨6, m, 0⟩) (r' := rk i) (v' := v) (.refl _ _) (fun _ _ => rfl) live h.pay (fun op hop x hx => by rw [hbk op hop] at hx; cases hx) (fun op hop => by rw [hbk op hop]; exact h.Wlt) (fun op hop => by rw [hbk op hop]; simp)
        (fun op hop x hx => by rw [hbk op hop] at hx; cases hx) (.inr ⟨by simp, .k1 hk1⟩) (by rw [hde]; rfl) (fun _ => ⟨t.size, RelBy.new (by rw [hdk, hde]) _ _⟩) (fun _ => ⟨by simpa using hhas, by rw [e0]; exact hres⟩) ?_
        (fun ct' e _ => ⟨st, sm, hwg, (hmode.counted hi (by omega) (.inl rfl) _ _).retag e⟩) (.left _ _ (by rw [h7]; simp))
      have := Vc_upd D (⟨6, m, 0⟩ : WD) hi
      have c1 : Go.ConcN.cnt (D i) = 1 := by simp [Go.ConcN.cnt, h7]
      have c2 : Go.ConcN.cnt (⟨6, m, 0⟩ : WD) = 1 := by simp [Go.ConcN.cnt]
      omega
    · have hmo : ∀ {w' : World}, w'.heap[d.Wg]? = w.heap[d.Wg]? → ∀ ct', (ct' = ct ∨ (ct = .blk ∧ ct' = .w3)) → (mayWake P g = true → g'.status = .running → ct' ≠ .blk) → ∃ st sm, WgAt d.ty d.Wg w' st sm ∧ Go.ConcN.Mode j (upd D i ⟨7, (D i).fuel, 0⟩) ct' st sm :=
        fun e ct' e' _ => ⟨st, sm, hwg.of_block e, Mode.retag (by have := hmode.same (i := i) (D i).fuel 0; rwa [h7] at this) e'⟩
      rcases hgu with hgu | hact
      · have hW : w'.heap[d.Wg]? = w.heap[d.Wg]? := hgu.block _ h.Wlt fun hm => hc.visW _ (h.tg.sub _ _ hm)
        have hC : w'.heap[d.C]? = w.heap[d.C]? := hgu.block _ h.Clt fun hm => h.visC _ (h.tg.sub _ _ hm)
        have hal : (R (d.off + i)).ext ≠ .alone := by rw [h.ext i hi]; exact fun e => by cases e
        have htg := touch_guar (k := d.off + i) (fn := g.frame.fn) (pos := g.frame.place) hal hgu.evs
        obtain ⟨cs, hp1, hp2⟩ := h.pay
        refine hand hgo (x := ⟨7, (D i).fuel, 0⟩) (r' := r') (v' := val i) ⟨hgu.os, hgu.tape, hgu.output, hgu.size, fun b hb => hgu.block b hb.1 hb.2.2.2⟩ (fun i' _ => cell_of_block hC i') ⟨st, sm, hwg.of_block hW⟩ ⟨cs, hC.trans hp1, hp2⟩ (fun op hop x hx => ?_) (fun op hop => ?_) (fun op hop => ?_) (fun op hop x hx => ?_)
          (.inl ⟨rfl, rfl, htree'⟩) ?_ (fun h => absurd h (by simp)) (fun h => absurd h (by simp)) (hcnt _ _ _ rfl) (hmo hW) ?_
        · rcases htg op hop with e | ⟨a, wr, e1, _, e3⟩
          · rw [e] at hx; cases hx
          · rw [e1] at hx; cases hx
            exact .inr ⟨a, rfl, rfl, e3.elim .inl fun e => .inr (.inr e.1)⟩
        · rcases htg op hop with e | ⟨a, wr, _, e2, e3⟩
          · rw [e]; trivial
          · rw [e2]
            rcases e3 with e3 | e3
            · exact Nat.lt_of_lt_of_le (h.tg.lt _ _ e3.1) hgu.size
            · exact e3.2
        · rcases htg op hop with e | ⟨a, wr, _, e2, e3⟩
          · rw [e]; simp
          · rw [e2]; simp
        · rcases htg op hop with e | ⟨a, wr, e1, _, e3⟩
          · rw [e] at hx; cases hx
          · rw [e1] at hx; cases hx
            exact .inr (by simp)
        · rw [hde]
          refine deafBehind_idle (fun e he => ?_) 0
          rcases hgu.evs e he with ⟨a, wr, rfl, _⟩ | ⟨k, rfl, hk⟩ | ⟨h0, _⟩
          · simp
          · unfold Neutral at hk; subst hk; simp
          · exact absurd h0 hal
        · rw [h7]; exact .right _ (.left _ _ hr')
      · rw [h.ext i hi] at hact
        obtain ⟨hac, hev⟩ := hact
        have hW : w'.heap[d.Wg]? = w.heap[d.Wg]? := hac.block _ (Ne.symm hCne)
        have hev' : ∀ op ∈ MemOp.ofEvents (d.off + i) g.frame.fn g.frame.place es, op.act = .mark .noRoom ∨ op.act = .access ⟨.cell ⟨d.C, i, none⟩, true, false⟩ := by
          intro op hop
          obtain ⟨e, he, rfl⟩ := Go.Conc.mem_ofEvents hop
          rcases hev e he with rfl | ⟨k, rfl, hk⟩
          · exact .inr rfl
          · unfold Neutral at hk; subst hk; exact .inl rfl
        have hin : i < d.n := by have := h.jn; omega
        refine hand hgo (x := ⟨7, (D i).fuel, 0⟩) (r' := r') (v' := val i) ⟨hac.os, hac.tape, hac.output, by rw [hac.size]; exact Nat.le_refl _, fun b hb => hac.block b hb.2.2.1⟩ (fun i' e => hac.cells i' e) ⟨st, sm, hwg.of_block hW⟩ (hac.pay h.pay) (fun op hop x hx => ?_) (fun op hop => ?_) (fun op hop => ?_) (fun op hop x hx => ?_)
          (.inl ⟨rfl, rfl, htree'⟩) ?_ (fun h => absurd h (by simp)) (fun h => absurd h (by simp)) (hcnt _ _ _ rfl) (hmo hW) ?_
        · rcases hev' op hop with e | e
          · rw [e] at hx; cases hx
          · rw [e] at hx; cases hx
            exact .inr ⟨⟨d.C, i, none⟩, rfl, rfl, .inr (.inl ⟨i, hin, rfl, .inr ⟨rfl, hi⟩⟩)⟩
        · rcases hev' op hop with e | e
          · rw [e]; trivial
          · rw [e]; show d.C < _; rw [hac.size]; exact h.Clt
        · rcases hev' op hop with e | e <;> rw [e] <;> simp
        · rcases hev' op hop with e | e
          · rw [e] at hx; cases hx
          · rw [e] at hx; cases hx
            exact .inr (by simp)
        · rw [hde]
          refine deafBehind_idle (fun e he => ?_) 0
          rcases hev e he with rfl | ⟨k, rfl, hk⟩
          · simp
          · unfold Neutral at hk; subst hk; simp
        · rw [h7]; exact .right _ (.left _ _ hr')
  · have h6r := h.rel i hi h6
    obtain ⟨hhas, hres⟩ := h.has i hi h6
    generalize hst : (D i).stage = s at hs h6
    generalize hfu : (D i).fuel = m at hs
    generalize hde : (D i).deaf = dd at hs
    have hdk' : Deaf t (d.off + i) = dd := by rw [hdk, hde]
    have bookG : ∀ {g' : Goroutine} {w' : World} {es : Array Event} {s' m' dd' : Nat} {st' sm' : Int}, stepG P false g w = .go g' w' es → Aside d.Wg w w' → WgAt d.ty d.Wg w' st' sm' → (∀ e ∈ es, Bk d.Wg e) →
        (∀ jx e, es[jx]? = some e → (MemAct.ofEvent e).touch? = none ∨ 0 < deafBehind dd (es.extract 0 jx)) → WSit P d.ty d.Wg d.C d.n (fun _ _ => False) (fun _ _ => False) 0 (i + 1) (val i) s' m' dd' g' w' → deafBehind dd es = dd' → s' ≤ 6 →
        (∀ ct', (ct' = ct ∨ (ct = .blk ∧ ct' = .w3)) → (mayWake P g = true → g'.status = .running → ct' ≠ .blk) → Go.ConcN.Mode j (upd D i ⟨s', m', dd'⟩) ct' st' sm') → ((s' < s ∧ Go.ConcN.cnt ⟨s', m', dd'⟩ ≤ Go.ConcN.cnt (D i)) ∨ (s' = s ∧ m' + 1 = m)) →
        ∃ gs' w' ops, runT P (crowd gs w sl) (d.off + i) = (.next (crowd gs' w' sl), ops) ∧ ∃ ct' R' D' rk' val' q' a', CrewM P d j tag ct' R' gs' w' (t ++ ops) D' rk' val' q' Shun ∧ R' 0 = R 0 ∧ Rely (R 0) w w' ∧ gs'[0]? = some a' ∧ StartBy a ct a' ct' ∧ StartAt a' ct' ∧
        Dec gs.size (crewMs d D' rk' q') (crewMs d D rk q) ∧ gs'.size = gs.size := by
      intro g' w' es s' m' dd' st' sm' hgo hAs hwg' hbk hd hs' hdd h6' hmode' hlt
      have e0 : (R (d.off + i)).grow w.heap.size w'.heap.size = R (d.off + i) := by rw [hAs.size, Rig.grow_self]
      have hC : w'.heap[d.C]? = w.heap[d.C]? := hAs.block _ hCne
      obtain ⟨cs, hp1, hp2⟩ := h.pay
      refine hand hgo (x := ⟨s', m', dd'⟩) (r' := rk i) (v' := val i) ⟨hAs.os, hAs.tape, hAs.output, by rw [hAs.size]; exact Nat.le_refl _, fun b hb => hAs.block b hb.2.1⟩ (fun i' _ => cell_of_block hC i') ⟨_, _, hwg'⟩ ⟨cs, hC.trans hp1, hp2⟩
        (fun op hop x hx => (okT_book hbk op hop x hx).1) (low_book hbk (by rw [hAs.size]; exact h.Wlt)) (norel_book hbk) (fun op hop x hx => .inl (okT_book (B := 0) (vis := fun _ _ => False) (mine := fun _ _ => False) (cel := fun _ _ => False) hbk op hop x hx).2)
        (.inr ⟨h6', hs'⟩) (by rw [hde]; exact hdd) (fun _ => let ⟨r, hr⟩ := h6r; ⟨r, hr.book hdk' _ _ hbk hd⟩) (fun _ => ⟨(cell_of_block hC i).trans hhas, by rw [e0]; exact d.keep (fun b hb => hAs.block b fun e => hc.visW _ (e ▸ hb)) hres⟩) ?_
        (fun ct' e1 e2 => ⟨_, _, hwg', hmode' ct' e1 e2⟩) ?_
      · have := Vc_upd D (⟨s', m', dd'⟩ : WD) hi
        rcases hlt with ⟨_, h1⟩ | ⟨h1, _⟩
        · omega
        · have : Go.ConcN.cnt (⟨s', m', dd'⟩ : WD) = Go.ConcN.cnt (D i) := by simp only [Go.ConcN.cnt, h1, hst]
          omega
      · rw [hst, hfu]
        rcases hlt with ⟨h1, _⟩ | ⟨rfl, h1⟩
        · exact .left _ _ h1
        · exact .right _ (.right _ (by show m' < m; omega))
    have book : ∀ {g' : Goroutine} {w' : World} {es : Array Event} {s' m' dd' : Nat} {st' sm' : Int}, stepG P false g w = .go g' w' es → Aside d.Wg w w' → WgAt d.ty d.Wg w' st' sm' → (∀ e ∈ es, Bk d.Wg e) →
        (∀ jx e, es[jx]? = some e → (MemAct.ofEvent e).touch? = none ∨ 0 < deafBehind dd (es.extract 0 jx)) → WSit P d.ty d.Wg d.C d.n (fun _ _ => False) (fun _ _ => False) 0 (i + 1) (val i) s' m' dd' g' w' → deafBehind dd es = dd' → s' ≤ 6 →
        Go.ConcN.Mode j (upd D i ⟨s', m', dd'⟩) ct st' sm' → ((s' < s ∧ Go.ConcN.cnt ⟨s', m', dd'⟩ ≤ Go.ConcN.cnt (D i)) ∨ (s' = s ∧ m' + 1 = m)) →
        ∃ gs' w' ops, runT P (crowd gs w sl) (d.off + i) = (.next (crowd gs' w' sl), ops) ∧ ∃ ct' R' D' rk' val' q' a', CrewM P d j tag ct' R' gs' w' (t ++ ops) D' rk' val' q' Shun ∧ R' 0 = R 0 ∧ Rely (R 0) w w' ∧ gs'[0]? = some a' ∧ StartBy a ct a' ct' ∧ StartAt a' ct' ∧
        Dec gs.size (crewMs d D' rk' q') (crewMs d D rk q) ∧ gs'.size = gs.size :=
      fun hgo hAs hwg' hbk hd hs' hdd h6' hmode' hlt => bookG hgo hAs hwg' hbk hd hs' hdd h6' (fun _ ht _ => hmode'.retag ht) hlt
    have idle : ∀ {g' : Goroutine} {m' : Nat}, stepG P false g w = .go g' w #[] → WSit P d.ty d.Wg d.C d.n (fun _ _ => False) (fun _ _ => False) 0 (i + 1) (val i) s m' dd g' w → m' + 1 = m → 
        ∃ gs' w' ops, runT P (crowd gs w sl) (d.off + i) = (.next (crowd gs' w' sl), ops) ∧ ∃ ct' R' D' rk' val' q' a', CrewM P d j tag ct' R' gs' w' (t ++ ops) D' rk' val' q' Shun ∧ R' 0 = R 0 ∧ Rely (R 0) w w' ∧ gs'[0]? = some a' ∧ StartBy a ct a' ct' ∧ StartAt a' ct' ∧
        Dec gs.size (crewMs d D' rk' q') (crewMs d D rk q) ∧ gs'.size = gs.size := by
      intro g' m' hgo hs' hm
      exact book hgo (.refl d.Wg w) hwg (by simp) (by simp) hs' rfl h6 (by have := hmode.same (i := i) m' dd; rwa [hst] at this) (.inr ⟨rfl, hm⟩)
    cases hs with
    | r0 _ => omega
    | k1 h' =>
      rcases Goes.cases h' with hstop | ⟨m', rfl, hstep⟩
      · obtain ⟨_, g', hgo, m₂, hk1⟩ := hstop w (RW.refl w)
        exact book hgo (.refl d.Wg w) hwg (by intro e he; simp at he; subst he; exact .inl rfl) (by intro jx e he; exact .inl (by have := Array.mem_of_getElem? he; simp at this; subst this; rfl)) (.d1 hk1) rfl (by omega)
          (hmode.counted hi (by omega) (.inr rfl) _ _) (.inl ⟨by omega, by simp [Go.ConcN.cnt, hst]⟩)
      · obtain ⟨g', w', es, hgo, ⟨rfl, rfl⟩, hg'⟩ := hstep w (RW.refl w)
        exact idle hgo (.k1 hg') rfl
    | d1 h' =>
      rcases Goes.cases h' with hstop | ⟨m', rfl, hstep⟩
      · obtain ⟨_, hall⟩ := hstop w (RW.refl w)
        have hc1 : Go.ConcN.cnt (D i) = 1 := by simp [Go.ConcN.cnt, hst]
        have hV1 : 1 ≤ Vc j D := by have := le_sumTo (f := fun x => Go.ConcN.cnt (D x)) hi; simp only [Vc]; omega
        have hjn := h.jn
        have hn31 := h.n31
        have hctp := h.ctp
        have bk2 : ∀ e ∈ #[rd (stA d.Wg), wr (stA d.Wg)], Bk d.Wg e := by intro e he; simp at he; rcases he with rfl | rfl <;> exact bk_cell _ _ rfl
        have df2 : ∀ jx e, (#[rd (stA d.Wg), wr (stA d.Wg)] : Array Event)[jx]? = some e → (MemAct.ofEvent e).touch? = none ∨ 0 < deafBehind 1 ((#[rd (stA d.Wg), wr (stA d.Wg)] : Array Event).extract 0 jx) := by
          intro jx e he
          match jx, he with
          | 0, _ => exact .inr (by simp [deafBehind])
          | 1, _ => exact .inr (by simp [deafBehind, rd])
          | jx + 2, he => simp at he
        have hq0 : ∀ q, Go.ConcN.cnt (⟨1, q, 1⟩ : WD) = 0 := fun _ => rfl
        have opq : ∀ q, OpenSt j D → OpenSt j (upd D i ⟨1, q, 1⟩) := fun q h a ha => by
          by_cases e : a = i
          · subst e; rw [upd_same]; simp
          · rw [upd_ne D _ e]; exact h a ha
        cases hmode with
        | opn h1 h2 h3 =>
          obtain ⟨v, hv⟩ : ∃ v, Vc j D + pend ct = v + 1 := ⟨Vc j D + pend ct - 1, by omega⟩
          rw [hv] at hwg
          have hw1 : WgAt d.ty d.Wg w (((v : Nat) + 1) * KK + ((0 : Nat) : Int)) 0 := by simpa using hwg
          obtain ⟨g', hgo, _, hq⟩ := hall v 0 (by omega) (by omega) hw1
          obtain ⟨q, hq⟩ := hq (by omega)
          have hv' : Vc j (upd D i ⟨1, q, 1⟩) + pend ct = v := by have := Vc_upd D (⟨1, q, 1⟩ : WD) hi; have := hq0 q; omega
          refine book hgo (aside_setCell w (stA d.Wg) _) (hwg.setSt _) bk2 df2 (.quit hq) rfl (by omega) ?_ (.inl ⟨by omega, by simp [Go.ConcN.cnt]⟩)
          have e : ((v : Nat) : Int) * KK + ((0 : Nat) : Int) = ((Vc j (upd D i ⟨1, q, 1⟩) + pend ct : Nat) : Int) * KK := by rw [hv']; simp
          rw [e]
          exact .opn h1 (opq q h2) (fun vs ev => by have := h3 vs ev; omega)
        | reg h1 h2 h3 =>
          obtain ⟨v, hv⟩ : ∃ v, Vc j D = v + 1 := ⟨Vc j D - 1, by omega⟩
          rw [hv] at hwg
          have hw1 : WgAt d.ty d.Wg w (((v : Nat) + 1) * KK + ((1 : Nat) : Int)) 0 := by simpa using hwg
          obtain ⟨g', hgo, hl, hq⟩ := hall v 1 (by omega) (by omega) hw1
          by_cases hv0 : v = 0
          · subst hv0
            obtain ⟨m₂, hk1⟩ := hl ⟨rfl, rfl⟩
            refine book hgo (aside_setCell w (stA d.Wg) _) (hwg.setSt _) bk2 df2 (.d2 hk1) rfl (by omega) ?_ (.inl ⟨by omega, by simp [Go.ConcN.cnt]⟩)
            have hoth : ∀ a, a < j → a ≠ i → (D a).stage = 1 := fun a ha e => by
              have c0 := others_uncounted hi hv hc1 a ha e
              have := h2 a ha
              simp only [Go.ConcN.cnt] at c0
              split at c0 <;> omega
            have := Mode.last (j := j) (D := upd D i ⟨4, m₂, 1⟩) (tag := ct) i h1 hi (by rw [upd_same]; simp) (fun a ha e => by rw [upd_ne D _ e]; exact hoth a ha e)
            rw [upd_same] at this
            simpa using this
          · obtain ⟨q, hq⟩ := hq (by omega)
            have hv' : Vc j (upd D i ⟨1, q, 1⟩) = v := by have := Vc_upd D (⟨1, q, 1⟩ : WD) hi; have := hq0 q; omega
            refine book hgo (aside_setCell w (stA d.Wg) _) (hwg.setSt _) bk2 df2 (.quit hq) rfl (by omega) ?_ (.inl ⟨by omega, by simp [Go.ConcN.cnt]⟩)
            have e : ((v : Nat) : Int) * KK + ((1 : Nat) : Int) = ((Vc j (upd D i ⟨1, q, 1⟩) : Nat) : Int) * KK + 1 := by rw [hv']; simp
            rw [e]
            exact .reg h1 (opq q h2) (by omega)
        | last L _ h2 h3 h4 =>
          by_cases e : i = L
          · subst e; omega
          · have := h4 i hi e; omega
        | sema h2 => have := h2 i hi; omega
        | fin _ h2 => have := h2 i hi; omega
      · obtain ⟨g', w', es, hgo, ⟨rfl, rfl⟩, hg'⟩ := hstep w (RW.refl w)
        exact idle hgo (.d1 hg') rfl
    | d2 h' =>
      rcases Goes.cases h' with hstop | ⟨m', rfl, hstep⟩
      · obtain ⟨_, hx⟩ := hstop w (RW.refl w)
        obtain ⟨hW3, hoth, rfl, rfl⟩ := hmode.isLast hi (by omega)
        simp only [hst] at hwg
        obtain ⟨g', hgo, m₂, hk1⟩ := hx (by simpa using hwg)
        refine book hgo (.refl d.Wg w) hwg (by intro e he; simp at he; subst he; exact bk_cell _ _ rfl) (by intro jx e he; match jx, he with | 0, _ => exact .inr (by simp [deafBehind]) | jx + 1, he => simp at he) (.d3 hk1) rfl (by omega) ?_ (.inl ⟨by omega, by simp [Go.ConcN.cnt]⟩)
        have := Mode.last (j := j) (D := upd D i ⟨3, m₂, 1⟩) (tag := ct) i hW3 hi (by rw [upd_same]; simp) (fun a ha e => by rw [upd_ne D _ e]; exact hoth a ha e)
        rw [upd_same] at this
        simpa using this
      · obtain ⟨g', w', es, hgo, ⟨rfl, rfl⟩, hg'⟩ := hstep w (RW.refl w)
        exact idle hgo (.d2 hg') rfl
    | d3 h' =>
      rcases Goes.cases h' with hstop | ⟨m', rfl, hstep⟩
      · obtain ⟨_, hx⟩ := hstop w (RW.refl w)
        obtain ⟨hW3, hoth, rfl, rfl⟩ := hmode.isLast hi (by omega)
        simp only [hst] at hwg
        obtain ⟨g', hgo, m₂, hk1⟩ := hx (by simpa using hwg)
        refine book hgo (aside_setCell w (stA d.Wg) _) (hwg.setSt 0) (by intro e he; simp at he; subst he; exact bk_cell _ _ rfl) (by intro jx e he; match jx, he with | 0, _ => exact .inr (by simp [deafBehind]) | jx + 1, he => simp at he) (.d4 hk1) rfl (by omega) ?_ (.inl ⟨by omega, by simp [Go.ConcN.cnt]⟩)
        have := Mode.last (j := j) (D := upd D i ⟨2, m₂, 1⟩) (tag := ct) i hW3 hi (by rw [upd_same]; simp) (fun a ha e => by rw [upd_ne D _ e]; exact hoth a ha e)
        rw [upd_same] at this
        simpa using this
      · obtain ⟨g', w', es, hgo, ⟨rfl, rfl⟩, hg'⟩ := hstep w (RW.refl w)
        exact idle hgo (.d3 hg') rfl
    | d4 h' =>
      rcases Goes.cases h' with hstop | ⟨m', rfl, hstep⟩
      · obtain ⟨_, hmw, hx⟩ := hstop w (RW.refl w)
        obtain ⟨hW3, hoth, rfl, rfl⟩ := hmode.isLast hi (by omega)
        simp only [hst] at hwg
        obtain ⟨g', hgo, q, hq⟩ := hx (by simpa using hwg)
        have hrun' : g'.status = .running := by
          cases q with
          | zero => exact absurd hq.2 (by decide)
          | succ q => exact hq.elim (fun x => absurd x.2 (by decide)) (fun x => x.1)
        refine bookG hgo (aside_setCell w (smA d.Wg) _) (hwg.setSm 1) (es := semEvents (smA d.Wg)) ?_ ?_ (.quit hq) (by simp [deafBehind, semEvents]) (by omega) ?_ (.inl ⟨by omega, by simp [Go.ConcN.cnt]⟩)
        · intro e he
          simp [semEvents] at he
          rcases he with rfl | rfl | rfl | rfl
          · exact .inl rfl
          · exact bk_cell _ _ rfl
          · exact bk_cell _ _ rfl
          · exact .inr (.inl rfl)
        · intro jx e he
          match jx, he with
          | 0, he => simp [semEvents] at he; subst he; exact .inl rfl
          | 1, _ => exact .inr (by simp [deafBehind, semEvents])
          | 2, _ => exact .inr (by simp [deafBehind, semEvents])
          | 3, he => simp [semEvents] at he; subst he; exact .inl rfl
          | jx + 4, he => simp [semEvents] at he
        · intro tag' ht hw
          have hnb := hw hmw hrun'
          have e3 : tag' = .w3 := by
            rcases ht with rfl | ⟨_, rfl⟩
            · cases tag' <;> first | rfl | exact hW3.elim | exact absurd rfl hnb
            · rfl
          subst e3
          simp only [if_true]
          exact .sema fun a ha => by
            by_cases e : a = i
            · subst e; rw [upd_same]
            · rw [upd_ne D _ e]; exact hoth a ha e
      · obtain ⟨g', w', es, hgo, ⟨rfl, rfl⟩, hg'⟩ := hstep w (RW.refl w)
        exact idle hgo (.d4 hg') rfl
    | quit h' =>
      cases m with
      | zero => rw [h'.1] at hrun; cases hrun
      | succ q =>
        rcases h' with ⟨hf, _⟩ | ⟨_, g', es, hmute, hstep, hq⟩
        · rw [hf] at hrun; cases hrun
        · have hbk : ∀ e ∈ es, Bk d.Wg e := fun e he => bk_of_mute (hmute e he)
          have hno : ∀ jx e, es[jx]? = some e → (MemAct.ofEvent e).touch? = none ∨ 0 < deafBehind dd (es.extract 0 jx) := fun jx e he => .inl (touch_mute (hmute e (Array.mem_of_getElem? he)))
          exact book (hstep w) (.refl d.Wg w) hwg hbk hno (.quit hq) rfl (by omega) (by have := hmode.same (i := i) q (deafBehind dd es); rwa [hst] at this) (.inr ⟨rfl, rfl⟩)
end
end Go.Eng

namespace Go.Eng
open Go Go.Conc Go.ConcN
open Go.ConcR (KK wgBlock WgAt stA smA rd wr DC0 Bk g_of_ofEvents bk_of_mute ofEvent_loc_mark)

def Back (P : Program) (F : Machine → Trace → Prop) : Prop := ∀ m t m' ops, stepT P m = (.next m', ops) → F m' (t ++ ops) → F m t
section
variable {P : Program} {d : CDat} {j : Nat} {tag : Tag} {ct : CTag} {R : Nat → Rig} {gs : Array Goroutine} {w : World} {t : Trace} {D : Nat → WD} {rk : Nat → Rk} {val : Nat → Value} {q : Nat → Nat} {Shun : Loc → Prop} {F : Machine → Trace → Prop}
theorem Rely.at {V : Rig} {w : World} (hl : V.ext.live w) (n : Nat) : Rely V w (w.at n) := by
  refine ⟨⟨rfl, rfl, rfl, Nat.le_refl _, fun _ _ => rfl⟩, ?_, ?_⟩
  · cases V.ext with
    | alone => trivial
    | crew d j tag => exact id
    | hand d i => letI := d.pay; exact RW.at w n
  · revert hl
    cases V.ext with
    | hand d i => exact id
    | _ => exact id
theorem CrewM.at (h : CrewM P d j tag ct R gs w t D rk val q Shun) (n : Nat) : CrewM P d j tag ct R gs (w.at n) t D rk val q Shun := by
  letI := d.pay
  exact { h with
    wk := fun i hi => let ⟨g, hg, hs⟩ := h.wk i hi; ⟨g, hg, hs.rely (RW.at w n) (Rely.at (by rw [h.ext i hi]; exact ⟨h.pay, let ⟨st, sm, k, _⟩ := h.mode; ⟨st, sm, k⟩⟩) n)⟩
    has := fun i hi hs => ⟨(h.has i hi hs).1, d.keep (w := w) (w₁ := w.at n) (fun _ _ => rfl) (h.has i hi hs).2⟩ }
theorem Tag.k_ne (tag : Tag) : tag.k ≠ .blk := by
  cases tag with
  | opn p _ _ => simp only [Tag.k]; split <;> simp
  | reg => simp [Tag.k]
  | fin _ => simp [Tag.k]
theorem Crew.awake (h : Crew P d j tag R gs w t D rk val q Shun) {a : Goroutine} (h0 : gs[0]? = some a) (ha : a.status = .running ∨ a.status = .blocked) : ∀ g ∈ gs, Go.Conc.awake g := by
  intro g hg
  obtain ⟨i, hi, rfl⟩ := Array.mem_iff_getElem.1 hg
  rcases Nat.eq_zero_or_pos i with rfl | hpos
  · have : gs[0] = a := by simpa [Array.getElem?_eq_getElem hi] using h0
    rw [this]; exact awake_of (ha.imp id .inl)
  · rcases Nat.lt_or_ge i d.off with hlt | hge
    · exact awake_of ((h.old i _ hpos hlt (Array.getElem?_eq_getElem hi)).status.imp id .inr)
    · obtain ⟨g, hg, hs⟩ := h.wk (i - d.off) (by rw [h.size] at hi; omega)
      rw [show d.off + (i - d.off) = i by omega, Array.getElem?_eq_getElem hi] at hg
      cases hg
      exact awake_of (hs.status.imp id .inr)
theorem crew_turn (hF : Back P F) {g : Goroutine} (hrun : g.status = .running) (V : Rig) (w : World)
    (H : ∀ (gs : Array Goroutine) (w₁ : World) (sl : Option (Nat × Nat)) (t : Trace) (R : Nat → Rig) (D : Nat → WD) (rk : Nat → Rk) (val : Nat → Value) (q : Nat → Nat), Rely V w w₁ → gs[0]? = some g → R 0 = V → CrewM P d j tag tag.k R gs w₁ t D rk val q Shun →
      ∀ w0 sl0, stepT P (crowd gs w0 sl0) = runT P (crowd gs w₁ sl) 0 → F (crowd gs w0 sl0) t) :
    ∀ (f : Nat → Ms), Acc (Dec (d.off + j)) f → ∀ (gs : Array Goroutine) (w₁ : World) (sl : Option (Nat × Nat)) (t : Trace) (R : Nat → Rig) (D : Nat → WD) (rk : Nat → Rk) (val : Nat → Value) (q : Nat → Nat), crewMs d D rk q = f → Rely V w w₁ → gs[0]? = some g → R 0 = V →
      CrewM P d j tag tag.k R gs w₁ t D rk val q Shun → F (crowd gs w₁ sl) t := by
  intro f hf
  induction hf with
  | intro f _ ih =>
    intro gs w₁ sl t R D rk val q hfe hr h0 hR h
    subst hfe
    obtain ⟨i, g1, n, sl', hi, hg, hst⟩ := crowd_pick (P := P) (w := w₁) (sl := sl) (h.awake h0 (.inl hrun)) ⟨0, g, h0, hrun⟩
    rcases Nat.eq_zero_or_pos i with rfl | hpos
    · exact H gs (w₁.at n) sl' t R D rk val q (hr.trans (Rely.at hr.live n)) h0 hR (h.at n) w₁ sl hst
    · obtain ⟨gs', w', ops, hrn, ct', R', D', rk', val', q', a', h', hR', hrl, h0', hby, _, hdec, hsz⟩ := (h.at n).other h0 (.inl ⟨hrun, tag.k_ne⟩) (by omega) hi hg sl'
      rcases hby with ⟨rfl, rfl⟩ | ⟨e, _⟩
      · rw [hR] at hR' hrl
        rw [h.size] at hdec
        exact hF _ _ _ _ (hst.trans hrn) (ih _ hdec gs' w' sl' _ R' D' rk' val' q' rfl (hr.trans ((Rely.at hr.live n).trans hrl)) h0' hR' h')
      · exact absurd e tag.k_ne
theorem alone_turn (hF : Back P F) {g : Goroutine} (hrun : g.status = .running) (V : Rig) (w : World)
    (H : ∀ (gs : Array Goroutine) (w₁ : World) (sl : Option (Nat × Nat)) (t : Trace), Rely V w w₁ → gs[0]? = some g → CI0 P V gs w₁ t → ∀ w0 sl0, stepT P (crowd gs w0 sl0) = runT P (crowd gs w₁ sl) 0 → F (crowd gs w0 sl0) t) :
    ∀ (n : Nat) (gs : Array Goroutine) (w₁ : World) (sl : Option (Nat × Nat)) (t : Trace) (q : Nat → Nat) (Shun : Loc → Prop), sumTo gs.size q ≤ n → Rely V w w₁ → gs[0]? = some g → CI0 P V gs w₁ t → Leavers P t gs q → Past Shun w₁.heap.size t → (∀ l, Shun l → ∃ a : Addr, l = .cell a ∧ a.block < w₁.heap.size ∧ ¬ V.vis a.block) → F (crowd gs w₁ sl) t := by
  intro n
  induction n with
  | zero =>
    intro gs w₁ sl t q Shun hn hr h0 h hL hP hS
    have haw : ∀ g ∈ gs, Go.Conc.awake g := by
      intro g' hg
      obtain ⟨i, hi, rfl⟩ := Array.mem_iff_getElem.1 hg
      rcases Nat.eq_zero_or_pos i with rfl | hpos
      · have : gs[0] = g := by simpa [Array.getElem?_eq_getElem hi] using h0
        rw [this]; exact awake_of (.inl hrun)
      · exact awake_of ((hL.old i _ hpos (Array.getElem?_eq_getElem hi)).status.imp id .inr)
    obtain ⟨i, g1, n, sl', hi, hg, hst⟩ := crowd_pick (P := P) (w := w₁) (sl := sl) haw ⟨0, g, h0, hrun⟩
    rcases Nat.eq_zero_or_pos i with rfl | hpos
    · exact H gs (w₁.at n) sl' t (hr.trans (Rely.at hr.live n)) h0 ⟨h.ext, h.ex, h.lt, h.sub⟩ w₁ sl hst
    · have hlt : i < gs.size := (Array.getElem?_eq_some_iff.1 hi).1
      have := le_sumTo (f := q) hlt
      have hq := hL.old i g1 hpos hi
      rw [show q i = 0 by omega] at hq
      rw [hq.1] at hg; cases hg
  | succ n ih =>
    intro gs w₁ sl t q Shun hn hr h0 h hL hP hS
    have haw : ∀ g ∈ gs, Go.Conc.awake g := by
      intro g' hg
      obtain ⟨i, hi, rfl⟩ := Array.mem_iff_getElem.1 hg
      rcases Nat.eq_zero_or_pos i with rfl | hpos
      · have : gs[0] = g := by simpa [Array.getElem?_eq_getElem hi] using h0
        rw [this]; exact awake_of (.inl hrun)
      · exact awake_of ((hL.old i _ hpos (Array.getElem?_eq_getElem hi)).status.imp id .inr)
    obtain ⟨i, g1, nn, sl', hi, hg, hst⟩ := crowd_pick (P := P) (w := w₁) (sl := sl) haw ⟨0, g, h0, hrun⟩
    rcases Nat.eq_zero_or_pos i with rfl | hpos
    · exact H gs (w₁.at nn) sl' t (hr.trans (Rely.at hr.live nn)) h0 ⟨h.ext, h.ex, h.lt, h.sub⟩ w₁ sl hst
    · have hlt : i < gs.size := (Array.getElem?_eq_some_iff.1 hi).1
      have hq := hL.old i g1 hpos hi
      have hi0 : (i == 0) = false := by simp; omega
      cases hqi : q i with
      | zero => rw [hqi] at hq; rw [hq.1] at hg; cases hg
      | succ k =>
        rw [hqi] at hq
        rcases hq with ⟨hf, _⟩ | ⟨_, g', es, hm, hstp, hq'⟩
        · rw [hf] at hg; cases hg
        have hrunT := runT_crowd_go (P := P) (sl := sl') (i := i) hi (by rw [hi0]; exact hstp (w₁.at nn))
        have hsz : ((gs.map (woken P g1 g' (w₁.at nn))).setIfInBounds i g').size = gs.size := by simp
        have hsum : sumTo gs.size (upd q i k) + (k + 1) = sumTo gs.size q + k := by
          have := sumTo_upd q k id hlt
          simpa [hqi] using this
        have hL' : Leavers P (t ++ MemOp.ofEvents i g1.frame.fn g1.frame.place es) ((gs.map (woken P g1 g' (w₁.at nn))).setIfInBounds i g') (upd q i k) := ⟨fun jj x hj hx => by
              by_cases hji : i = jj
              · subst hji
                rw [Array.getElem?_setIfInBounds_self_of_lt (by simpa using hlt)] at hx
                obtain rfl := Option.some.inj hx
                rw [upd_same, Deaf_own]
                exact hq'
              · rw [Array.getElem?_setIfInBounds_ne hji, Array.getElem?_map] at hx
                obtain ⟨y, hy, rfl⟩ := Option.map_eq_some_iff.1 hx
                have hqj := hL.old jj y hj hy
                rw [woken_quitsD hqj, upd_ne q k (Ne.symm hji), Deaf_other t hji _ g_of_ofEvents]
                exact hqj, fun jj hj => by
              rw [Deaf_other t (g' := i) (by simp at hj; omega) _ g_of_ofEvents]
              exact hL.above jj (by simpa using hj)⟩
        have hP' := hP.mute (g := i) (by omega) (fn := g1.frame.fn) (pos := g1.frame.place) hm
        refine hF _ _ _ _ (hst.trans hrunT) (ih _ (w₁.at nn) sl' _ (upd q i k) Shun (by rw [hsz]; omega) (hr.trans (Rely.at hr.live nn)) ?_ ⟨h.ext, ⟨_, Shun, hL', hP', hS⟩, h.lt, h.sub⟩ hL' hP' hS)
        have hne : i ≠ 0 := by omega
        rw [Array.getElem?_setIfInBounds_ne hne, Array.getElem?_map, h0]
        simp [woken_run hrun]
end

inductive CIx (P : Program) (V : Rig) (gs : Array Goroutine) (w : World) (t : Trace) : Prop
  | alone : CI0 P V gs w t → CIx P V gs w t
  | crew {d : CDat} {j : Nat} {tag : Tag} {R : Nat → Rig} {D : Nat → WD} {rk : Nat → Rk} {val : Nat → Value} {q : Nat → Nat} {Shun : Loc → Prop} : R 0 = V → CrewM P d j tag tag.k R gs w t D rk val q Shun → CIx P V gs w t
theorem CIx.live {P : Program} {V : Rig} {gs : Array Goroutine} {w : World} {t : Trace} (h : CIx P V gs w t) : V.ext.live w := by
  cases h with
  | alone h => rw [h.ext]; trivial
  | crew hR h => rw [← hR, h.ext0]; trivial
section
variable {P : Program} {F : Machine → Trace → Prop}
def FOk (P : Program) (F : Machine → Trace → Prop) (V : Rig) (g : Goroutine) (w : World) : Prop := ∀ gs w₁ sl t, Rely V w w₁ → gs[0]? = some g → CIx P V gs w₁ t → F (crowd gs w₁ sl) t
theorem f_turn (hF : Back P F) {V : Rig} {g : Goroutine} {w : World} (hrun : g.status = .running)
    (H : ∀ (gs : Array Goroutine) (w₁ : World) (sl : Option (Nat × Nat)) (t : Trace), Rely V w w₁ → gs[0]? = some g → CIx P V gs w₁ t → ∀ w0 sl0, stepT P (crowd gs w0 sl0) = runT P (crowd gs w₁ sl) 0 → F (crowd gs w0 sl0) t) : FOk P F V g w := by
  intro gs w₁ sl t hr h0 hc
  cases hc with
  | alone hc =>
    obtain ⟨q, Shun, hL, hP, hS⟩ := hc.ex
    exact alone_turn hF hrun V w (fun gs w₁ sl t hr h0 hc => H gs w₁ sl t hr h0 (.alone hc)) _ gs w₁ sl t q Shun (Nat.le_refl _) hr h0 hc hL hP hS
  | crew hR hc => exact crew_turn hF hrun V w (fun gs w₁ sl t R D rk val q hr h0 hR hc => H gs w₁ sl t hr h0 (.crew hR hc)) _ (Dec.acc _ _) gs w₁ sl t _ _ _ _ _ rfl hr h0 hR hc
theorem CI0.leavers {gs : Array Goroutine} {t : Trace} {q : Nat → Nat} (hL : Leavers P t gs q) (h0 : 0 < gs.size) (a a' : Goroutine) (w' : World) (fn : FuncId) (pos : String) (es : Array Event) :
    Leavers P (t ++ MemOp.ofEvents 0 fn pos es) ((gs.map (woken P a a' w')).setIfInBounds 0 a') q :=
  ⟨fun j x hj hx => by
    have hne : 0 ≠ j := by omega
    rw [Array.getElem?_setIfInBounds_ne hne, Array.getElem?_map] at hx
    obtain ⟨y, hy, rfl⟩ := Option.map_eq_some_iff.1 hx
    have hq := hL.old j y hj hy
    rw [woken_quitsD hq, Deaf_other t (by omega) _ g_of_ofEvents]
    exact hq, fun j hj => by
    rw [Deaf_other t (g' := 0) (by simp at hj; omega) _ g_of_ofEvents]
    exact hL.above j (by simpa using hj)⟩
theorem evL_guar {V : Rig} {Shun : Loc → Prop} {n m : Nat} (hn : n ≤ m) (hS : ∀ l, Shun l → ∃ a : Addr, l = .cell a ∧ a.block < n ∧ ¬ V.vis a.block) (hsub : ∀ b, V.mine b → V.vis b) (hlt : ∀ b, V.vis b → b < n) {es : Array Event} (h : ∀ e ∈ es, EvG V n m e) : ∀ e ∈ es, EvL Shun m e := by
  intro e he
  rcases h e he with ⟨a, wr, rfl, ha⟩ | ⟨k, rfl, hk⟩ | ⟨_, r, wr, rfl, ha⟩
  · refine evL_cell a wr (fun hs => ?_) ?_
    · obtain ⟨_, e0, h1, h2⟩ := hS _ hs
      cases e0
      rcases ha with ha | ha
      · exact h2 ha.1
      · omega
    · rcases ha with ha | ha
      · exact Nat.lt_of_lt_of_le (hlt _ ha.1) hn
      · exact ha.2
  · unfold Neutral at hk
    subst hk
    exact ⟨fun x hx => (by cases hx), by simp, by simp, trivial⟩
  · refine ⟨fun x hx hs => ?_, by simp, by simp, ?_⟩
    · obtain ⟨a, e0, _⟩ := hS _ hs
      have : x.loc = .obj r := by simp [MemAct.ofEvent, MemAct.touch?] at hx; rw [← hx]
      rw [this] at e0; cases e0
    · have hr : (MemAct.ofEvent ⟨.obj r, wr, false⟩).low m = (r < m) := by cases wr <;> rfl
      rw [hr]
      rcases ha with ha | ha
      · exact Nat.lt_of_lt_of_le (hlt _ (hsub _ ha)) hn
      · exact ha.2
theorem CI0.step {V : Rig} {gs : Array Goroutine} {w w' : World} {t : Trace} (h : CI0 P V gs w t) (h0 : 0 < gs.size) {a a' : Goroutine} {fn : FuncId} {pos : String} {es : Array Event} (hg : Guar0 V w w' es) :
    CI0 P (V.grow w.heap.size w'.heap.size) ((gs.map (woken P a a' w')).setIfInBounds 0 a') w' (t ++ MemOp.ofEvents 0 fn pos es) := by
  obtain ⟨q, Shun, hL, hP, hS⟩ := h.ex
  refine ⟨h.ext, ⟨q, Shun, CI0.leavers hL h0 a a' w' fn pos es, (hP.mono hg.size).own (evL_guar hg.size hS h.sub h.lt hg.evs), fun a ha => ?_⟩, fun b hb => ?_, fun b hb => hb.imp (h.sub b) id⟩
  · obtain ⟨a0, e0, h1, h2⟩ := hS a ha
    refine ⟨a0, e0, Nat.lt_of_lt_of_le h1 hg.size, fun hv => hv.elim h2 fun hv => ?_⟩
    omega
  · exact hb.elim (fun h' => Nat.lt_of_lt_of_le (h.lt b h') hg.size) (·.2)
theorem Back.runNT (hF : Back P F) : ∀ (N : Nat) (m : Machine) (t : Trace) (m' : Machine) (t' : Trace), runNT P N m t = (.next m', t') → F m' t' → F m t
  | 0, m, t, m', t', h, k => by
    simp only [Go.runNT, Prod.mk.injEq] at h
    cases h.1; cases h.2
    exact k
  | N + 1, m, t, m', t', h, k => by
    simp only [Go.runNT] at h
    cases hs : stepT P m with
    | mk s ops =>
      rw [hs] at h
      cases s with
      | next m1 => exact hF m t m1 ops hs (Back.runNT hF N m1 _ m' t' h k)
      | _ => simp at h
theorem cix_step {V : Rig} {gs : Array Goroutine} {w w' : World} {t : Trace} (hc : CIx P V gs w t) {a a' : Goroutine} (h0 : gs[0]? = some a) {fn : FuncId} {pos : String} {es : Array Event} (hg : Guar V w w' es) :
    CIx P (V.grow w.heap.size w'.heap.size) ((gs.map (woken P a a' w')).setIfInBounds 0 a') w' (t ++ MemOp.ofEvents 0 fn pos es) := by
  have hlt : 0 < gs.size := (Array.getElem?_eq_some_iff.1 h0).1
  cases hc with
  | alone hc =>
    rcases hg with hg | hg
    · exact .alone (hc.step hlt hg)
    · rw [hc.ext] at hg; exact hg.elim
  | @crew d j tag R D rk val q Shun hR h =>
    letI := d.pay
    have hext : V.ext = .crew d j tag := hR ▸ h.ext0
    rcases hg with hg | hg
    · subst hR
      obtain ⟨st, sm, hwg, hmo⟩ := h.mode
      have hW : w'.heap[d.Wg]? = w.heap[d.Wg]? := hg.block _ h.Wlt fun hm => h.toCrew.visW _ (h.tg.sub _ _ hm)
      have hC : w'.heap[d.C]? = w.heap[d.C]? := hg.block _ h.Clt fun hm => h.visC _ (h.tg.sub _ _ hm)
      obtain ⟨cs, hp1, hp2⟩ := h.pay
      have hal : (R 0).ext ≠ .alone := by rw [hext]; exact fun e => by cases e
      have htg := touch_guar (k := 0) (fn := fn) (pos := pos) hal hg.evs
      have hoff := h.off
      refine .crew (R := upd R 0 ((R 0).grow w.heap.size w'.heap.size)) (upd_same _ _ _) ⟨h.toCrew.step (.inl (.inl rfl)) (fun _ _ _ _ => rfl) (fun e => by omega) (fun _ e => by omega) (fun _ _ _ => ⟨rfl, rfl, rfl⟩) (Rk' := (R 0).grow w.heap.size w'.heap.size) (fun b hb => hb) (fun b hb => hb) (fun b hb => hb.imp (h.tg.sub 0 b) id)
        ⟨hg.os, hg.tape, hg.output, hg.size, fun b hb => hg.block b hb.1 hb.2.2.2⟩ (fun i _ _ => cell_of_block hC i) ⟨st, sm, hwg.of_block hW⟩ ⟨cs, hC.trans hp1, hp2⟩ (fun op hop x hx => ?_) (fun op hop => ?_) (fun op hop => ?_) (.inl (by omega)) (by rw [upd_same]; exact h.ext0) ?_ h.jn h.bound (fun i _ e => by omega), ⟨st, sm, hwg.of_block hW, hmo⟩, h.ctp⟩
      · rcases htg op hop with e | ⟨a, wr, e1, _, e3⟩
        · rw [e] at hx; cases hx
        · rw [e1] at hx; cases hx
          exact .inr ⟨a, rfl, rfl, e3.elim .inl fun e => .inr (.inr e.1)⟩
      · rcases htg op hop with e | ⟨a, wr, _, e2, e3⟩
        · rw [e]; trivial
        · rw [e2]
          rcases e3 with e3 | e3
          · exact Nat.lt_of_lt_of_le (h.tg.lt _ _ e3.1) hg.size
          · exact e3.2
      · rcases htg op hop with e | ⟨a, wr, _, e2, e3⟩
        · rw [e]; simp
        · rw [e2]; simp
      · rw [Deaf_own, h.deaf0]
        refine deafBehind_idle (fun e he => ?_) _
        rcases hg.evs e he with ⟨a, wr, rfl, _⟩ | ⟨k, rfl, hk⟩ | ⟨h0, _⟩
        · simp
        · unfold Neutral at hk; subst hk; simp
        · exact absurd h0 hal
    · rw [hext] at hg; exact hg.elim
def LF (P : Program) (F : Machine → Trace → Prop) (hF : Back P F) : Lg P where
  main := true
  ok := FOk P F
  rely h r gs w₁ sl t r₁ h0 hc := h gs w₁ sl t (r.trans r₁) h0 hc
  step := by
    intro V g w hs h
    refine f_turn hF hs fun gs w₁ sl t hr h0 hc w0 sl0 hst => ?_
    obtain ⟨g', w', es, hgo, hg, hk⟩ := h w₁ hr
    have hlt : 0 < gs.size := (Array.getElem?_eq_some_iff.1 h0).1
    have hrn := runT_crowd_go (P := P) (sl := sl) (i := 0) h0 (show stepG P (0 == 0) g w₁ = _ from hgo)
    exact hF _ _ _ _ (hst.trans hrn) (hk _ w' sl _ (Rely.refl (cix_step (a := g) (a' := g') (fn := g.frame.fn) (pos := g.frame.place) hc h0 hg).live) (get_map_set_same _ _ _ hlt) (cix_step hc h0 hg))
  big := by
    intro V g w he h gs w₁ sl t hr h0 hc
    cases hc with
    | alone hc =>
      obtain ⟨N, gs', w', sl', t', V', g', hrn, h0', hc', hk⟩ := h gs w₁ sl t hr h0 hc
      exact hF.runNT N _ _ _ _ hrn (hk gs' w' sl' t' (Rely.refl (CIx.alone hc').live) h0' (.alone hc'))
    | crew hR hc => rw [← hR, hc.ext0] at he; cases he
end

def Rig.as (V : Rig) (e : Ext) : Rig := ⟨V.vis, V.mine, e⟩
def BkS (Wg : Nat) (e : Event) : Prop := Bk Wg e ∨ ∃ a : Addr, a.block = Wg ∧ (e = ⟨.mark (.read a), false, true⟩ ∨ e = ⟨.mark (.write a), false, true⟩)
section
variable {P : Program} {F : Machine → Trace → Prop} {hF : Back P F} {d : CDat} {j : Nat} {tag : Tag} {V : Rig} {g : Goroutine} {w : World}
theorem bkS_ops {d : CDat} {vis mine : Nat → Nat → Prop} {cel : Nat → Addr → Prop} {B : Nat} (hB : d.Wg < B) {fn : FuncId} {pos : String} {es : Array Event} (h : ∀ e ∈ es, BkS d.Wg e) :
    (∀ op ∈ MemOp.ofEvents 0 fn pos es, ∀ x, op.act.touch? = some x → OkT (ShN d.Wg) B vis mine cel 0 x) ∧ (∀ op ∈ MemOp.ofEvents 0 fn pos es, op.act.low B) ∧ (∀ op ∈ MemOp.ofEvents 0 fn pos es, op.act ≠ .mark (.release (stA d.Wg))) := by
  have key : ∀ op ∈ MemOp.ofEvents 0 fn pos es, (∃ e, op.act = .ofEvent e ∧ Bk d.Wg e) ∨ ∃ a : Addr, a.block = d.Wg ∧ (op.act = .mark (.read a) ∨ op.act = .mark (.write a)) := by
    intro op hop
    obtain ⟨e, he, rfl⟩ := Go.Conc.mem_ofEvents hop
    rcases h e he with h1 | ⟨a, ha, rfl | rfl⟩
    · exact .inl ⟨e, rfl, h1⟩
    · exact .inr ⟨a, ha, .inl rfl⟩
    · exact .inr ⟨a, ha, .inr rfl⟩
  refine ⟨fun op hop x hx => ?_, fun op hop => ?_, fun op hop => ?_⟩
  · rcases key op hop with ⟨e, e1, h1⟩ | ⟨a, ha, e1 | e1⟩
    · rw [e1] at hx
      rcases h1 with h1 | h1 | ⟨a, wr, rfl, ha⟩
      · simp only [ofEvent_loc_mark h1] at hx; cases hx
      · simp only [ofEvent_loc_mark h1] at hx; cases hx
      · simp only [Go.ConcR.ofEvent_cell, MemAct.touch?, Option.some.injEq] at hx
        subst hx
        exact .inl ⟨⟨a, rfl, ha⟩, by simp, by simp⟩
    · rw [e1] at hx; cases hx
      exact .inl ⟨⟨a, rfl, ha⟩, by simp, fun _ => rfl⟩
    · rw [e1] at hx; cases hx
      exact .inl ⟨⟨a, rfl, ha⟩, by simp, fun _ => rfl⟩
  · rcases key op hop with ⟨e, e1, h1⟩ | ⟨a, ha, e1 | e1⟩
    · rw [e1]
      rcases h1 with h1 | h1 | ⟨a, wr, rfl, ha⟩
      · simp only [ofEvent_loc_mark h1]; trivial
      · simp only [ofEvent_loc_mark h1]; trivial
      · simp only [Go.ConcR.ofEvent_cell]; show a.block < B; omega
    · rw [e1]; show a.block < B; omega
    · rw [e1]; show a.block < B; omega
  · rcases key op hop with ⟨e, e1, h1⟩ | ⟨a, ha, e1 | e1⟩
    · rw [e1]
      rcases h1 with h1 | h1 | ⟨a, wr, rfl, ha⟩
      · simp [ofEvent_loc_mark h1]
      · simp [ofEvent_loc_mark h1]
      · simp [Go.ConcR.ofEvent_cell]
    · rw [e1]; simp
    · rw [e1]; simp
theorem Crew.book {R : Nat → Rig} {gs : Array Goroutine} {w w' : World} {t : Trace} {D : Nat → WD} {rk : Nat → Rk} {val : Nat → Value} {q : Nat → Nat} {Shun : Loc → Prop} (h : Crew P d j tag R gs w t D rk val q Shun) {a a' : Goroutine} {fn : FuncId} {pos : String} {es : Array Event} {tag' : Tag}
    (hAs : Aside d.Wg w w') (hlive : WgLive d.ty d.Wg w') (hbk : ∀ e ∈ es, BkS d.Wg e) (hdf : deafBehind tag.deaf es = tag'.deaf) (hjn : j + tag'.p ≤ d.n) (hbd : tag'.bound (Vc j D)) :
    Crew P d j tag' (upd R 0 ((R 0).as (.crew d j tag'))) ((gs.map (woken P a a' w')).setIfInBounds 0 a') w' (t ++ MemOp.ofEvents 0 fn pos es) D rk val q Shun := by
  letI := d.pay
  have hC : w'.heap[d.C]? = w.heap[d.C]? := hAs.block _ h.CW
  obtain ⟨cs, hp1, hp2⟩ := h.pay
  have hoff := h.off
  obtain ⟨k1, k2, k3⟩ := bkS_ops (d := d) (vis := fun g => (R g).vis) (mine := fun g => (R g).mine) (cel := crewCel d j) h.Wlt (fn := fn) (pos := pos) hbk
  exact h.step (.inl (.inl rfl)) (fun _ _ _ _ => rfl) (fun e => by omega) (fun _ e => by omega) (fun _ _ _ => ⟨rfl, rfl, rfl⟩) (fun b hb => .inl hb) (fun b hb => .inl hb) (h.tg.sub 0) ⟨hAs.os, hAs.tape, hAs.output, by rw [hAs.size]; exact Nat.le_refl _, fun b hb => hAs.block b hb.2.1⟩
    (fun i _ _ => cell_of_block hC i) hlive ⟨cs, hC.trans hp1, hp2⟩ k1 (by rw [hAs.size]; exact k2) k3 (.inl (by omega)) (by rw [upd_same]; rfl) (by rw [Deaf_own, h.deaf0]; exact hdf) hjn hbd (fun i _ e => by omega)
theorem f_book (hV : V.ext = .crew d j tag) (hrun : g.status = .running)
    (H : ∀ (w₁ : World) (D : Nat → WD) (st sm : Int), Rely V w w₁ → WgAt d.ty d.Wg w₁ st sm → Go.ConcN.Mode j D tag.k st sm → tag.bound (Vc j D) → j + tag.p ≤ d.n → ¬ V.vis d.Wg → ∃ g' w' es tag', stepG P true g w₁ = .go g' w' es ∧ Aside d.Wg w₁ w' ∧ (∀ e ∈ es, BkS d.Wg e) ∧ deafBehind tag.deaf es = tag'.deaf ∧ j + tag'.p ≤ d.n ∧
      tag'.bound (Vc j D) ∧ (∃ st' sm', WgAt d.ty d.Wg w' st' sm' ∧ Go.ConcN.Mode j D tag'.k st' sm') ∧ pend tag'.k = tag'.p ∧ (LF P F hF).ok (V.as (.crew d j tag')) g' w') : (LF P F hF).ok V g w := by
  refine f_turn hF hrun fun gs w₁ sl t hr h0 hc w0 sl0 hst => ?_
  have hlt : 0 < gs.size := (Array.getElem?_eq_some_iff.1 h0).1
  cases hc with
  | alone hc => rw [hc.ext] at hV; cases hV
  | @crew d' j' tag0 R D rk val q Shun hR h =>
    have e := h.ext0
    rw [hR, hV] at e
    cases e
    obtain ⟨st, sm, hwg, hmo⟩ := h.mode
    obtain ⟨g', w', es, tag', hgo, hAs, hbk, hdf, hjn, hbd, ⟨st', sm', hwg', hmo'⟩, hp, hk⟩ := H w₁ D st sm hr hwg hmo h.bound h.jn (hR ▸ h.toCrew.visW 0)
    have hrn := runT_crowd_go (P := P) (sl := sl) (i := 0) h0 (show stepG P (0 == 0) g w₁ = _ from hgo)
    subst hR
    exact hF _ _ _ _ (hst.trans hrn) (hk _ w' sl _ (Rely.refl trivial) (get_map_set_same _ _ _ hlt) (.crew (upd_same _ _ _) ⟨h.toCrew.book hAs ⟨_, _, hwg'⟩ hbk hdf hjn hbd, ⟨st', sm', hwg', hmo'⟩, hp⟩))
end
theorem Rig.as_self {V : Rig} {e : Ext} (h : V.ext = e) : V.as e = V := by subst h; rfl
section
variable {P : Program} {F : Machine → Trace → Prop} {hF : Back P F} {d : CDat} {j : Nat} {tag : Tag} {V : Rig} {g : Goroutine} {w : World}
theorem Sit.running {P : Program} {d : CDat} {i : Nat} {R : Rig} {D : WD} {r : Rk} {v : Value} {g : Goroutine} {w : World} (h : Sit P d i R D r v g w) (h2 : 2 ≤ D.stage) : g.status = .running := by
  letI := d.pay
  rcases h with h | ⟨h6, h⟩
  · exact h.2.2.running
  · generalize hs : D.stage = s at h
    generalize D.fuel = m at h
    generalize D.deaf = dd at h
    cases h with
    | r0 h => exact Goes.running (fun _ _ x => x.1) w (RW.refl w) h
    | k1 h => exact Goes.running (fun _ _ x => x.1) w (RW.refl w) h
    | d1 h => exact Goes.running (fun _ _ x => x.1) w (RW.refl w) h
    | d2 h => exact Goes.running (fun _ _ x => x.1) w (RW.refl w) h
    | d3 h => exact Goes.running (fun _ _ x => x.1) w (RW.refl w) h
    | d4 h => exact Goes.running (fun _ _ x => x.1) w (RW.refl w) h
    | quit h => omega
theorem exists_counted {D : Nat → WD} : ∀ {j : Nat}, 1 ≤ Vc j D → ∃ i, i < j ∧ 5 ≤ (D i).stage
  | 0, h => absurd h (by simp [Vc, sumTo])
  | j + 1, h => by
    by_cases e : 5 ≤ (D j).stage
    · exact ⟨j, by omega, e⟩
    · have : Go.ConcN.cnt (D j) = 0 := by simp [Go.ConcN.cnt, e]
      obtain ⟨i, hi, hs⟩ := exists_counted (D := D) (j := j) (by simp only [Vc, sumTo] at h ⊢; omega)
      exact ⟨i, by omega, hs⟩
theorem unblock {a b : Goroutine} (ha : a.status = .running) (hb : b.status = .running) (h : ({ a with status := .blocked } : Goroutine) = { b with status := .blocked }) : a = b := by
  cases a; cases b
  simp only at ha hb
  subst ha; subst hb
  simp only [Goroutine.mk.injEq] at h ⊢
  simp_all
theorem f_sema (hV : V.ext = .crew d j .reg) (hrun : g.status = .running) (hoffers : g.offers = none)
    (H1 : ∀ (w₁ : World) (st : Int), Rely V w w₁ → WgAt d.ty d.Wg w₁ st 0 → stepG P true g w₁ = .go { g with status := .blocked } w₁ #[])
    (H2 : ∀ (w₁ : World), Rely V w w₁ → WgAt d.ty d.Wg w₁ 0 1 → ¬ V.vis d.Wg → ∃ g', stepG P true g w₁ = .go g' (w₁.setCell (smA d.Wg) (.int .u32 0)) (semEvents (smA d.Wg)) ∧ (LF P F hF).ok (V.as (.crew d j (.fin 1))) g' (w₁.setCell (smA d.Wg) (.int .u32 0))) : (LF P F hF).ok V g w := by
  have key : ∀ (f : Nat → Ms), Acc (Dec (d.off + j)) f → ∀ (gs : Array Goroutine) (w₁ : World) (sl : Option (Nat × Nat)) (t : Trace) (R : Nat → Rig) (D : Nat → WD) (rk : Nat → Rk) (val : Nat → Value) (q : Nat → Nat) (Shun : Loc → Prop) (a : Goroutine) (ct : CTag), crewMs d D rk q = f → Rely V w w₁ → gs[0]? = some a → R 0 = V →
      CrewM P d j .reg ct R gs w₁ t D rk val q Shun → (a = g ∧ ct = .w3) ∨ (a = { g with status := .blocked } ∧ ct = .blk) → F (crowd gs w₁ sl) t := by
    intro f hf
    induction hf with
    | intro f _ ih =>
      have blocked : ∀ (gs : Array Goroutine) (w₁ : World) (sl : Option (Nat × Nat)) (t : Trace) (R : Nat → Rig) (D : Nat → WD) (rk : Nat → Rk) (val : Nat → Value) (q : Nat → Nat) (Shun : Loc → Prop), crewMs d D rk q = f → Rely V w w₁ → gs[0]? = some { g with status := .blocked } → R 0 = V →
          CrewM P d j .reg .blk R gs w₁ t D rk val q Shun → F (crowd gs w₁ sl) t := by
        intro gs w₁ sl t R D rk val q Shun hfe hr h0 hR h
        subst hfe
        have hex : ∃ (i : Nat) (g : Goroutine), gs[i]? = some g ∧ g.status = .running := by
          obtain ⟨st, sm, hwg, hmo⟩ := h.mode
          have : ∃ i, i < j ∧ 2 ≤ (D i).stage := by
            cases hmo with
            | opn h1 _ _ => exact h1.elim
            | reg _ _ h3 => exact (exists_counted h3).imp fun i hi => ⟨hi.1, by omega⟩
            | last L _ h2 h3 _ => exact ⟨L, h2, by omega⟩
            | fin h1 _ => exact h1.elim
          obtain ⟨i, hi, h2⟩ := this
          obtain ⟨x, hx, hs⟩ := h.wk i hi
          exact ⟨_, x, hx, hs.running h2⟩
        obtain ⟨i, g1, n, sl', hi, hg, hst⟩ := crowd_pick (P := P) (w := w₁) (sl := sl) (h.awake h0 (.inr rfl)) hex
        have hi0 : i ≠ 0 := by
          rintro rfl
          rw [h0] at hi; cases hi; cases hg
        obtain ⟨gs', w', ops, hrn, ct', R', D', rk', val', q', a', h', hR', hrl, h0', hby, _, hdec, hsz⟩ := (h.at n).other h0 (.inr ⟨rfl, g, hrun, hoffers, rfl⟩) hi0 hi hg sl'
        rw [hR] at hR' hrl
        rw [h.size] at hdec
        refine hF _ _ _ _ (hst.trans hrn) (ih _ hdec gs' w' sl' _ R' D' rk' val' q' Shun a' ct' rfl (hr.trans ((Rely.at hr.live n).trans hrl)) h0' hR' h' ?_)
        rcases hby with ⟨rfl, rfl⟩ | ⟨_, rfl, h1, _, h3⟩
        · exact .inr ⟨rfl, rfl⟩
        · exact .inl ⟨(unblock hrun h1 h3).symm, rfl⟩
      intro gs w₁ sl t R D rk val q Shun a ct hfe hr h0 hR h hcase
      rcases hcase with ⟨rfl, rfl⟩ | ⟨rfl, rfl⟩
      · obtain ⟨i, g1, n, sl', hi, hg, hst⟩ := crowd_pick (P := P) (w := w₁) (sl := sl) (h.awake h0 (.inl hrun)) ⟨0, a, h0, hrun⟩
        rcases Nat.eq_zero_or_pos i with rfl | hpos
        · have hlt : 0 < gs.size := (Array.getElem?_eq_some_iff.1 h0).1
          have hr' := hr.trans (Rely.at hr.live n)
          have h' := h.at n
          obtain ⟨st, sm, hwg, hmo⟩ := h'.mode
          have low : sm = 0 → Go.ConcN.Mode j D .blk st 0 → F (crowd gs w₁ sl) t := by
            rintro rfl hmo'
            have hgo := H1 (w₁.at n) st hr' hwg
            have hrn := runT_crowd_go (P := P) (sl := sl') (i := 0) h0 (show stepG P (0 == 0) a (w₁.at n) = _ from hgo)
            refine hF _ _ _ _ (hst.trans hrn) (blocked _ (w₁.at n) sl' _ _ D rk val q Shun hfe hr' (get_map_set_same _ _ _ hlt) (by rw [upd_same, hR]; exact Rig.as_self hV) ⟨h'.toCrew.book (tag' := .reg) (.refl _ _) ⟨_, _, hwg⟩ (by simp) rfl h'.jn trivial, ⟨st, 0, hwg, hmo'⟩, rfl⟩)
          cases hmo with
          | opn h1 _ _ => exact h1.elim
          | reg _ h2 h3 => exact low rfl (.reg trivial h2 h3)
          | last L _ h2 h3 h4 => exact low rfl (.last L trivial h2 h3 h4)
          | fin h1 _ => exact h1.elim
          | sema h2 =>
            obtain ⟨g', hgo, hk⟩ := H2 (w₁.at n) hr' hwg (hR ▸ h'.toCrew.visW 0)
            have hrn := runT_crowd_go (P := P) (sl := sl') (i := 0) h0 (show stepG P (0 == 0) a (w₁.at n) = _ from hgo)
            have hbk : ∀ e ∈ semEvents (smA d.Wg), BkS d.Wg e := by
              intro e he
              simp [semEvents] at he
              rcases he with rfl | rfl | rfl | rfl
              · exact .inl (.inl rfl)
              · exact .inl (bk_cell _ _ rfl)
              · exact .inl (bk_cell _ _ rfl)
              · exact .inl (.inr (.inl rfl))
            subst hR
            exact hF _ _ _ _ (hst.trans hrn) (hk _ _ sl' _ (Rely.refl trivial) (get_map_set_same _ _ _ hlt) (.crew (upd_same _ _ _) ⟨h'.toCrew.book (tag' := .fin 1) (aside_setCell _ (smA d.Wg) _) ⟨_, _, hwg.setSm 0⟩ hbk (by simp [deafBehind, semEvents, Tag.deaf]) h'.jn trivial, ⟨_, _, hwg.setSm 0, .fin trivial h2⟩, rfl⟩))
        · obtain ⟨gs', w', ops, hrn, ct', R', D', rk', val', q', a', h', hR', hrl, h0', hby, _, hdec, hsz⟩ := (h.at n).other h0 (.inl ⟨hrun, by simp⟩) (by omega) hi hg sl'
          rcases hby with ⟨rfl, rfl⟩ | ⟨e, _⟩
          · rw [hR] at hR' hrl
            rw [h.size] at hdec
            subst hfe
            exact hF _ _ _ _ (hst.trans hrn) (ih _ hdec gs' w' sl' _ R' D' rk' val' q' Shun a' .w3 rfl (hr.trans ((Rely.at hr.live n).trans hrl)) h0' hR' h' (.inl ⟨rfl, rfl⟩))
          · cases e
      · exact blocked gs w₁ sl t R D rk val q Shun hfe hr h0 hR h
  intro gs w₁ sl t hr h0 hc
  cases hc with
  | alone hc => rw [hc.ext] at hV; cases hV
  | @crew d' j' tag0 R D rk val q Shun hR h =>
    have e := h.ext0
    rw [hR, hV] at e
    cases e
    exact key _ (Dec.acc _ _) gs w₁ sl t R D rk val q Shun g _ rfl hr h0 hR h (.inl ⟨rfl, rfl⟩)
end
section
variable {P : Program} {F : Machine → Trace → Prop} {hF : Back P F} {d : CDat} {j : Nat} {tag : Tag} {V : Rig} {g : Goroutine} {w : World}
theorem Vc_succ (j : Nat) (D : Nat → WD) (x : WD) (hx : Go.ConcN.cnt x = 1) : Vc (j + 1) (upd D j x) = Vc j D + 1 := by
  have e : Vc j (upd D j x) = Vc j D := sumTo_congr fun a ha => by rw [upd_ne D _ (by omega)]
  show sumTo j (fun i => Go.ConcN.cnt (upd D j x i)) + Go.ConcN.cnt (upd D j x j) = _
  rw [upd_same, hx]
  exact congrArg (· + 1) e
set_option maxHeartbeats 1600000 in
theorem CrewM.spawn {R : Nat → Rig} {gs : Array Goroutine} {t : Trace} {D : Nat → WD} {rk : Nat → Rk} {val : Nat → Value} {q : Nat → Nat} {Shun : Loc → Prop} {b : Nat} (h : CrewM P d j (.opn 1 0 b) (.sp 0 3) R gs w t D rk val q Shun) {a' child : Goroutine} {r : Rk} {x y : MemOp}
    (hx : x.g = 0 ∧ x.act = .go (d.off + j)) (hy : y.g = d.off + j ∧ y.act = .start) (hc : TreeR P (HStop P d j) r ⟨(R 0).vis, fun _ => False, .hand d j⟩ child w) :
    CrewM P d (j + 1) (.opn 0 0 d.n) .anch (upd (upd R 0 ⟨(R 0).vis, fun _ => False, .crew d (j + 1) (.opn 0 0 d.n)⟩) (d.off + j) ⟨(R 0).vis, fun _ => False, .hand d j⟩) ((gs.setIfInBounds 0 a').push child) w (t ++ #[x, y]) (upd D j ⟨7, 0, 0⟩) (upd rk j r) val q Shun := by
  letI := d.pay
  have off := h.off
  have hjn : j + 1 ≤ d.n := h.jn
  have hm : ∀ op ∈ #[x, y], op = x ∨ op = y := by intro op hop; simpa using hop
  have hst : ∀ op ∈ #[x, y], op.act ≠ .mark .disable ∧ op.act ≠ .mark .enable := by
    intro op hop
    rcases hm op hop with rfl | rfl
    · rw [hx.2]; exact ⟨by simp, by simp⟩
    · rw [hy.2]; exact ⟨by simp, by simp⟩
  have hnt : ∀ op ∈ #[x, y], op.act.touch? = none := by
    intro op hop
    rcases hm op hop with rfl | rfl
    · rw [hx.2]; rfl
    · rw [hy.2]; rfl
  obtain ⟨R', hR'⟩ : ∃ R', R' = upd (upd R 0 ⟨(R 0).vis, fun _ => False, .crew d (j + 1) (.opn 0 0 d.n)⟩) (d.off + j) ⟨(R 0).vis, fun _ => False, .hand d j⟩ := ⟨_, rfl⟩
  have r0 : R' 0 = ⟨(R 0).vis, fun _ => False, .crew d (j + 1) (.opn 0 0 d.n)⟩ := by rw [hR', upd_ne _ _ (by omega), upd_same]
  have rj : R' (d.off + j) = ⟨(R 0).vis, fun _ => False, .hand d j⟩ := by rw [hR', upd_same]
  have ro : ∀ k, k ≠ 0 → k ≠ d.off + j → R' k = R k := fun k h1 h2 => by rw [hR', upd_ne _ _ h2, upd_ne _ _ h1]
  have hvis : ∀ k b, (R' k).vis b → (R k).vis b ∨ (k = d.off + j ∧ (R 0).vis b) := fun k b hb => by
    by_cases e : k = 0
    · subst e; rw [r0] at hb; exact .inl hb
    · by_cases e' : k = d.off + j
      · subst e'; rw [rj] at hb; exact .inr ⟨rfl, hb⟩
      · rw [ro k e e'] at hb; exact .inl hb
  have hmine : ∀ k b, (R' k).mine b → (R k).mine b ∧ k ≠ 0 ∧ k ≠ d.off + j := fun k b hb => by
    by_cases e : k = 0
    · subst e; rw [r0] at hb; exact hb.elim
    · by_cases e' : k = d.off + j
      · subst e'; rw [rj] at hb; exact hb.elim
      · rw [ro k e e'] at hb; exact ⟨hb, e, e'⟩
  have hcel : ∀ k a, crewCel d (j + 1) k a → crewCel d j k a ∨ (k = d.off + j ∧ crewCel d j 0 a) := by
    rintro k a ⟨i, hi, rfl, h1 | h1⟩
    · exact .inl ⟨i, hi, rfl, .inl ⟨h1.1, by omega⟩⟩
    · by_cases e : i = j
      · subst e; exact .inr ⟨h1.1, i, hi, rfl, .inl ⟨rfl, Nat.le_refl _⟩⟩
      · exact .inl ⟨i, hi, rfl, .inr ⟨h1.1, by omega⟩⟩
  have old : ∀ {i : Nat} {a : Touch}, touchAt (t ++ #[x, y]) i = some a → touchAt t i = some a ∧ i < t.size := by
    intro i a ha
    obtain ⟨z, hz, hza⟩ := touch_of ha
    rcases getElem?_append_cases hz with ⟨hi, hz'⟩ | ⟨_, hzu⟩
    · exact ⟨by rw [touchAt_of hz']; exact hza, hi⟩
    · rw [hnt z hzu] at hza; cases hza
  have gs0 : ∀ k, k < gs.size → k ≠ 0 → ((gs.setIfInBounds 0 a').push child)[k]? = gs[k]? := fun k hk h0 => by
    rw [Array.getElem?_push_lt (by simpa using hk), ← Array.getElem?_eq_getElem, Array.getElem?_setIfInBounds_ne (Ne.symm h0)]
  have hdeaf : ∀ k, Deaf (t ++ #[x, y]) k = Deaf t k := fun k => Deaf_still t k _ hst
  obtain ⟨st, sm, hwg, hmo⟩ := h.mode
  obtain ⟨ho, hst', hsm, _⟩ := hmo.open_inv trivial
  rw [← hR']
  refine ⟨{ ext0 := by rw [r0], jn := by simpa [Tag.p] using hjn, n31 := h.n31, off := off, size := by simp [h.size]; omega, old := fun k g' h0 h1 hg' => ?_, wk := fun i hi => ?_, dfw := fun i hi => ?_, above := fun k hk => by rw [hdeaf]; exact h.above k (by omega), deaf0 := by rw [hdeaf]; exact h.deaf0, ext := fun i hi => ?_,
            tg := ?_, ti := h.ti.fork hx hy h.deaf0 (h.above _ (Nat.le_refl _)) hvis (fun k b hb => (hmine k b hb).1) hcel, visC := fun k hk => (hvis k _ hk).elim (h.visC k) (fun h' => h.visC 0 h'.2), dn := fun k b hb => (hvis k b hb).elim (h.dn k b) (fun h' => h.dn 0 b h'.2), dnw := h.dnw,
            nob := fun k h0 h1 b hb => ?_, CW := h.CW, Wlt := h.Wlt, Clt := h.Clt, shun := fun a ha => ?_, norel := fun op hop => ?_, rel := fun i hi hs => ?_, has := fun i hi hs => ?_, pay := h.pay, bound := ?_, known := fun i a ha hmem => ?_, over := fun i g hgi hne hc => ?_ }, ⟨st, sm, hwg, ?_⟩, rfl⟩
  · rw [hdeaf]
    rw [gs0 k (by rw [h.size]; omega) (by omega)] at hg'
    exact h.old k g' h0 h1 hg'
  · by_cases e : i = j
    · subst e
      refine ⟨child, ?_, ?_⟩
      · have : d.off + i = (gs.setIfInBounds 0 a').size := by simp [h.size]
        rw [this, Array.getElem?_push_size]
      · rw [rj, upd_same, upd_same]; exact .inl ⟨rfl, rfl, hc⟩
    · obtain ⟨z, hz, hs⟩ := h.wk i (by omega)
      exact ⟨z, by rw [gs0 _ (by rw [h.size]; omega) (by omega)]; exact hz, by rw [ro _ (by omega) (by omega), upd_ne D _ e, upd_ne rk _ e]; exact hs⟩
  · rw [hdeaf]
    by_cases e : i = j
    · subst e; rw [upd_same]; exact h.above _ (Nat.le_refl _)
    · rw [upd_ne D _ e]; exact h.dfw i (by omega)
  · by_cases e : i = j
    · subst e; rw [rj]
    · rw [ro _ (by omega) (by omega)]; exact h.ext i (by omega)
  · refine ⟨fun k b hb => ?_, fun k b hb => (hvis k b hb).elim (h.tg.lt k b) (fun h' => h.tg.lt 0 b h'.2), fun k k' b hne hb hb' => ?_, fun k k' a ha hb => ?_, fun k k' a ha hb => ?_, fun k a ha hb => (hvis k _ hb).elim (h.tg.sv k a ha) (fun h' => h.tg.sv 0 a ha h'.2), fun k a ha hb => ?_, h.tg.sb, fun k a ha => ?_⟩
    · obtain ⟨h1, h2, h3⟩ := hmine k b hb
      rw [ro k h2 h3]; exact h.tg.sub k b h1
    · obtain ⟨h1, h2, h3⟩ := hmine k b hb
      rcases hvis k' b hb' with h4 | ⟨_, h4⟩
      · exact h.tg.ap k k' b hne h1 h4
      · exact h.tg.ap k 0 b h2 h1 h4
    · obtain ⟨i, hi, rfl, _⟩ := ha
      exact (hvis k' _ hb).elim (h.visC k') (fun h' => h.visC 0 h'.2)
    · obtain ⟨i, hi, rfl, h1⟩ := ha
      obtain ⟨i', hi', e, h2⟩ := hb
      cases e
      omega
    · obtain ⟨i, hi, rfl, h1⟩ := hb
      obtain ⟨z, hz, hz'⟩ := ha
      cases hz
      exact h.CW hz'
    · obtain ⟨i, hi, rfl, h1⟩ := ha
      exact h.Clt
  · rcases hvis k b hb with h2 | ⟨h2, _⟩
    · exact h.nob k h0 (by omega) b h2
    · omega
  · obtain ⟨a0, e0, h1, h2, h3, h4⟩ := h.shun a ha
    exact ⟨a0, e0, h1, h2, h3, fun k hk => (hvis k _ hk).elim (h4 k) (fun h' => h4 0 h'.2)⟩
  · rcases Array.mem_append.1 hop with h1 | h1
    · exact h.norel op h1
    · rcases hm op h1 with rfl | rfl
      · rw [hx.2]; simp
      · rw [hy.2]; simp
  · by_cases e : i = j
    · subst e; rw [upd_same] at hs; simp at hs
    · rw [upd_ne D _ e] at hs
      obtain ⟨z, hz⟩ := h.rel i (by omega) hs
      refine ⟨z, hz.appNot fun op hop => ?_⟩
      rcases hm op hop with rfl | rfl
      · rw [hx.1]; omega
      · rw [hy.1]; omega
  · by_cases e : i = j
    · subst e; rw [upd_same] at hs; simp at hs
    · rw [upd_ne D _ e] at hs
      rw [ro _ (by omega) (by omega)]
      exact h.has i (by omega) hs
  · show Vc (j + 1) _ ≤ d.n
    have := Vc_le (j + 1) (upd D j ⟨7, 0, 0⟩)
    omega
  · obtain ⟨ha', hi⟩ := old ha
    rcases h.known i a ha' hmem with h1 | h1 | h1 | ⟨k, h1, h2, h3⟩
    · exact .inl (h1.app _)
    · exact .inr (.inl h1)
    · exact .inr (.inr (.inl h1))
    · exact .inr (.inr (.inr ⟨k, by omega, by rw [g?_old hi]; exact h2, h3⟩))
  · have hi : i < t.size := by obtain ⟨z, hz, _⟩ := hc; exact (old hz).2
    rcases h.over i g (by rw [← g?_old (u := #[x, y]) hi]; exact hgi) hne ((counts_old hi).1 hc) with ⟨m, hm', hb⟩ | ⟨k, h1, h2⟩
    · obtain ⟨z, hz, _⟩ := Option.map_eq_some_iff.1 hm'
      exact .inl ⟨m, by rw [g?_old (lt_size_of_getElem? hz)]; exact hm', hb_app _ hb⟩
    · exact .inr ⟨k, by omega, h2⟩
  · subst hsm hst'
    have e : Vc j D + pend (.sp 0 3) = Vc (j + 1) (upd D j ⟨7, 0, 0⟩) + pend .anch := by rw [Vc_succ j D _ (by simp [Go.ConcN.cnt])]; rfl
    rw [e]
    refine .opn trivial (fun i hi => ?_) (fun _ e => by cases e)
    by_cases e : i = j
    · subst e; rw [upd_same]; exact .inl rfl
    · rw [upd_ne D _ e]; exact ho i (by omega)
theorem f_spawn {b : Nat} (hV : V.ext = .crew d j (.opn 1 0 b)) (hrun : g.status = .running)
    (H : ∀ (w₁ : World), Rely V w w₁ → @PayAt d.pay d.C d.n w₁ → ∃ g' child, stepG P true g w₁ = .spawn g' child w₁ #[] ∧ (LH P (HStop P d j)).ok ⟨V.vis, fun _ => False, .hand d j⟩ child w₁ ∧ (LF P F hF).ok ⟨V.vis, fun _ => False, .crew d (j + 1) (.opn 0 0 d.n)⟩ g' w₁) : (LF P F hF).ok V g w := by
  refine f_turn hF hrun fun gs w₁ sl t hr h0 hc w0 sl0 hst => ?_
  have hlt : 0 < gs.size := (Array.getElem?_eq_some_iff.1 h0).1
  cases hc with
  | alone hc => rw [hc.ext] at hV; cases hV
  | @crew d' j' tag0 R D rk val q Shun hR h =>
    have e := h.ext0
    rw [hR, hV] at e
    cases e
    obtain ⟨g', child, hgo, hchild, hk⟩ := H w₁ hr h.pay
    have hrn := runT_crowd_spawn (P := P) (sl := sl) (i := 0) h0 (show stepG P (0 == 0) g w₁ = _ from hgo)
    rcases hchild with hbad | ⟨r, hchild⟩
    · cases hbad
    subst hR
    rw [h.size] at hrn
    have hoff := h.off
    refine hF _ _ _ _ (hst.trans hrn) (hk _ w₁ sl _ (Rely.refl trivial) ?_ (.crew ?_ (h.spawn ⟨rfl, rfl⟩ ⟨rfl, rfl⟩ hchild)))
    · rw [Array.getElem?_push_lt (by simpa using hlt), ← Array.getElem?_eq_getElem]
      simp [hlt]
    · rw [upd_ne _ _ (by omega), upd_same]
end
section
variable {P : Program} {F : Machine → Trace → Prop} {hF : Back P F} {d : CDat} {j : Nat} {tag : Tag} {V : Rig} {g : Goroutine} {w : World}
theorem f_enter (hV : V.ext = .alone) (hrun : g.status = .running)
    (H : ∀ (w₁ : World), Rely V w w₁ → ∀ off, 1 ≤ off → ∃ g' w' d, stepG P true g w₁ = .go g' w' #[] ∧ Guar0 V w₁ w' #[] ∧ d.Wg = w₁.heap.size ∧ w'.heap.size = w₁.heap.size + 1 ∧ WgAt d.ty d.Wg w' 0 0 ∧ d.off = off ∧ d.n < 2147483648 ∧ V.mine d.C ∧ @PayAt d.pay d.C d.n w' ∧
      (∀ b, V.vis b → d.dn b) ∧ (∀ b, d.Wg ≤ b → d.dn b) ∧ (LF P F hF).ok ⟨fun b => V.vis b ∧ b ≠ d.C, fun b => V.mine b ∧ b ≠ d.C, .crew d 0 (.opn 0 0 d.n)⟩ g' w') : (LF P F hF).ok V g w := by
  refine f_turn hF hrun fun gs w₁ sl t hr h0 hc w0 sl0 hst => ?_
  have hlt : 0 < gs.size := (Array.getElem?_eq_some_iff.1 h0).1
  cases hc with
  | crew hR h => rw [← hR, h.ext0] at hV; cases hV
  | alone hc =>
    obtain ⟨q, Shun, hL, hP, hS⟩ := hc.ex
    obtain ⟨g', w', d, hgo, hgu, hWg, hsz, hwg, hoff, hn, hCm, hpay, hd1, hd2, hk⟩ := H w₁ hr gs.size hlt
    have hrn := runT_crowd_go (P := P) (sl := sl) (i := 0) h0 (show stepG P (0 == 0) g w₁ = _ from hgo)
    have hCv := hc.sub _ hCm
    have hClt := hc.lt _ hCv
    have e0 : ∀ fn pos, MemOp.ofEvents 0 fn pos #[] = #[] := fun fn pos => by rw [ofEvents_eq]; simp
    have ht : t ++ MemOp.ofEvents 0 g.frame.fn g.frame.place #[] = t := by rw [e0]; simp
    have hL' := CI0.leavers hL hlt g g' w' g.frame.fn g.frame.place #[]
    rw [ht] at hL'
    obtain ⟨R, hR⟩ : ∃ R : Nat → Rig, R = upd (fun _ => ⟨fun _ => False, fun _ => False, .alone⟩) 0 ⟨fun b => V.vis b ∧ b ≠ d.C, fun b => V.mine b ∧ b ≠ d.C, .crew d 0 (.opn 0 0 d.n)⟩ := ⟨_, rfl⟩
    have r0 : R 0 = ⟨fun b => V.vis b ∧ b ≠ d.C, fun b => V.mine b ∧ b ≠ d.C, .crew d 0 (.opn 0 0 d.n)⟩ := by rw [hR, upd_same]
    have ro : ∀ k, k ≠ 0 → R k = ⟨fun _ => False, fun _ => False, .alone⟩ := fun k hk => by rw [hR, upd_ne _ _ hk]
    have hvis : ∀ k b, (R k).vis b → k = 0 ∧ V.vis b ∧ b ≠ d.C := fun k b hb => by
      by_cases e : k = 0
      · subst e; rw [r0] at hb; exact ⟨rfl, hb⟩
      · rw [ro k e] at hb; exact hb.elim
    have hmine : ∀ k b, (R k).mine b → k = 0 ∧ V.mine b ∧ b ≠ d.C := fun k b hb => by
      by_cases e : k = 0
      · subst e; rw [r0] at hb; exact ⟨rfl, hb⟩
      · rw [ro k e] at hb; exact hb.elim
    have hcel : ∀ k a, crewCel d 0 k a → k = 0 ∧ a.block = d.C := by
      rintro k a ⟨i, hi, rfl, h1 | h1⟩
      · exact ⟨h1.1, rfl⟩
      · exact absurd h1.2 (Nat.not_lt_zero _)
    have perm : ∀ a : Addr, V.vis a.block → Perm t 0 (.cell a) := fun a ha i z hz hl => by
      rcases hP.known i z hz (by rw [hl]; rfl) with h1 | ⟨h1, _⟩
      · exact h1
      · rw [hl] at h1; obtain ⟨_, e0, _, h2⟩ := hS _ h1; cases e0; exact absurd ha h2
    have hWlt : d.Wg < w'.heap.size := by omega
    have hsizele : w₁.heap.size ≤ w'.heap.size := by omega
    refine hF _ _ _ _ (hst.trans hrn) (hk _ w' sl _ (Rely.refl trivial) (get_map_set_same _ _ _ hlt) ?_)
    rw [ht]
    letI := d.pay
    refine .crew (d := d) (j := 0) (tag := .opn 0 0 d.n) (R := R) (D := fun _ => ⟨1, 0, 0⟩) (rk := fun _ => .zero) (val := fun _ => undef) (q := q) (Shun := Shun) r0 ⟨{
        ext0 := by rw [r0], jn := Nat.zero_le _, n31 := hn, off := by rw [hoff]; exact hlt, size := by simp [hoff], old := fun k x h1 h2 hx => hL'.old k x h1 hx, wk := fun i hi => absurd hi (Nat.not_lt_zero _), dfw := fun i hi => absurd hi (Nat.not_lt_zero _),
        above := fun k hk => hL.above k (by rw [hoff] at hk; exact hk), deaf0 := hP.hears, ext := fun i hi => absurd hi (Nat.not_lt_zero _), tg := ?_, ti := ?_, visC := fun k hk => (hvis k _ hk).2.2 rfl, dn := fun k b hb => hd1 b (hvis k b hb).2.1, dnw := hd2, nob := fun k h1 _ b hb => ?_, CW := ?_, Wlt := hWlt, Clt := Nat.lt_of_lt_of_le hClt hsizele,
        shun := fun a ha => ?_, norel := fun op hop e => ?_, rel := fun i hi => absurd hi (Nat.not_lt_zero _), has := fun i hi => absurd hi (Nat.not_lt_zero _), pay := hpay, bound := Nat.zero_le _, known := fun i a ha hm => (hP.known i a ha hm).imp id .inl, over := fun i g hgi hne hcn => .inl (hP.over i g hgi hne hcn) }, ⟨0, 0, hwg, ?_⟩, rfl⟩
    · refine ⟨fun k b hb => ?_, fun k b hb => Nat.lt_of_lt_of_le (hc.lt b (hvis k b hb).2.1) hsizele, fun k k' b hne hb hb' => hne ((hmine k b hb).1.trans (hvis k' b hb').1.symm), fun k k' a ha hb => (hvis k' _ hb).2.2 (hcel k a ha).2, fun k k' a ha hb => (hcel k a ha).1.trans (hcel k' a hb).1.symm, fun k a ha hb => ?_, fun k a ha hb => ?_, fun a ha => ?_, fun k a ha => ?_⟩
      · obtain ⟨rfl, h1, h2⟩ := hmine k b hb
        rw [r0]; exact ⟨hc.sub b h1, h2⟩
      · obtain ⟨z, hz, hz'⟩ := ha
        cases hz
        have := hc.lt _ (hvis k _ hb).2.1
        omega
      · obtain ⟨z, hz, hz'⟩ := ha
        cases hz
        have := (hcel k _ hb).2
        omega
      · obtain ⟨z, hz, hz'⟩ := ha
        cases hz
        omega
      · rw [(hcel k a ha).2]; omega
    · refine ⟨hP.clean, fun op hop => MemAct.low_mono hsizele (hP.seen op hop), fun i op x hi hx hs => ?_, fun k a hk => ?_, fun k a hk => ?_, fun k a hk => ?_⟩
      · obtain ⟨a, ha, hb⟩ := hs
        have := low_touch (hP.seen op (Array.mem_of_getElem? hi)) hx ha
        omega
      · obtain ⟨rfl, h1, _⟩ := hvis k _ hk
        exact .of (perm a h1)
      · obtain ⟨rfl, h1, _⟩ := hmine k _ hk
        exact perm a (hc.sub _ h1)
      · obtain ⟨rfl, h1⟩ := hcel k a hk
        exact perm a (h1 ▸ hCv)
    · exact absurd (hvis k b hb).1 (by omega)
    · omega
    · obtain ⟨a0, e0, h1, h2⟩ := hS a ha
      refine ⟨a0, e0, Nat.lt_of_lt_of_le h1 hsizele, fun e => h2 (e ▸ hCv), by omega, fun k hk => h2 (hvis k _ hk).2.1⟩
    · have := hP.seen op hop
      rw [e] at this
      have : (stA d.Wg).block < w₁.heap.size := this
      simp only [stA] at this
      omega
    · have := Mode.opn (j := 0) (D := fun _ => ⟨1, 0, 0⟩) (tag := .anch) trivial (fun i hi => absurd hi (Nat.not_lt_zero _)) (fun _ e => by cases e)
      show Go.ConcN.Mode 0 _ .anch 0 0
      simpa [Vc, sumTo, pend] using this
theorem f_leave (hV : V.ext = .crew d d.n (.fin 0)) (hrun : g.status = .running)
    (H : ∀ (w₁ : World) (vals : Nat → Value) (vis : Nat → Nat → Prop), Rely V w w₁ → @PayAt d.pay d.C d.n w₁ → (∀ i, i < d.n → Has d.C i (vals i) w₁ ∧ d.Res i (vis i) (vals i) w₁ ∧ ∀ b, vis i b → d.dn b) →
      ∃ g' V', stepG P true g w₁ = .go g' w₁ #[Go.ConcR.mk (.acquire (stA d.Wg))] ∧ V'.ext = .alone ∧ (∀ b, V'.vis b → V.vis b ∨ b = d.C ∨ ∃ i, i < d.n ∧ vis i b) ∧ (∀ b, V'.mine b → V'.vis b) ∧ (LF P F hF).ok V' g' w₁) : (LF P F hF).ok V g w := by
  refine f_turn hF hrun fun gs w₁ sl t hr h0 hc w0 sl0 hst => ?_
  have hlt : 0 < gs.size := (Array.getElem?_eq_some_iff.1 h0).1
  cases hc with
  | alone hc => rw [hc.ext] at hV; cases hV
  | @crew d' j' tag0 R D rk val q Shun hR h =>
    have e := h.ext0
    rw [hR, hV] at e
    cases e
    letI := d.pay
    obtain ⟨st, sm, hwg, hmo⟩ := h.mode
    obtain ⟨hq1, _, _⟩ := hmo.fin_inv trivial
    have off := h.off
    obtain ⟨g', V', hgo, hVe, hVv, hVm, hk⟩ := H w₁ val (fun i => (R (d.off + i)).vis) hr h.pay (fun i hi => by
      have := h.has i hi (by rw [hq1 i hi]; omega)
      exact ⟨this.1, this.2, h.dn _⟩)
    have hrn := runT_crowd_go (P := P) (sl := sl) (i := 0) h0 (show stepG P (0 == 0) g w₁ = _ from hgo)
    refine hF _ _ _ _ (hst.trans hrn) (hk _ w₁ sl _ (Rely.refl (by rw [hVe]; trivial)) (get_map_set_same _ _ _ hlt) (.alone ?_))
    have e1 : ∀ fn pos, MemOp.ofEvents 0 fn pos #[Go.ConcR.mk (.acquire (stA d.Wg))] = #[{ g := 0, fn, pos, act := .mark (.acquire (stA d.Wg)) }] := fun fn pos => by rw [ofEvents_eq]; simp [Go.ConcR.ofEvent_mk]
    rw [e1]
    obtain ⟨y, hy⟩ : ∃ y : MemOp, y = { g := 0, fn := g.frame.fn, pos := g.frame.place, act := .mark (.acquire (stA d.Wg)) } := ⟨_, rfl⟩
    rw [← hy]
    have yg : y.g = 0 := by rw [hy]
    have ya : y.act = .mark (.acquire (stA d.Wg)) := by rw [hy]
    have hu : ∀ op ∈ #[y], op.g = 0 := fun op hop => by simp at hop; rw [hop, yg]
    have hnt : ∀ op ∈ #[y], op.act.touch? = none := fun op hop => by simp at hop; rw [hop, ya]; rfl
    have hlast : (t ++ #[y])[t.size]? = some y := by simp
    have hd0 : Deaf t 0 = 0 := h.deaf0
    have heard : (t ++ #[y]).heard t.size := ⟨0, by simp [Trace.g?, yg], by rw [deaf_old (Nat.le_refl _)]; exact hd0⟩
    have hdeaf : ∀ k, Deaf (t ++ #[y]) k = Deaf t k := fun k => Deaf_still t k _ fun op hop => by simp at hop; rw [hop, ya]; simp
    have hnorel : ∀ k, (t ++ #[y]).act? k ≠ some (.mark (.release (stA d.Wg))) := fun k e => by
      obtain ⟨op, hop, hoa⟩ := Option.map_eq_some_iff.1 e
      rcases Array.mem_append.1 (Array.mem_of_getElem? hop) with h1 | h1
      · exact h.norel op h1 hoa
      · simp at h1; rw [h1, ya] at hoa; cases hoa
    have join : ∀ i, i < d.n → ∃ r, RelBy (stA d.Wg) (t ++ #[y]) (d.off + i) r ∧ HappensBefore (t ++ #[y]) r t.size := fun i hi => by
      obtain ⟨r, hr⟩ := h.rel i hi (by rw [hq1 i hi]; omega)
      have hr' : RelBy (stA d.Wg) (t ++ #[y]) (d.off + i) r := hr.appOther hu (by omega)
      have hlt : r < t.size := lt_of_act? hr.act
      exact ⟨r, hr', .single (.inr ⟨.marked hlt (.inr hr'.act) (by rw [act?_of hlast, ya]) (fun k _ _ => hnorel k), hr'.heard, heard⟩)⟩
    have hand : ∀ i k, k < d.n → (t ++ #[y]).g? i = some (d.off + k) → (t ++ #[y]).counts i → HappensBefore (t ++ #[y]) i t.size := fun i k hk hg hcn => by
      obtain ⟨r, hr, hb⟩ := join k hk
      have hle : i ≤ r := Nat.le_of_not_lt fun hlt => hr.after i hlt hg hcn
      rcases Nat.lt_or_ge i r with hlt | hge
      · exact .trans (.single (.inl ⟨hlt, _, hg, hr.g⟩)) hb
      · obtain rfl : i = r := by omega
        exact hb
    have h0t : (t ++ #[y]).g? t.size = some 0 := by simp [Trace.g?, yg]
    have old : ∀ {i : Nat} {a : Touch}, touchAt (t ++ #[y]) i = some a → touchAt t i = some a ∧ i < t.size := by
      intro i a ha
      obtain ⟨z, hz, hza⟩ := touch_of ha
      rcases getElem?_append_cases hz with ⟨hi, hz'⟩ | ⟨_, hzu⟩
      · exact ⟨by rw [touchAt_of hz']; exact hza, hi⟩
      · rw [hnt z hzu] at hza; cases hza
    have hLv : Leavers P (t ++ #[y]) ((gs.map (woken P g g' w₁)).setIfInBounds 0 g') (fun k => if k < d.off then q k else (D (k - d.off)).fuel) := by
      refine ⟨fun k x hk hx => ?_, fun k hk => ?_⟩
      · rw [get_map_set _ _ _ _ (by omega)] at hx
        obtain ⟨z, hz, rfl⟩ := Option.map_eq_some_iff.1 hx
        rw [hdeaf]
        by_cases e : k < d.off
        · have := h.old k z hk e hz
          rw [woken_quitsD this]
          simpa [e] using this
        · obtain ⟨i, rfl⟩ : ∃ i, k = d.off + i := ⟨k - d.off, by omega⟩
          have hi : i < d.n := by
            have := (Array.getElem?_eq_some_iff.1 hz).1
            rw [h.size] at this; omega
          obtain ⟨z', hz', hs⟩ := h.wk i hi
          rw [hz] at hz'; cases hz'
          rw [hs.woken, h.dfw i hi]
          simp only [e, if_false, Nat.add_sub_cancel_left]
          rcases hs with ⟨h7, _⟩ | ⟨_, hs⟩
          · rw [hq1 i hi] at h7; omega
          · rw [hq1 i hi] at hs
            cases hs with
            | quit hs => exact hs
      · rw [hdeaf]
        exact h.above k (by simpa [h.size] using hk)
    refine ⟨hVe, ⟨_, fun l => Shun l ∨ ShN d.Wg l, hLv, ⟨fun said => ?_, fun i a ha hm => ?_, fun i g hgi hne hcn => ?_, by rw [hdeaf]; exact hd0, fun op hop => ?_⟩, fun a ha => ?_⟩, fun b hb => ?_, hVm⟩
    · exact noRace_append (h.ti.nr said) hu fun i a _ op hop b hb _ => by rw [hnt op hop] at hb; cases hb
    · obtain ⟨ha', hi⟩ := old ha
      rcases h.known i a ha' hm with h1 | h1 | h1 | ⟨k, h1, h2, h3⟩
      · exact .inl (h1.app _)
      · exact .inr ⟨.inl h1.1, h1.2⟩
      · exact .inr ⟨.inr h1.1, h1.2⟩
      · exact .inl ⟨t.size, y, hlast, yg, .inr (hand i k h1 (by rw [g?_old hi]; exact h2) ⟨a, ha, hm, .inl h3⟩)⟩
    · have hi : i < t.size := by obtain ⟨z, hz, _⟩ := hcn; exact (old hz).2
      rcases h.over i g (by rw [← g?_old (u := #[y]) hi]; exact hgi) hne ((counts_old hi).1 hcn) with ⟨m, hm', hb⟩ | ⟨k, h1, rfl⟩
      · obtain ⟨z, hz, _⟩ := Option.map_eq_some_iff.1 hm'
        exact ⟨m, by rw [g?_old (lt_size_of_getElem? hz)]; exact hm', hb_app _ hb⟩
      · exact ⟨t.size, h0t, hand i k h1 hgi hcn⟩
    · rcases Array.mem_append.1 hop with h1 | h1
      · exact h.ti.low op h1
      · simp at h1
        rw [h1, ya]
        exact h.Wlt
    · have vis : ∀ b, V'.vis b → b = d.C ∨ ∃ k, (R k).vis b := fun b hb => (hVv b hb).elim (fun h => .inr ⟨0, hR ▸ h⟩) fun h => h.elim .inl fun ⟨i, _, h⟩ => .inr ⟨_, h⟩
      rcases ha with ha | ⟨z, hz, hz'⟩
      · obtain ⟨a0, e0, h1, h2, h3, h4⟩ := h.shun a ha
        refine ⟨a0, e0, h1, fun hv => (vis _ hv).elim h2 fun ⟨k, hk⟩ => h4 k hk⟩
      · refine ⟨z, hz, ?_⟩
        rw [hz']
        refine ⟨h.Wlt, fun hv => (vis _ hv).elim (fun e => h.CW e.symm) fun ⟨k, hk⟩ => h.toCrew.visW k hk⟩
    · rcases hVv b hb with h1 | rfl | ⟨i, _, h1⟩
      · exact h.tg.lt 0 b (hR ▸ h1)
      · exact h.Clt
      · exact h.tg.lt _ b h1
end
end Go.Eng

namespace Go.Eng
open Go Go.Conc Go.ConcN
open Go.ConcR (g_of_ofEvents)

section
variable {P : Program}
theorem Reached.back (ok : Rig → Goroutine → World → Prop) : Back P (Reached P ok) :=
  fun _ _ _ _ hs ⟨N, gs, w, sl, t', V, g, h1, h2, h3, h4⟩ => ⟨N + 1, gs, w, sl, t', V, g, by simp only [runNT, hs]; exact h1, h2, h3, h4⟩
theorem lf_of_ok (L : Lg P) {V : Rig} {g : Goroutine} {w : World} (hV : V.ext = .alone) (h : L.ok V g w) : (LF P (Reached P L.ok) (Reached.back _)).ok V g w := by
  intro gs w₁ sl t hr h0 hc
  cases hc with
  | alone hc => exact ⟨0, gs, w₁, sl, t, V, g, rfl, h0, hc, L.rely h hr⟩
  | crew hR hc => rw [← hR, hc.ext0] at hV; cases hV
theorem ok_of_lf (L : Lg P) {V : Rig} {g : Goroutine} {w : World} (hV : V.ext = .alone) (h : (LF P (Reached P L.ok) (Reached.back _)).ok V g w) : L.ok V g w :=
  L.big hV fun gs w₁ sl t hr h0 hc => h gs w₁ sl t hr h0 (.alone hc)
theorem wpV_lift (L : Lg P) {c : Code} {Q : Exit → Act → CW → Prop} {a : Act} {x : CW} (hV : x.V.ext = .alone) (h : c.wpV (LF P (Reached P L.ok) (Reached.back _)) (fun e a x => Q e a x ∧ x.V.ext = .alone) a x) : c.wpV L Q a x := by
  intro b k cs hb hf hc
  refine ok_of_lf L hV (h b k cs hb hf fun e a' x' q => ?_)
  have := hc e a' x' q.1
  cases e with
  | normal => exact lf_of_ok L q.2 this
  | exit id => obtain ⟨k', h1, h2⟩ := this; exact ⟨k', h1, lf_of_ok L q.2 h2⟩
  | ret => exact fun todo => lf_of_ok L q.2 (this todo)
  | goto l => exact this
  | panic ch => exact this
  | outgrown => exact this
def EndsF (P : Program) (Post : Value → World → Prop) (m : Machine) (t : Trace) : Prop :=
  ∃ N last o w' t', runNT P (N + 1) m t = (.ended o w', t') ∧ runN P N m = .next last ∧ step P last = .ended o w' ∧ Go.Conc.Good P Post last o w' t'
theorem step_of_stepT {m m' : Machine} {ops : Trace} (h : stepT P m = (.next m', ops)) : step P m = .next m' := by
  have := congrArg Prod.fst h
  simpa [step] using this
theorem EndsF.back (Post : Value → World → Prop) : Back P (EndsF P Post) := by
  rintro m t m' ops hs ⟨N, last, o, w', t', h1, h2, h3, h4⟩
  exact ⟨N + 1, last, o, w', t', by rw [show N + 1 + 1 = (N + 1) + 1 from rfl]; simp only [runNT, hs] at h1 ⊢; exact h1, by simp only [runN, step_of_stepT hs]; exact h2, h3, h4⟩
theorem f_end {Post : Value → World → Prop} {V : Rig} {g : Goroutine} {w : World} (hV : V.ext = .alone) (hrun : g.status = .running)
    (H : ∀ w₁, Rely V w w₁ → ∃ v es, stepG P true g w₁ = .ended (.done v) w₁ es ∧ (∀ e ∈ es, EvG V w₁.heap.size w₁.heap.size e) ∧ Post v w₁) : (LF P (EndsF P Post) (EndsF.back Post)).ok V g w := by
  refine f_turn (EndsF.back Post) hrun fun gs w₁ sl t hr h0 hc w0 sl0 hst => ?_
  cases hc with
  | crew hR h => rw [← hR, h.ext0] at hV; cases hV
  | alone hc =>
    obtain ⟨q, Shun, hL, hP, hS⟩ := hc.ex
    obtain ⟨v, es, hend, hes, hpost⟩ := H w₁ hr
    have hrunT := runT_many_ended (P := P) (sl := sl) (i := 0) h0 (show stepG P (0 == 0) g w₁ = _ from hend)
    have hP' := hP.own (fn := g.frame.fn) (pos := g.frame.place) (evL_guar (Nat.le_refl _) hS hc.sub hc.lt hes)
    have hs : step P (crowd gs w0 sl0) = .ended (.done v) w₁ := by
      have := congrArg Prod.fst (hst.trans hrunT)
      simpa [step] using this
    refine ⟨0, crowd gs w0 sl0, .done v, w₁, _, by simp only [runNT, hst.trans hrunT], rfl, hs, v, rfl, hpost, hP'.clean, hP'.over, ⟨fun x hx => ?_, rfl⟩, fun j x hx hj => ?_⟩
    · obtain ⟨j, hj⟩ := List.mem_iff_getElem?.1 hx
      rw [List.getElem?_drop] at hj
      exact ⟨_, (hL.old (1 + j) x (by omega) (by simpa [crowd] using hj)).leaves⟩
    · have hq := hL.old j x (by omega) hx
      refine ⟨q j, ?_⟩
      have e : (t ++ MemOp.ofEvents 0 g.frame.fn g.frame.place es).deaf j (t ++ MemOp.ofEvents 0 g.frame.fn g.frame.place es).size = Deaf t j :=
        Deaf_other t (g := j) (g' := 0) (by omega) _ g_of_ofEvents
      rw [e]
      exact hq.hears _
end
end Go.Eng
