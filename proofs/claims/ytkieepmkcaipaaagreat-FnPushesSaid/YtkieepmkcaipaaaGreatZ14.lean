/- My walking engine, part 14: abstract values of Go, and the rules of a walk over them. No program in sight. -/
import Derived.Test.YtkieepmkcaipaaaGreatZ13
import Derived.Conc.WgGenN3
namespace Go.Eng
open Go Go.Conc Go.ConcN Go.RowKit Go.Conc.Lib Go.ConcR.Gen Go.ConcN.Gen
open Go.ConcR (KK wgBlock WgAt stA smA rd wr DC0 Bk g_of_ofEvents bk_of_mute ofEvent_loc_mark)

def RLw (vis : Nat → Prop) (ty : TypeId) (Wg : Nat) (w w₁ : World) : Prop := RelyB vis w w₁ ∧ (WgLive ty Wg w → WgLive ty Wg w₁)
def KW (vis : Nat → Prop) (ty : TypeId) (Wg : Nat) (w0 w : World) : Prop := RelyB vis w0 w ∧ WgLive ty Wg w
theorem KW.set {vis : Nat → Prop} {ty : TypeId} {Wg : Nat} {w0 w w₁ : World} (h : KW vis ty Wg w0 w) (hn : ¬ vis Wg) (ha : Aside Wg w w₁) (hl : WgLive ty Wg w₁) : KW vis ty Wg w0 w₁ :=
  ⟨h.1.trans ⟨ha.os, ha.tape, ha.output, by rw [ha.size]; exact Nat.le_refl _, fun b hb => ha.block b fun e => hn (e ▸ hb)⟩, hl⟩
section
variable {P : Program} {F : Machine → Trace → Prop} {hF : Back P F} {d : CDat} {j : Nat} {tag : Tag} {V : Rig}
theorem f_goes (hV : V.ext = .crew d j tag) : ∀ (n : Nat) {g : Goroutine} {w : World}, Go.Conc.Goes P true (RLw V.vis d.ty d.Wg) DC0 (LF P F hF |>.ok V) n g w → (LF P F hF).ok V g w
  | 0, g, w, h => h w ⟨.refl _ _, id⟩
  | n + 1, g, w, h => by
    rcases h with h | ⟨hs, h⟩
    · exact h w ⟨.refl _ _, id⟩
    · refine (LF P F hF).step hs fun w₁ r => ?_
      have hr : RLw V.vis d.ty d.Wg w w₁ := ⟨r.toRelyB, by have := r.ext; rw [hV] at this; exact this⟩
      have h1 := h w₁ hr
      show ∃ g' w' es, stepG P true g w₁ = .go g' w' es ∧ _
      cases hgo : stepG P true g w₁ with
      | go g' w' es =>
        rw [hgo, goes_go] at h1
        obtain ⟨⟨rfl, rfl⟩, hk⟩ := h1
        exact ⟨g', _, _, rfl, Guar.idle V _, by rw [Rig.grow_self]; exact f_goes hV n hk⟩
      | _ => rw [hgo] at h1; exact h1.elim
end
theorem zr {vis : Nat → Prop} {ty : TypeId} {Wg : Nat} {w0 w w₁ : World} (h : KW vis ty Wg w0 w) (r : RLw vis ty Wg w w₁) : KW vis ty Wg w0 w₁ := ⟨h.1.trans r.1, r.2 h.2⟩
section
variable {P : Program} {F : Machine → Trace → Prop} {hF : Back P F} {d : CDat} {j : Nat} {tag : Tag} {V : Rig} {g : Goroutine} {w : World} {ty : TypeId} {w0 : World}
theorem f_goesL (hty : d.ty = ty) (hV : V.ext = .crew d j tag) (n : Nat) (h : Go.Conc.Goes P true (RLw V.vis ty d.Wg) DC0 ((LF P F hF).ok V) n g w) : (LF P F hF).ok V g w := by subst hty; exact f_goes hV n h
theorem bk_disable (Wg : Nat) : ∀ e ∈ #[Go.ConcR.mk .disable], BkS Wg e := by intro e he; simp at he; subst he; exact .inl (.inl rfl)
theorem bk_enable (Wg : Nat) : ∀ e ∈ #[Go.ConcR.mk .enable], BkS Wg e := by intro e he; simp at he; subst he; exact .inl (.inr (.inl rfl))
theorem f_disable {p b : Nat} (hK : KW V.vis ty d.Wg w0 w) (hty : d.ty = ty) (hV : V.ext = .crew d j (.opn p 0 b)) (hrun : g.status = .running) {g' : Goroutine} (hgo : ∀ w, stepG P true g w = .go g' w #[Go.ConcR.mk .disable])
    (hk : ∀ w, KW V.vis ty d.Wg w0 w → (LF P F hF).ok (V.as (.crew d j (.opn p 1 b))) g' w) : (LF P F hF).ok V g w := by
  subst hty
  refine f_book hV hrun fun w₁ D st sm hr hwg hmo hbd hjn hnv => ⟨g', w₁, _, .opn p 1 b, hgo w₁, Aside.refl _ _, bk_disable _, rfl, hjn, hbd, ⟨st, sm, hwg, hmo⟩, by simp only [Tag.k, Tag.p]; split <;> rfl, hk w₁ ⟨hK.1.trans hr.toRelyB, _, _, hwg⟩⟩
theorem f_enable {p b : Nat} (hK : KW V.vis ty d.Wg w0 w) (hty : d.ty = ty) (hV : V.ext = .crew d j (.opn p 1 b)) (hrun : g.status = .running) (hgo : ∀ w, ∃ g', stepG P true g w = .go g' w #[Go.ConcR.mk .enable] ∧
    (KW V.vis ty d.Wg w0 w → (LF P F hF).ok (V.as (.crew d j (.opn p 0 b))) g' w)) : (LF P F hF).ok V g w := by
  subst hty
  refine f_book hV hrun fun w₁ D st sm hr hwg hmo hbd hjn hnv => ?_
  obtain ⟨g', h1, h2⟩ := hgo w₁
  exact ⟨g', w₁, _, .opn p 0 b, h1, Aside.refl _ _, bk_enable _, rfl, hjn, hbd, ⟨st, sm, hwg, hmo⟩, by simp only [Tag.k, Tag.p]; split <;> rfl, h2 ⟨hK.1.trans hr.toRelyB, _, _, hwg⟩⟩
theorem f_enable' (hK : KW V.vis ty d.Wg w0 w) (hty : d.ty = ty) (hV : V.ext = .crew d j (.fin 1)) (hrun : g.status = .running) {g' : Goroutine} (hgo : ∀ w, stepG P true g w = .go g' w #[Go.ConcR.mk .enable])
    (hk : ∀ w, KW V.vis ty d.Wg w0 w → (LF P F hF).ok (V.as (.crew d j (.fin 0))) g' w) : (LF P F hF).ok V g w := by
  subst hty
  refine f_book hV hrun fun w₁ D st sm hr hwg hmo hbd hjn hnv => ⟨g', w₁, _, .fin 0, hgo w₁, Aside.refl _ _, bk_enable _, rfl, hjn, hbd, ⟨st, sm, hwg, hmo⟩, rfl, hk w₁ ⟨hK.1.trans hr.toRelyB, _, _, hwg⟩⟩
theorem f_said (hK : KW V.vis ty d.Wg w0 w) (hty : d.ty = ty) (hV : V.ext = .crew d j tag) (htag : tag.p = pend tag.k) (hrun : g.status = .running) {g' : Goroutine} {es : Array Event} (hes : (∃ a : Addr, a.block = d.Wg ∧ (es = #[⟨.mark (.read a), false, true⟩] ∨ es = #[⟨.mark (.write a), false, true⟩]))) (hgo : ∀ w, stepG P true g w = .go g' w es)
    (hk : ∀ w, KW V.vis ty d.Wg w0 w → (LF P F hF).ok V g' w) : (LF P F hF).ok V g w := by
  subst hty
  refine f_book hV hrun fun w₁ D st sm hr hwg hmo hbd hjn hnv => ⟨g', w₁, _, tag, hgo w₁, Aside.refl _ _, ?_, ?_, hjn, hbd, ⟨st, sm, hwg, hmo⟩, htag.symm, by rw [Rig.as_self hV]; exact hk w₁ ⟨hK.1.trans hr.toRelyB, _, _, hwg⟩⟩
  · obtain ⟨a, ha, rfl | rfl⟩ := hes
    · intro e he; simp at he; subst he; exact .inr ⟨a, ha, .inl rfl⟩
    · intro e he; simp at he; subst he; exact .inr ⟨a, ha, .inr rfl⟩
  · obtain ⟨a, ha, rfl | rfl⟩ := hes <;> rfl
theorem bk_rd (Wg : Nat) : ∀ e ∈ #[rd (stA Wg)], BkS Wg e := by intro e he; simp at he; subst he; exact .inl (bk_cell _ _ rfl)
theorem bk_rdwr (Wg : Nat) : ∀ e ∈ #[rd (stA Wg), wr (stA Wg)], BkS Wg e := by intro e he; simp at he; rcases he with rfl | rfl <;> exact .inl (bk_cell _ _ rfl)
theorem f_addU {b : Nat} (hK : KW V.vis ty d.Wg w0 w) (hty : d.ty = ty) (hV : V.ext = .crew d j (.opn 0 1 b)) (hj : j < d.n) (hn : d.n < 2147483648) (hrun : g.status = .running)
    (hgo : ∀ (w : World) (v : Nat), v < 2147483647 → KW V.vis ty d.Wg w0 w → ¬ V.vis d.Wg → WgAt ty d.Wg w (v * KK) 0 → ∃ g', stepG P true g w = .go g' (w.setCell (stA d.Wg) (.int .u64 ((v + 1) * KK))) #[rd (stA d.Wg), wr (stA d.Wg)] ∧
      (LF P F hF).ok (V.as (.crew d j (.opn 1 1 b))) g' (w.setCell (stA d.Wg) (.int .u64 ((v + 1) * KK)))) : (LF P F hF).ok V g w := by
  subst hty
  refine f_book hV hrun fun w₁ D st sm hr hwg hmo hbd hjn hnv => ?_
  obtain ⟨ho, rfl, rfl, _⟩ := hmo.open_inv trivial
  have hV' := Vc_le j D
  have e0 : Vc j D + pend (Tag.opn 0 1 b).k = Vc j D := rfl
  rw [e0] at hwg
  obtain ⟨g', h1, h2⟩ := hgo w₁ (Vc j D) (by omega) ⟨hK.1.trans hr.toRelyB, _, _, hwg⟩ hnv hwg
  refine ⟨g', _, _, .opn 1 1 b, h1, aside_setCell _ (stA d.Wg) _, bk_rdwr _, rfl, by show j + 1 ≤ d.n; omega, hbd, ⟨_, _, hwg.setSt _, ?_⟩, rfl, h2⟩
  have := Mode.opn (j := j) (D := D) (tag := .sp 0 3) trivial ho (fun _ e => by cases e)
  show Go.ConcN.Mode j D (.sp 0 3) _ _
  simpa [pend] using this
theorem f_load {b : Nat} (hK : KW V.vis ty d.Wg w0 w) (hty : d.ty = ty) (hV : V.ext = .crew d j (.opn 0 1 b)) (hn : d.n < 2147483648) (hrun : g.status = .running)
    (hgo : ∀ (w : World) (v : Nat), v < 2147483648 → v ≤ b → KW V.vis ty d.Wg w0 w → WgAt ty d.Wg w (v * KK) 0 → ∃ g', stepG P true g w = .go g' w #[rd (stA d.Wg)] ∧
      (v = 0 → (LF P F hF).ok (V.as (.crew d j (.fin 1))) g' w) ∧ (v ≠ 0 → (LF P F hF).ok (V.as (.crew d j (.opn 0 1 v))) g' w)) : (LF P F hF).ok V g w := by
  subst hty
  refine f_book hV hrun fun w₁ D st sm hr hwg hmo hbd hjn hnv => ?_
  obtain ⟨ho, rfl, rfl, _⟩ := hmo.open_inv trivial
  have hV' := Vc_le j D
  have e0 : Vc j D + pend (Tag.opn 0 1 b).k = Vc j D := rfl
  have hjn' : j ≤ d.n := hjn
  rw [e0] at hwg
  obtain ⟨g', h1, h2, h3⟩ := hgo w₁ (Vc j D) (by omega) hbd ⟨hK.1.trans hr.toRelyB, _, _, hwg⟩ hwg
  by_cases hv : Vc j D = 0
  · refine ⟨g', _, _, .fin 1, h1, Aside.refl _ _, bk_rd _, rfl, hjn, trivial, ⟨_, _, hwg, ?_⟩, rfl, h2 hv⟩
    have := Mode.fin (j := j) (D := D) (tag := .w4) trivial (allQuit_of ho hv)
    show Go.ConcN.Mode j D .w4 _ _
    simpa [hv] using this
  · refine ⟨g', _, _, .opn 0 1 (Vc j D), h1, Aside.refl _ _, bk_rd _, rfl, hjn, Nat.le_refl _, ⟨_, _, hwg, ?_⟩, rfl, h3 hv⟩
    have := Mode.opn (j := j) (D := D) (tag := .anch) trivial ho (fun _ e => by cases e)
    exact this
theorem f_cas {vs : Nat} (hK : KW V.vis ty d.Wg w0 w) (hty : d.ty = ty) (hV : V.ext = .crew d j (.opn 0 1 vs)) (hvs : vs ≠ 0) (hrun : g.status = .running)
    (hgo : ∀ (w : World) (v : Nat), v ≤ vs → KW V.vis ty d.Wg w0 w → ¬ V.vis d.Wg → WgAt ty d.Wg w (v * KK) 0 →
      (v = vs → ∃ g', stepG P true g w = .go g' (w.setCell (stA d.Wg) (.int .u64 (v * KK + 1))) #[rd (stA d.Wg), wr (stA d.Wg)] ∧ (LF P F hF).ok (V.as (.crew d j .reg)) g' (w.setCell (stA d.Wg) (.int .u64 (v * KK + 1)))) ∧
      (v ≠ vs → ∃ g', stepG P true g w = .go g' w #[rd (stA d.Wg)] ∧ (LF P F hF).ok (V.as (.crew d j (.opn 0 1 (vs - 1)))) g' w)) : (LF P F hF).ok V g w := by
  subst hty
  refine f_book hV hrun fun w₁ D st sm hr hwg hmo hbd hjn hnv => ?_
  obtain ⟨ho, rfl, rfl, _⟩ := hmo.open_inv trivial
  have e0 : Vc j D + pend (Tag.opn 0 1 vs).k = Vc j D := rfl
  have hbd' : Vc j D ≤ vs := hbd
  rw [e0] at hwg
  obtain ⟨h1, h2⟩ := hgo w₁ (Vc j D) hbd ⟨hK.1.trans hr.toRelyB, _, _, hwg⟩ hnv hwg
  by_cases hv : Vc j D = vs
  · obtain ⟨g', h3, h4⟩ := h1 hv
    refine ⟨g', _, _, .reg, h3, aside_setCell _ (stA d.Wg) _, bk_rdwr _, rfl, hjn, trivial, ⟨_, _, hwg.setSt _, ?_⟩, rfl, h4⟩
    exact .reg trivial ho (by omega)
  · obtain ⟨g', h3, h4⟩ := h2 hv
    refine ⟨g', _, _, .opn 0 1 (vs - 1), h3, Aside.refl _ _, bk_rd _, rfl, hjn, by show Vc j D ≤ vs - 1; omega, ⟨_, _, hwg, ?_⟩, rfl, h4⟩
    exact Mode.opn (j := j) (D := D) (tag := .anch) trivial ho (fun _ e => by cases e)
theorem f_load4 (hK : KW V.vis ty d.Wg w0 w) (hty : d.ty = ty) (hV : V.ext = .crew d j (.fin 1)) (hrun : g.status = .running) (hgo : ∀ (w : World), KW V.vis ty d.Wg w0 w → WgAt ty d.Wg w 0 0 → ∃ g', stepG P true g w = .go g' w #[rd (stA d.Wg)] ∧ (LF P F hF).ok V g' w) : (LF P F hF).ok V g w := by
  subst hty
  refine f_book hV hrun fun w₁ D st sm hr hwg hmo hbd hjn hnv => ?_
  obtain ⟨ho, rfl, rfl⟩ := hmo.fin_inv trivial
  obtain ⟨g', h1, h2⟩ := hgo w₁ ⟨hK.1.trans hr.toRelyB, _, _, hwg⟩ hwg
  exact ⟨g', _, _, .fin 1, h1, Aside.refl _ _, bk_rd _, rfl, hjn, hbd, ⟨_, _, hwg, hmo⟩, rfl, by rw [Rig.as_self hV]; exact h2⟩
theorem f_semaL (hK : KW V.vis ty d.Wg w0 w) (hty : d.ty = ty) (hV : V.ext = .crew d j .reg) (hrun : g.status = .running) (hoffers : g.offers = none)
    (H1 : ∀ (w₁ : World) (st : Int), WgAt ty d.Wg w₁ st 0 → stepG P true g w₁ = .go { g with status := .blocked } w₁ #[])
    (H2 : ∀ (w₁ : World), KW V.vis ty d.Wg w0 w₁ → ¬ V.vis d.Wg → WgAt ty d.Wg w₁ 0 1 → ∃ g', stepG P true g w₁ = .go g' (w₁.setCell (smA d.Wg) (.int .u32 0)) (semEvents (smA d.Wg)) ∧ (LF P F hF).ok (V.as (.crew d j (.fin 1))) g' (w₁.setCell (smA d.Wg) (.int .u32 0))) : (LF P F hF).ok V g w := by
  subst hty
  exact f_sema hV hrun hoffers (fun w₁ st _ h => H1 w₁ st h) fun w₁ hr h hnv => H2 w₁ ⟨hK.1.trans hr.toRelyB, _, _, h⟩ hnv h
end
end Go.Eng

namespace Go.Eng
open Go Go.Conc Go.ConcN Go.RowKit Go.Conc.Lib Go.ConcR.Gen Go.ConcN.Gen
open Go.ConcR (KK wgBlock WgAt stA smA rd wr DC0 Bk g_of_ofEvents bk_of_mute ofEvent_loc_mark)

section
variable {P : Program} {R : World → World → Prop} {D D' : World → World → Array Event → Prop} {S : Goroutine → World → Prop}
def Met (P : Program) (R : World → World → Prop) (D' : World → World → Array Event → Prop) (S : Goroutine → World → Prop) (g : Goroutine) (w : World) : Prop := ∀ n, Go.Conc.Goes P false R D' S n g w → ∀ w₁, R w w₁ → S g w₁
theorem met_goes (hR : ∀ w, R w w) (hT : ∀ a b c, R a b → R b c → R a c) : ∀ (m n : Nat) (g : Goroutine) (w : World), Go.Conc.Goes P false R D' S n g w → Go.Conc.Goes P false R D (Met P R D' S) m g w → Go.Conc.Goes P false R D S m g w
  | 0, n, g, w, h, k => fun w₁ r => k w₁ r n (Go.Conc.Goes.rely hT h r) w₁ (hR w₁)
  | m + 1, 0, g, w, h, _ => .inl h
  | m + 1, n + 1, g, w, h, k => by
    rcases h with h | ⟨hs, h⟩
    · exact .inl h
    · rcases k with k | ⟨_, k⟩
      · exact .inl fun w₁ r => k w₁ r (n + 1) (Go.Conc.Goes.rely hT (.inr ⟨hs, h⟩) r) w₁ (hR w₁)
      refine .inr ⟨hs, fun w₁ r => ?_⟩
      have h1 := h w₁ r
      have h2 := k w₁ r
      cases hgo : stepG P false g w₁ with
      | go g' w' es =>
        rw [hgo, goes_go] at h1 h2
        rw [goes_go]
        exact ⟨h2.1, met_goes hR hT m n g' w' h1.2 h2.2⟩
      | _ => rw [hgo] at h1; exact h1.elim
theorem no_step (hR : ∀ w, R w w) {g g' : Goroutine} {w w' : World} {es : Array Event} (hS : ¬ S g w) (hgo : stepG P false g w = .go g' w' es) (h : ∀ n, ¬ Go.Conc.Goes P false R D S n g' w') : ∀ n, ¬ Go.Conc.Goes P false R D S n g w
  | 0, k => hS (k w (hR w))
  | n + 1, k => by
    rcases k with k | ⟨_, k⟩
    · exact hS (k w (hR w))
    · have := k w (hR w)
      rw [hgo, goes_go] at this
      exact h n this.2
theorem no_end (hR : ∀ w, R w w) {g g' : Goroutine} {w w' : World} {es : Array Event} (hS : ¬ S g w) (hgo : stepG P false g w = .go g' w' es) (hD : ¬ D w w' es) : ∀ n, ¬ Go.Conc.Goes P false R D S n g w
  | 0, k => hS (k w (hR w))
  | n + 1, k => by
    rcases k with k | ⟨_, k⟩
    · exact hS (k w (hR w))
    · have := k w (hR w)
      rw [hgo, goes_go] at this
      exact hD this.1
end
section
variable {P : Program} {d : CDat} {i : Nat} {V : Rig}
theorem h_goes (hV : V.ext = .hand d i) {v : Value} : ∀ (n : Nat) {g : Goroutine} {w : World}, Go.Conc.Goes P false (@Go.ConcN.RW d.pay d.ty d.Wg d.C d.n 0 i) DC0 (@Go.ConcN.AtR0 d.pay P d.ty d.Wg d.C d.n 0 (i + 1) v) n g w → d.Res i V.vis v w → (LH P (HStop P d i)).ok V g w
  | 0, g, w, h, hr => LH.stop (h w (@RW.refl d.pay _ _ _ _ _ _ _)).1 fun w₁ r => ⟨v, h w₁ (by have := r.ext; rw [hV] at this; exact this), d.keep r.block hr⟩
  | n + 1, g, w, h, hr => by
    rcases h with h | ⟨hs, h⟩
    · exact LH.stop (h w (@RW.refl d.pay _ _ _ _ _ _ _)).1 fun w₁ r => ⟨v, h w₁ (by have := r.ext; rw [hV] at this; exact this), d.keep r.block hr⟩
    · refine (LH P (HStop P d i)).step hs fun w₁ r => ?_
      have h1 := h w₁ (by have := r.ext; rw [hV] at this; exact this)
      show ∃ g' w' es, stepG P false g w₁ = .go g' w' es ∧ _
      cases hgo : stepG P false g w₁ with
      | go g' w' es =>
        rw [hgo, goes_go] at h1
        obtain ⟨⟨rfl, rfl⟩, hk⟩ := h1
        exact ⟨g', _, _, rfl, Guar.idle V _, by rw [Rig.grow_self]; exact h_goes hV n hk (d.keep r.block hr)⟩
      | _ => rw [hgo] at h1; exact h1.elim
end
theorem rw_live {pay : Go.ConcR.Payload} {ty : TypeId} {Wg C n Low i : Nat} {w w₁ : World} (h : WgLive ty Wg w) (r : @Go.ConcN.RW pay ty Wg C n Low i w w₁) : WgLive ty Wg w₁ := r.live h
section
variable {P : Program} {pay : Go.ConcR.Payload} {L : WgLink}
theorem atR0_ne {ty : TypeId} {Wg C n Low k : Nat} {v : Value} {g g' : Goroutine} {w w' : World} {es : Array Event} (h : stepG P false g w = .go g' w' es) (he : es ≠ #[Go.ConcR.mk (.releaseMerge (stA Wg))]) : ¬ @Go.ConcN.AtR0 pay P ty Wg C n Low k v g w := by
  rintro ⟨_, _, g2, h2, _⟩
  rw [h] at h2
  cases h2
  exact he rfl
set_option maxRecDepth 100000 in
set_option maxHeartbeats 16000000 in
theorem h_done (H : WgLib P L) {Wg C n i : Nat} {val : Value} {c : Frame} {cs : List Frame} {qt : Nat} (hcm : c.mode = .returning) (hT : QuitsD P qt 0 (G c cs)) (w : World) (hL : WgLive L.tWg Wg w) (hH : Has C i val w) :
    Go.Conc.Goes P false (@Go.ConcN.RW pay L.tWg Wg C n 0 i) DC0 (@Go.ConcN.AtR0 pay P L.tWg Wg C n 0 (i + 1) val) 15 (G ((baseD L.done).at ⟨#[.pointer (some ⟨Wg, 0, none⟩), undef, undef, undef], []⟩ [.code (body_done L)]) (c :: cs)) w := by
  letI := pay
  refine met_goes (fun w => RW.refl w) (fun _ _ _ h k => RW.trans h k) 15 _ _ _ (doneN (n := n) (k := i + 1) (Low := 0) (Own := fun _ _ => False) (Rd := fun _ _ => False) H hcm hT w ⟨hL, hH⟩) ?_
  clear hH hT hcm
  lib_facts
  simp only [body_done, doneFn, Option.getD_some]
  repeat (first
     | u_c stepG_region_end rw_live hL
     | u_c stepG_seq rw_live hL
     | u_reg rw_live hL
     | u_cond true rw_live hL
     | u_cond false rw_live hL
     | u_skip rw_live hL
     | u_op rw_live hL
     | u_call H.f_add (nm_add L) addFn rw_live hL
     | u_conv H.underlying_tWgP H.room_tWg (WgLive.cell0 hL).choose_spec rw_live hL)
  refine Go.Conc.Goes.stop fun w₀ _ => ?_
  intro n' hg w₁ hr
  cases n' with
  | zero => exact hg w₁ hr
  | succ n' =>
    rcases hg with hg | ⟨_, hg⟩
    · exact hg w₁ hr
    · exfalso
      have h1 := hg w₁ hr
      rw [stepG_markAt .releaseMerge (by simp) rfl rfl (by k_ne) rfl H.f_relMerge (x_relMerge_n L) (x_relMerge_b L) (x_relMerge_x L) (x_relMerge_f L) (ad := stA Wg) (by simp [Act.eval, stA]), goes_go] at h1
      refine no_step (fun w => RW.refl w) (atR0_ne stepG_region_end (by simp)) stepG_region_end (fun n => ?_) _ h1.2
      refine no_step (fun w => RW.refl w) (atR0_ne stepG_seq (by simp)) stepG_seq (fun n => ?_) _
      refine no_step (fun w => RW.refl w) (atR0_ne stepG_region (by simp)) stepG_region (fun n => ?_) _
      refine no_end (fun w => RW.refl w) (atR0_ne (stepG_mark0 .disable (by simp) rfl rfl (by k_ne) rfl H.f_disable (x_disable_n L) (x_disable_b L) (x_disable_x L) (x_disable_f L)) (by simp [Go.ConcR.mk])) (stepG_mark0 .disable (by simp) rfl rfl (by k_ne) rfl H.f_disable (x_disable_n L) (x_disable_b L) (x_disable_x L) (x_disable_f L)) (fun h => ?_) _
      exact (h.2 _ (Array.mem_singleton.2 rfl)).2.1 rfl
end
end Go.Eng
