/- My walking engine, part 19: abstract values of Go, and the rules of a walk over them. No program in sight. -/
import Derived.Test.YtpcahgedkmgllaaGreatZ17
import Derived.Conc.WgGenN3
import Derived.Test.YtpcahgedkmgllaaGreatZ18
namespace Go.Eng
open Go Go.Conc Go.ConcN Go.RowKit Go.Conc.Lib Go.ConcR.Gen Go.ConcN.Gen
open Go.ConcR (KK wgBlock WgAt stA smA rd wr DC0 Bk g_of_ofEvents bk_of_mute ofEvent_loc_mark)

def RLw (vis : Nat → Prop) (ty : TypeId) (Wg : Nat) (w w₁ : World) : Prop := RelyB vis w w₁ ∧ (WgLive ty Wg w → WgLive ty Wg w₁)
def KW (vis : Nat → Prop) (ty : TypeId) (Wg : Nat) (w0 w : World) : Prop := RelyB vis w0 w ∧ WgLive ty Wg w
theorem KW.set {vis : Nat → Prop} {ty : TypeId} {Wg : Nat} {w0 w w₁ : World} (h : KW vis ty Wg w0 w) (hn : ¬ vis Wg) (ha : Aside Wg w w₁) (hl : WgLive ty Wg w₁) : KW vis ty Wg w0 w₁ :=
  ⟨h.1.trans ⟨ha.os, ha.tape, ha.output, by rw [ha.size]; exact Nat.le_refl _, fun b hb => ha.block b fun e => hn (e ▸ hb)⟩, hl⟩
section
variable {P : Program} {F : Machine → Trace → Prop} {hF : Back P F} {d : CDat} {j : Nat} {tag : Tag} {V : Rig}
theorem f_goes (hV : V.ext = .crew d j tag) : ∀ (n : Nat) {g : Goroutine} {w : World}, Go.Conc.Goes P true (RLw V.vis d.ty d.Wg) DC0 (LF P F hF |>.ok V) n g w → (LF P F hF).ok V g w
  | 0, g, w, h => h w ⟨.refl _ _, id⟩
  | n + 1, g, w, h => by
    rcases h with h | ⟨hs, h⟩
    · exact h w ⟨.refl _ _, id⟩
    · refine (LF P F hF).step hs fun w₁ r => ?_
      have hr : RLw V.vis d.ty d.Wg w w₁ := ⟨r.toRelyB, by have := r.ext; rw [hV] at this; exact this⟩
      have h1 := h w₁ hr
      show ∃ g' w' es, stepG P true g w₁ = .go g' w' es ∧ _
      cases hgo : stepG P true g w₁ with
      | go g' w' es =>
        rw [hgo, goes_go] at h1
        obtain ⟨⟨rfl, rfl⟩, hk⟩ := h1
        exact ⟨g', _, _, rfl, Guar.idle V _, by rw [Rig.grow_self]; exact f_goes hV n hk⟩
      | _ => rw [hgo] at h1; exact h1.elim
end
theorem zr {vis : Nat → Prop} {ty : TypeId} {Wg : Nat} {w0 w w₁ : World} (h : KW vis ty Wg w0 w) (r : RLw vis ty Wg w w₁) : KW vis ty Wg w0 w₁ := ⟨h.1.trans r.1, r.2 h.2⟩
section
variable {P : Program} {F : Machine → Trace → Prop} {hF : Back P F} {d : CDat} {j : Nat} {tag : Tag} {V : Rig} {g : Goroutine} {w : World} {ty : TypeId} {w0 : World}
theorem f_goesL (hty : d.ty = ty) (hV : V.ext = .crew d j tag) (n : Nat) (h : Go.Conc.Goes P true (RLw V.vis ty d.Wg) DC0 ((LF P F hF).ok V) n g w) : (LF P F hF).ok V g w := by subst hty; exact f_goes hV n h
theorem bk_disable (Wg : Nat) : ∀ e ∈ #[Go.ConcR.mk .disable], BkS Wg e := by intro e he; simp at he; subst he; exact .inl (.inl rfl)
theorem bk_enable (Wg : Nat) : ∀ e ∈ #[Go.ConcR.mk .enable], BkS Wg e := by intro e he; simp at he; subst he; exact .inl (.inr (.inl rfl))
theorem f_disable {p b : Nat} (hK : KW V.vis ty d.Wg w0 w) (hty : d.ty = ty) (hV : V.ext = .crew d j (.opn p 0 b)) (hrun : g.status = .running) {g' : Goroutine} (hgo : ∀ w, stepG P true g w = .go g' w #[Go.ConcR.mk .disable])
    (hk : ∀ w, KW V.vis ty d.Wg w0 w → (LF P F hF).ok (V.as (.crew d j (.opn p 1 b))) g' w) : (LF P F hF).ok V g w := by
  subst hty
  refine f_book hV hrun fun w₁ D st sm hr hwg hmo hbd hjn hnv => ⟨g', w₁, _, .opn p 1 b, hgo w₁, Aside.refl _ _, bk_disable _, rfl, hjn, hbd, ⟨st, sm, hwg, hmo⟩, by simp only [Tag.k, Tag.p]; split <;> rfl, hk w₁ ⟨hK.1.trans hr.toRelyB, _, _, hwg⟩⟩
theorem f_enable {p b : Nat} (hK : KW V.vis ty d.Wg w0 w) (hty : d.ty = ty) (hV : V.ext = .crew d j (.opn p 1 b)) (hrun : g.status = .running) (hgo : ∀ w, ∃ g', stepG P true g w = .go g' w #[Go.ConcR.mk .enable] ∧
    (KW V.vis ty d.Wg w0 w → (LF P F hF).ok (V.as (.crew d j (.opn p 0 b))) g' w)) : (LF P F hF).ok V g w := by
  subst hty
  refine f_book hV hrun fun w₁ D st sm hr hwg hmo hbd hjn hnv => ?_
  obtain ⟨g', h1, h2⟩ := hgo w₁
  exact ⟨g', w₁, _, .opn p 0 b, h1, Aside.refl _ _, bk_enable _, rfl, hjn, hbd, ⟨st, sm, hwg, hmo⟩, by simp only [Tag.k, Tag.p]; split <;> rfl, h2 ⟨hK.1.trans hr.toRelyB, _, _, hwg⟩⟩
theorem f_enable' (hK : KW V.vis ty d.Wg w0 w) (hty : d.ty = ty) (hV : V.ext = .crew d j (.fin 1)) (hrun : g.status = .running) {g' : Goroutine} (hgo : ∀ w, stepG P true g w = .go g' w #[Go.ConcR.mk .enable])
    (hk : ∀ w, KW V.vis ty d.Wg w0 w → (LF P F hF).ok (V.as (.crew d j (.fin 0))) g' w) : (LF P F hF).ok V g w := by
  subst hty
  refine f_book hV hrun fun w₁ D st sm hr hwg hmo hbd hjn hnv => ⟨g', w₁, _, .fin 0, hgo w₁, Aside.refl _ _, bk_enable _, rfl, hjn, hbd, ⟨st, sm, hwg, hmo⟩, rfl, hk w₁ ⟨hK.1.trans hr.toRelyB, _, _, hwg⟩⟩
theorem f_said (hK : KW V.vis ty d.Wg w0 w) (hty : d.ty = ty) (hV : V.ext = .crew d j tag) (htag : tag.p = pend tag.k) (hrun : g.status = .running) {g' : Goroutine} {es : Array Event} (hes : (∃ a : Addr, a.block = d.Wg ∧ (es = #[⟨.mark (.read a), false, true⟩] ∨ es = #[⟨.mark (.write a), false, true⟩]))) (hgo : ∀ w, stepG P true g w = .go g' w es)
    (hk : ∀ w, KW V.vis ty d.Wg w0 w → (LF P F hF).ok V g' w) : (LF P F hF).ok V g w := by
  subst hty
  refine f_book hV hrun fun w₁ D st sm hr hwg hmo hbd hjn hnv => ⟨g', w₁, _, tag, hgo w₁, Aside.refl _ _, ?_, ?_, hjn, hbd, ⟨st, sm, hwg, hmo⟩, htag.symm, by rw [Rig.as_self hV]; exact hk w₁ ⟨hK.1.trans hr.toRelyB, _, _, hwg⟩⟩
  · obtain ⟨a, ha, rfl | rfl⟩ := hes
    · intro e he; simp at he; subst he; exact .inr ⟨a, ha, .inl rfl⟩
    · intro e he; simp at he; subst he; exact .inr ⟨a, ha, .inr rfl⟩
  · obtain ⟨a, ha, rfl | rfl⟩ := hes <;> rfl
theorem bk_rd (Wg : Nat) : ∀ e ∈ #[rd (stA Wg)], BkS Wg e := by intro e he; simp at he; subst he; exact .inl (bk_cell _ _ rfl)
theorem bk_rdwr (Wg : Nat) : ∀ e ∈ #[rd (stA Wg), wr (stA Wg)], BkS Wg e := by intro e he; simp at he; rcases he with rfl | rfl <;> exact .inl (bk_cell _ _ rfl)
theorem f_addU {b : Nat} (hK : KW V.vis ty d.Wg w0 w) (hty : d.ty = ty) (hV : V.ext = .crew d j (.opn 0 1 b)) (hj : j < d.n) (hn : d.n < 2147483648) (hrun : g.status = .running)
    (hgo : ∀ (w : World) (v : Nat), v < 2147483647 → KW V.vis ty d.Wg w0 w → ¬ V.vis d.Wg → WgAt ty d.Wg w (v * KK) 0 → ∃ g', stepG P true g w = .go g' (w.setCell (stA d.Wg) (.int .u64 ((v + 1) * KK))) #[rd (stA d.Wg), wr (stA d.Wg)] ∧
      (LF P F hF).ok (V.as (.crew d j (.opn 1 1 b))) g' (w.setCell (stA d.Wg) (.int .u64 ((v + 1) * KK)))) : (LF P F hF).ok V g w := by
  subst hty
  refine f_book hV hrun fun w₁ D st sm hr hwg hmo hbd hjn hnv => ?_
  obtain ⟨ho, rfl, rfl, _⟩ := hmo.open_inv trivial
  have hV' := Vc_le j D
  have e0 : Vc j D + pend (Tag.opn 0 1 b).k = Vc j D := rfl
  rw [e0] at hwg
  obtain ⟨g', h1, h2⟩ := hgo w₁ (Vc j D) (by omega) ⟨hK.1.trans hr.toRelyB, _, _, hwg⟩ hnv hwg
  refine ⟨g', _, _, .opn 1 1 b, h1, aside_setCell _ (stA d.Wg) _, bk_rdwr _, rfl, by show j + 1 ≤ d.n; omega, hbd, ⟨_, _, hwg.setSt _, ?_⟩, rfl, h2⟩
  have := Mode.opn (j := j) (D := D) (tag := .sp 0 3) trivial ho (fun _ e => by cases e)
  show Go.ConcN.Mode j D (.sp 0 3) _ _
  simpa [pend] using this
theorem f_load {b : Nat} (hK : KW V.vis ty d.Wg w0 w) (hty : d.ty = ty) (hV : V.ext = .crew d j (.opn 0 1 b)) (hn : d.n < 2147483648) (hrun : g.status = .running)
    (hgo : ∀ (w : World) (v : Nat), v < 2147483648 → v ≤ b → KW V.vis ty d.Wg w0 w → WgAt ty d.Wg w (v * KK) 0 → ∃ g', stepG P true g w = .go g' w #[rd (stA d.Wg)] ∧
      (v = 0 → (LF P F hF).ok (V.as (.crew d j (.fin 1))) g' w) ∧ (v ≠ 0 → (LF P F hF).ok (V.as (.crew d j (.opn 0 1 v))) g' w)) : (LF P F hF).ok V g w := by
  subst hty
  refine f_book hV hrun fun w₁ D st sm hr hwg hmo hbd hjn hnv => ?_
  obtain ⟨ho, rfl, rfl, _⟩ := hmo.open_inv trivial
  have hV' := Vc_le j D
  have e0 : Vc j D + pend (Tag.opn 0 1 b).k = Vc j D := rfl
  have hjn' : j ≤ d.n := hjn
  rw [e0] at hwg
  obtain ⟨g', h1, h2, h3⟩ := hgo w₁ (Vc j D) (by omega) hbd ⟨hK.1.trans hr.toRelyB, _, _, hwg⟩ hwg
  by_cases hv : Vc j D = 0
  · refine ⟨g', _, _, .fin 1, h1, Aside.refl _ _, bk_rd _, rfl, hjn, trivial, ⟨_, _, hwg, ?_⟩, rfl, h2 hv⟩
    have := Mode.fin (j := j) (D := D) (tag := .w4) trivial (allQuit_of ho hv)
    show Go.ConcN.Mode j D .w4 _ _
    simpa [hv] using this
  · refine ⟨g', _, _, .opn 0 1 (Vc j D), h1, Aside.refl _ _, bk_rd _, rfl, hjn, Nat.le_refl _, ⟨_, _, hwg, ?_⟩, rfl, h3 hv⟩
    have := Mode.opn (j := j) (D := D) (tag := .anch) trivial ho (fun _ e => by cases e)
    exact this
theorem f_cas {vs : Nat} (hK : KW V.vis ty d.Wg w0 w) (hty : d.ty = ty) (hV : V.ext = .crew d j (.opn 0 1 vs)) (hvs : vs ≠ 0) (hrun : g.status = .running)
    (hgo : ∀ (w : World) (v : Nat), v ≤ vs → KW V.vis ty d.Wg w0 w → ¬ V.vis d.Wg → WgAt ty d.Wg w (v * KK) 0 →
      (v = vs → ∃ g', stepG P true g w = .go g' (w.setCell (stA d.Wg) (.int .u64 (v * KK + 1))) #[rd (stA d.Wg), wr (stA d.Wg)] ∧ (LF P F hF).ok (V.as (.crew d j .reg)) g' (w.setCell (stA d.Wg) (.int .u64 (v * KK + 1)))) ∧
      (v ≠ vs → ∃ g', stepG P true g w = .go g' w #[rd (stA d.Wg)] ∧ (LF P F hF).ok (V.as (.crew d j (.opn 0 1 (vs - 1)))) g' w)) : (LF P F hF).ok V g w := by
  subst hty
  refine f_book hV hrun fun w₁ D st sm hr hwg hmo hbd hjn hnv => ?_
  obtain ⟨ho, rfl, rfl, _⟩ := hmo.open_inv trivial
  have e0 : Vc j D + pend (Tag.opn 0 1 vs).k = Vc j D := rfl
  have hbd' : Vc j D ≤ vs := hbd
  rw [e0] at hwg
  obtain ⟨h1, h2⟩ := hgo w₁ (Vc j D) hbd ⟨hK.1.trans hr.toRelyB, _, _, hwg⟩ hnv hwg
  by_cases hv : Vc j D = vs
  · obtain ⟨g', h3, h4⟩ := h1 hv
    refine ⟨g', _, _, .reg, h3, aside_setCell _ (stA d.Wg) _, bk_rdwr _, rfl, hjn, trivial, ⟨_, _, hwg.setSt _, ?_⟩, rfl, h4⟩
    exact .reg trivial ho (by omega)
  · obtain ⟨g', h3, h4⟩ := h2 hv
    refine ⟨g', _, _, .opn 0 1 (vs - 1), h3, Aside.refl _ _, bk_rd _, rfl, hjn, by show Vc j D ≤ vs - 1; omega, ⟨_, _, hwg, ?_⟩, rfl, h4⟩
    exact Mode.opn (j := j) (D := D) (tag := .anch) trivial ho (fun _ e => by cases e)
theorem f_load4 (hK : KW V.vis ty d.Wg w0 w) (hty : d.ty = ty) (hV : V.ext = .crew d j (.fin 1)) (hrun : g.status = .running) (hgo : ∀ (w : World), KW V.vis ty d.Wg w0 w → WgAt ty d.Wg w 0 0 → ∃ g', stepG P true g w = .go g' w #[rd (stA d.Wg)] ∧ (LF P F hF).ok V g' w) : (LF P F hF).ok V g w := by
  subst hty
  refine f_book hV hrun fun w₁ D st sm hr hwg hmo hbd hjn hnv => ?_
  obtain ⟨ho, rfl, rfl⟩ := hmo.fin_inv trivial
  obtain ⟨g', h1, h2⟩ := hgo w₁ ⟨hK.1.trans hr.toRelyB, _, _, hwg⟩ hwg
  exact ⟨g', _, _, .fin 1, h1, Aside.refl _ _, bk_rd _, rfl, hjn, hbd, ⟨_, _, hwg, hmo⟩, rfl, by rw [Rig.as_self hV]; exact h2⟩
theorem f_semaL (hK : KW V.vis ty d.Wg w0 w) (hty : d.ty = ty) (hV : V.ext = .crew d j .reg) (hrun : g.status = .running) (hoffers : g.offers = none)
    (H1 : ∀ (w₁ : World) (st : Int), WgAt ty d.Wg w₁ st 0 → stepG P true g w₁ = .go { g with status := .blocked } w₁ #[])
    (H2 : ∀ (w₁ : World), KW V.vis ty d.Wg w0 w₁ → ¬ V.vis d.Wg → WgAt ty d.Wg w₁ 0 1 → ∃ g', stepG P true g w₁ = .go g' (w₁.setCell (smA d.Wg) (.int .u32 0)) (semEvents (smA d.Wg)) ∧ (LF P F hF).ok (V.as (.crew d j (.fin 1))) g' (w₁.setCell (smA d.Wg) (.int .u32 0))) : (LF P F hF).ok V g w := by
  subst hty
  exact f_sema hV hrun hoffers (fun w₁ st _ h => H1 w₁ st h) fun w₁ hr h hnv => H2 w₁ ⟨hK.1.trans hr.toRelyB, _, _, h⟩ hnv h
end
end Go.Eng

namespace Go.Eng
open Go Go.Conc Go.ConcN Go.RowKit Go.Conc.Lib Go.ConcR.Gen Go.ConcN.Gen
open Go.ConcR (KK wgBlock WgAt stA smA rd wr DC0 Bk g_of_ofEvents bk_of_mute ofEvent_loc_mark)

section
variable {P : Program} {R : World → World → Prop} {D D' : World → World → Array Event → Prop} {S : Goroutine → World → Prop}
def Met (P : Program) (R : World → World → Prop) (D' : World → World → Array Event → Prop) (S : Goroutine → World → Prop) (g : Goroutine) (w : World) : Prop := ∀ n, Go.Conc.Goes P false R D' S n g w → ∀ w₁, R w w₁ → S g w₁
theorem met_goes (hR : ∀ w, R w w) (hT : ∀ a b c, R a b → R b c → R a c) : ∀ (m n : Nat) (g : Goroutine) (w : World), Go.Conc.Goes P false R D' S n g w → Go.Conc.Goes P false R D (Met P R D' S) m g w → Go.Conc.Goes P false R D S m g w
  | 0, n, g, w, h, k => fun w₁ r => k w₁ r n (Go.Conc.Goes.rely hT h r) w₁ (hR w₁)
  | m + 1, 0, g, w, h, _ => .inl h
  | m + 1, n + 1, g, w, h, k => by
    rcases h with h | ⟨hs, h⟩
    · exact .inl h
    · rcases k with k | ⟨_, k⟩
      · exact .inl fun w₁ r => k w₁ r (n + 1) (Go.Conc.Goes.rely hT (.inr ⟨hs, h⟩) r) w₁ (hR w₁)
      refine .inr ⟨hs, fun w₁ r => ?_⟩
      have h1 := h w₁ r
      have h2 := k w₁ r
      cases hgo : stepG P false g w₁ with
      | go g' w' es =>
        rw [hgo, goes_go] at h1 h2
        rw [goes_go]
        exact ⟨h2.1, met_goes hR hT m n g' w' h1.2 h2.2⟩
      | _ => rw [hgo] at h1; exact h1.elim
theorem no_step (hR : ∀ w, R w w) {g g' : Goroutine} {w w' : World} {es : Array Event} (hS : ¬ S g w) (hgo : stepG P false g w = .go g' w' es) (h : ∀ n, ¬ Go.Conc.Goes P false R D S n g' w') : ∀ n, ¬ Go.Conc.Goes P false R D S n g w
  | 0, k => hS (k w (hR w))
  | n + 1, k => by
    rcases k with k | ⟨_, k⟩
    · exact hS (k w (hR w))
    · have := k w (hR w)
      rw [hgo, goes_go] at this
      exact h n this.2
theorem no_end (hR : ∀ w, R w w) {g g' : Goroutine} {w w' : World} {es : Array Event} (hS : ¬ S g w) (hgo : stepG P false g w = .go g' w' es) (hD : ¬ D w w' es) : ∀ n, ¬ Go.Conc.Goes P false R D S n g w
  | 0, k => hS (k w (hR w))
  | n + 1, k => by
    rcases k with k | ⟨_, k⟩
    · exact hS (k w (hR w))
    · have := k w (hR w)
      rw [hgo, goes_go] at this
      exact hD this.1
end
section
variable {P : Program} {d : CDat} {i : Nat} {V : Rig}
theorem h_goes (hV : V.ext = .hand d i) {v : Value} : ∀ (n : Nat) {g : Goroutine} {w : World}, Go.Conc.Goes P false (@Go.ConcN.RW d.pay d.ty d.Wg d.C d.n 0 i) DC0 (@Go.ConcN.AtR0 d.pay P d.ty d.Wg d.C d.n 0 (i + 1) v) n g w → d.Res i V.vis v w → (LH P (HStop P d i)).ok V g w
  | 0, g, w, h, hr => LH.stop (h w (@RW.refl d.pay _ _ _ _ _ _ _)).1 fun w₁ r => ⟨v, h w₁ (by have := r.ext; rw [hV] at this; exact this), d.keep r.block hr⟩
  | n + 1, g, w, h, hr => by
    rcases h with h | ⟨hs, h⟩
    · exact LH.stop (h w (@RW.refl d.pay _ _ _ _ _ _ _)).1 fun w₁ r => ⟨v, h w₁ (by have := r.ext; rw [hV] at this; exact this), d.keep r.block hr⟩
    · refine (LH P (HStop P d i)).step hs fun w₁ r => ?_
      have h1 := h w₁ (by have := r.ext; rw [hV] at this; exact this)
      show ∃ g' w' es, stepG P false g w₁ = .go g' w' es ∧ _
      cases hgo : stepG P false g w₁ with
      | go g' w' es =>
        rw [hgo, goes_go] at h1
        obtain ⟨⟨rfl, rfl⟩, hk⟩ := h1
        exact ⟨g', _, _, rfl, Guar.idle V _, by rw [Rig.grow_self]; exact h_goes hV n hk (d.keep r.block hr)⟩
      | _ => rw [hgo] at h1; exact h1.elim
end
theorem rw_live {pay : Go.ConcR.Payload} {ty : TypeId} {Wg C n Low i : Nat} {w w₁ : World} (h : WgLive ty Wg w) (r : @Go.ConcN.RW pay ty Wg C n Low i w w₁) : WgLive ty Wg w₁ := r.live h
section
variable {P : Program} {pay : Go.ConcR.Payload} {L : WgLink}
theorem atR0_ne {ty : TypeId} {Wg C n Low k : Nat} {v : Value} {g g' : Goroutine} {w w' : World} {es : Array Event} (h : stepG P false g w = .go g' w' es) (he : es ≠ #[Go.ConcR.mk (.releaseMerge (stA Wg))]) : ¬ @Go.ConcN.AtR0 pay P ty Wg C n Low k v g w := by
  rintro ⟨_, _, g2, h2, _⟩
  rw [h] at h2
  cases h2
  exact he rfl
set_option maxRecDepth 100000 in
set_option maxHeartbeats 16000000 in
theorem h_done (H : WgLib P L) {Wg C n i : Nat} {val : Value} {c : Frame} {cs : List Frame} {qt : Nat} (hcm : c.mode = .returning) (hT : QuitsD P qt 0 (G c cs)) (w : World) (hL : WgLive L.tWg Wg w) (hH : Has C i val w) :
    Go.Conc.Goes P false (@Go.ConcN.RW pay L.tWg Wg C n 0 i) DC0 (@Go.ConcN.AtR0 pay P L.tWg Wg C n 0 (i + 1) val) 15 (G ((baseD L.done).at ⟨#[.pointer (some ⟨Wg, 0, none⟩), undef, undef, undef], []⟩ [.code (body_done L)]) (c :: cs)) w := by
  letI := pay
  refine met_goes (fun w => RW.refl w) (fun _ _ _ h k => RW.trans h k) 15 _ _ _ (doneN (n := n) (k := i + 1) (Low := 0) (Own := fun _ _ => False) (Rd := fun _ _ => False) H hcm hT w ⟨hL, hH⟩) ?_
  clear hH hT hcm
  lib_facts
  simp only [body_done, doneFn, Option.getD_some]
  repeat (first
     | u_c stepG_region_end rw_live hL
     | u_c stepG_seq rw_live hL
     | u_reg rw_live hL
     | u_cond true rw_live hL
     | u_cond false rw_live hL
     | u_skip rw_live hL
     | u_op rw_live hL
     | u_call H.f_add (nm_add L) addFn rw_live hL
     | u_conv H.underlying_tWgP H.room_tWg (WgLive.cell0 hL).choose_spec rw_live hL)
  refine Go.Conc.Goes.stop fun w₀ _ => ?_
  intro n' hg w₁ hr
  cases n' with
  | zero => exact hg w₁ hr
  | succ n' =>
    rcases hg with hg | ⟨_, hg⟩
    · exact hg w₁ hr
    · exfalso
      have h1 := hg w₁ hr
      rw [stepG_markAt .releaseMerge (by simp) rfl rfl (by k_ne) rfl H.f_relMerge (x_relMerge_n L) (x_relMerge_b L) (x_relMerge_x L) (x_relMerge_f L) (ad := stA Wg) (by simp [Act.eval, stA]), goes_go] at h1
      refine no_step (fun w => RW.refl w) (atR0_ne stepG_region_end (by simp)) stepG_region_end (fun n => ?_) _ h1.2
      refine no_step (fun w => RW.refl w) (atR0_ne stepG_seq (by simp)) stepG_seq (fun n => ?_) _
      refine no_step (fun w => RW.refl w) (atR0_ne stepG_region (by simp)) stepG_region (fun n => ?_) _
      refine no_end (fun w => RW.refl w) (atR0_ne (stepG_mark0 .disable (by simp) rfl rfl (by k_ne) rfl H.f_disable (x_disable_n L) (x_disable_b L) (x_disable_x L) (x_disable_f L)) (by simp [Go.ConcR.mk])) (stepG_mark0 .disable (by simp) rfl rfl (by k_ne) rfl H.f_disable (x_disable_n L) (x_disable_b L) (x_disable_x L) (x_disable_f L)) (fun h => ?_) _
      exact (h.2 _ (Array.mem_singleton.2 rfl)).2.1 rfl
end
end Go.Eng

namespace Go.Eng
open Go Go.Conc Go.ConcN Go.RowKit Go.Conc.Lib Go.ConcR.Gen Go.ConcN.Gen
open Go.ConcR (KK wgBlock WgAt stA smA rd wr DC0 Bk g_of_ofEvents bk_of_mute ofEvent_loc_mark)

section
variable {P : Program} {F : Machine → Trace → Prop} {hF : Back P F} {d : CDat} {j : Nat} {V : Rig} {L : WgLink} {b₀ : Frame} {a₀ : Act} {ops₀ : Array Oper} {i₀ : Nat} {rest₀ : List Nat} {k₀ : List Item} {cs : List Frame}
set_option maxRecDepth 100000 in
set_option maxHeartbeats 16000000 in
theorem f_add (H : WgLib P L) (hty : d.ty = L.tWg) (hV : V.ext = .crew d j (.opn 0 0 d.n)) (hj : j < d.n) (hn : d.n < 2147483648)
    {w0 : World} (hT : ∀ w, KW V.vis d.ty d.Wg w0 w → (LF P F hF).ok (V.as (.crew d j (.opn 1 0 d.n))) (G (b₀.at (a₀.put ((ops₀[i₀]?).bind (·.dst)) (.tuple #[])) (.inRegion ops₀ rest₀ :: k₀)) cs) w) (w : World) (hL : KW V.vis d.ty d.Wg w0 w) :
    (LF P F hF).ok V (G ((base L.add).at ⟨#[.pointer (some ⟨d.Wg, 0, none⟩), .int .i64 1, undef, undef, undef, undef, undef, undef, undef, undef, undef, undef, undef, undef, undef, undef, undef, undef, undef, undef, undef, undef, undef, undef, undef, undef, undef, undef, undef, undef, undef, undef, undef, undef, undef, undef, undef, undef, undef, undef, undef, undef, undef, undef, undef, undef, undef, undef, undef, undef, undef, undef, undef, undef, undef, undef, undef, undef, undef, undef, undef, undef, undef, undef, undef, undef, undef, undef, undef, undef, undef, undef, undef, undef, undef, undef, undef, undef, undef, undef, undef, undef, undef, undef, undef, undef, undef, undef, undef, undef, undef, undef, undef, undef, undef, undef, undef, undef, undef, undef, undef, undef, undef, undef, undef, undef, undef, undef, undef, undef, undef, undef, undef, undef, undef, undef, undef], []⟩ [.code (body_add L)]) (b₀.at a₀ (.inRegion ops₀ (i₀ :: rest₀) :: k₀) :: cs)) w := by
  rw [hty] at hL hT
  refine f_goesL hty hV 60 ?_
  lib_facts
  simp only [body_add, addFn, Option.getD_some]
  u_c stepG_seq zr hL
  u_cond true zr hL
  u_c stepG_seq zr hL
  u_c stepG_seq zr hL
  u_reg zr hL
  u_op zr hL
  u_op zr hL
  u_c stepG_region_end zr hL
  u_cond false zr hL
  u_c stepG_skip zr hL
  u_c stepG_seq zr hL
  u_reg zr hL
  refine Go.Conc.Goes.stop fun w₁ h₁ => ?_
  replace hL := zr hL h₁
  clear h₁
  refine f_disable hL hty hV rfl (fun w => stepG_mark0 .disable (by simp) rfl rfl (by k_ne) rfl H.f_disable (x_disable_n L) (x_disable_b L) (x_disable_x L) (x_disable_f L)) fun w₂ hL => ?_
  refine f_goesL hty rfl 80 ?_
  walk_nrm
  u_c stepG_region_end zr hL
  u_reg zr hL
  u_defer zr hL
  u_c stepG_region_end zr hL
  u_c stepG_seq zr hL
  u_reg zr hL
  u_op zr hL
  u_c stepG_region_end zr hL
  u_c stepG_seq zr hL
  u_c stepG_seq zr hL
  u_reg zr hL
  u_bub zr hL
  u_c stepG_region_end zr hL
  u_cond false zr hL
  u_c stepG_skip zr hL
  u_c stepG_seq zr hL
  u_reg zr hL
  u_op zr hL
  u_op zr hL
  u_op zr hL
  u_op zr hL
  u_op zr hL
  u_op zr hL
  u_call H.f_uAdd (nm_uAdd L) uAddFn zr hL
  u_c stepG_seq zr hL
  u_reg zr hL
  u_op zr hL
  u_c stepG_region_end zr hL
  u_c stepG_seq zr hL
  u_reg zr hL
  u_op zr hL
  u_op zr hL
  u_op zr hL
  u_op zr hL
  refine Go.Conc.Goes.stop fun w₃ h₃ => ?_
  replace hL := zr hL h₃
  clear h₃
  refine f_addU hL hty rfl hj hn rfl fun w₄ v hv hL hnv hw => ?_
  rcases Nat.eq_zero_or_pos v with rfl | hvp
  · replace hw : WgAt L.tWg d.Wg w₄ 0 0 := by simpa using hw
    have z : (((0 : Nat) : Int) + 1) * KK = KK := by simp
    rw [z]
    have e0 : IntKind.u64.wrap (0 + 4294967296) = KK := by decide
    refine ⟨_, (stepG_add_atomic rfl rfl (by k_ne) rfl H.f_addU64 (x_addU64_n L) (x_addU64_b L) (x_addU64_x L) .u64 (x_addU64_f L) rfl rfl hw.cellSt (hw.thaw 0)).trans (by rw [e0]; rfl), ?_⟩
    replace hL : KW V.vis L.tWg d.Wg w0 (w₄.setCell (stA d.Wg) (.int .u64 KK)) := hL.set hnv (aside_setCell w₄ (stA d.Wg) _) ⟨_, _, hw.setSt _⟩
    clear hw
    simp only [KK] at hL ⊢
    refine f_goesL hty rfl 120 ?_
    walk_nrm
    u_op zr hL
    u_c stepG_region_end zr hL
    u_c stepG_ret' zr hL
    u_leave1 H.f_uAdd zr hL
    u_op zr hL
    u_c stepG_region_end zr hL
    u_c stepG_seq zr hL
    u_c stepG_seq zr hL
    u_reg zr hL
    u_op zr hL
    u_op zr hL
    u_op zr hL
    u_op zr hL
    u_skip zr hL
    u_skip zr hL
    u_op zr hL
    u_c stepG_region_end zr hL
    u_cond false zr hL
    u_c stepG_skip zr hL
    u_c stepG_seq zr hL
    u_reg zr hL
    u_op zr hL
    u_op zr hL
    u_op zr hL
    u_op zr hL
    u_c stepG_region_end zr hL
    u_c stepG_seq zr hL
    u_reg zr hL
    u_op zr hL
    u_op zr hL
    u_op zr hL
    u_op zr hL
    u_c stepG_region_end zr hL
    u_c stepG_seq zr hL
    u_c stepG_seq zr hL
    u_reg zr hL
    u_op zr hL
    u_op zr hL
    u_op zr hL
    u_op zr hL
    u_op zr hL
    u_op zr hL
    u_op zr hL
    u_op zr hL
    u_op zr hL
    u_op zr hL
    u_c stepG_region_end zr hL
    u_cond true zr hL
    u_reg zr hL
    u_op zr hL
    u_op zr hL
    u_op zr hL
    u_conv H.underlying_tPU32 H.room_tU32 (WgLive.cell1 (And.right hL)).choose_spec zr hL
    refine Go.Conc.Goes.stop fun w₅ h₅ => ?_
    replace hL := zr hL h₅
    clear h₅
    refine f_said hL hty rfl rfl rfl ⟨⟨d.Wg, 1, none⟩, rfl, .inl rfl⟩ (fun w => stepG_markAt .read (by simp) rfl rfl (by k_ne) rfl H.f_raceRead (x_raceRead_n L) (x_raceRead_b L) (x_raceRead_x L) (x_raceRead_f L) (ad := ⟨d.Wg, 1, none⟩) (by simp [Act.eval])) fun w₆ hL => ?_
    refine f_goesL hty rfl 120 ?_
    walk_nrm
    u_c stepG_region_end zr hL
    u_c stepG_seq zr hL
    u_c stepG_seq zr hL
    u_reg zr hL
    u_op zr hL
    u_op zr hL
    u_c stepG_region_end zr hL
    u_cond false zr hL
    u_c stepG_skip zr hL
    u_c stepG_seq zr hL
    u_c stepG_seq zr hL
    u_reg zr hL
    u_op zr hL
    u_op zr hL
    u_op zr hL
    u_skip zr hL
    u_skip zr hL
    u_op zr hL
    u_op zr hL
    u_skip zr hL
    u_skip zr hL
    u_skip zr hL
    u_skip zr hL
    u_op zr hL
    u_c stepG_region_end zr hL
    u_cond false zr hL
    u_c stepG_skip zr hL
    u_c stepG_seq zr hL
    u_c stepG_seq zr hL
    u_reg zr hL
    u_op zr hL
    u_op zr hL
    u_op zr hL
    u_skip zr hL
    u_skip zr hL
    u_op zr hL
    u_c stepG_region_end zr hL
    u_cond true zr hL
    u_c stepG_ret' zr hL
    refine Go.Conc.Goes.stop fun w₅ h₅ => ?_
    replace hL := zr hL h₅
    clear h₅
    refine f_enable hL hty rfl rfl fun w => ⟨_, stepG_unwind_entry (v := .tuple #[]) (evs := #[Go.ConcR.mk .enable]) rfl H.f_enable (x_enable_n L) (x_enable_b L) (x_enable_x L) (x_enable_f L) (by simp [Extern.Race.none_]) (by simp [Go.ConcR.mk]) (by simp [Go.ConcR.mk]), fun hL => ?_⟩
    refine f_goesL hty rfl 5 ?_
    u_leave0 H.f_add zr hL
    exact Go.Conc.Goes.stop fun w h => hT w (zr hL h)
  · obtain ⟨V', hV'⟩ : ∃ V' : Int, V' = (v : Int) + 1 := ⟨_, rfl⟩
    obtain ⟨S, hS⟩ : ∃ S : Int, S = V' * KK := ⟨_, rfl⟩
    have eS : IntKind.u64.wrap ((v : Int) * KK + 4294967296) = S := by rw [IntKind.wrap_u64, hS, hV']; simp only [KK]; omega
    rw [← hV', ← hS]
    have a1 : S / 4294967296 = V' := by rw [hS]; simp only [KK]; omega
    have b1 : bits .and .u64 S 2147483648 = 0 := by rw [hS, hV']; have := st_flag (v + 1) 0 (by omega) (by omega); simpa [KK] using this
    have b2 : bits .and .u64 S 2147483647 = 0 := by rw [hS, hV']; have := st_waiters (v + 1) 0 (by omega) (by omega); simpa [KK] using this
    have c1 : IntKind.i32.wrap V' = V' := by rw [IntKind.wrap_i32]; omega
    have hV1 : 1 < V' := by omega
    have hV2 : V' < 2147483648 := by omega
    have q1 : (V' == 1) = false := by simp; omega
    have q2 : decide (V' = 1) = false := decide_eq_false (by omega)
    have q3 : decide (V' < 0) = false := decide_eq_false (by omega)
    have q4 : decide (0 < V') = true := decide_eq_true (by omega)
    have q5 : (V' == 0) = false := by simp; omega
    have q6 : decide (V' = 0) = false := decide_eq_false (by omega)
    refine ⟨_, (stepG_add_atomic rfl rfl (by k_ne) rfl H.f_addU64 (x_addU64_n L) (x_addU64_b L) (x_addU64_x L) .u64 (x_addU64_f L) rfl rfl hw.cellSt (hw.thaw 0)).trans (by rw [eS]; rfl), ?_⟩
    replace hL : KW V.vis L.tWg d.Wg w0 (w₄.setCell (stA d.Wg) (.int .u64 S)) := hL.set hnv (aside_setCell w₄ (stA d.Wg) _) ⟨_, _, hw.setSt _⟩
    clear hw hS hV' eS
    refine f_goesL hty rfl 120 ?_
    walk_nrm
    u_op zr hL
    u_c stepG_region_end zr hL
    u_c stepG_ret' zr hL
    u_leave1 H.f_uAdd zr hL
    u_op zr hL
    u_c stepG_region_end zr hL
    u_c stepG_seq zr hL
    u_c stepG_seq zr hL
    u_reg zr hL
    u_op zr hL
    u_op zr hL
    u_op zr hL
    u_op zr hL
    u_skip zr hL
    u_skip zr hL
    u_op zr hL
    u_c stepG_region_end zr hL
    first | u_cond false zr hL | u_cnd false zr hL
    u_c stepG_skip zr hL
    u_c stepG_seq zr hL
    u_reg zr hL
    u_op zr hL
    u_op zr hL
    u_op zr hL
    u_op zr hL
    u_c stepG_region_end zr hL
    u_c stepG_seq zr hL
    u_reg zr hL
    u_op zr hL
    u_op zr hL
    u_op zr hL
    u_op zr hL
    u_c stepG_region_end zr hL
    u_c stepG_seq zr hL
    u_c stepG_seq zr hL
    u_reg zr hL
    u_op zr hL
    u_op zr hL
    u_op zr hL
    u_op zr hL
    u_op zr hL
    u_op zr hL
    u_op zr hL
    u_op zr hL
    u_op zr hL
    u_op zr hL
    u_c stepG_region_end zr hL
    first | u_cond false zr hL | u_cnd false zr hL
    u_c stepG_skip zr hL
    u_c stepG_seq zr hL
    u_c stepG_seq zr hL
    u_reg zr hL
    u_op zr hL
    u_op zr hL
    u_c stepG_region_end zr hL
    first | u_cond false zr hL | u_cnd false zr hL
    u_c stepG_skip zr hL
    u_c stepG_seq zr hL
    u_c stepG_seq zr hL
    u_reg zr hL
    u_op zr hL
    u_op zr hL
    u_op zr hL
    u_skip zr hL
    u_skip zr hL
    u_op zr hL
    u_op zr hL
    u_skip zr hL
    u_skip zr hL
    u_skip zr hL
    u_skip zr hL
    u_op zr hL
    u_c stepG_region_end zr hL
    first | u_cond false zr hL | u_cnd false zr hL
    u_c stepG_skip zr hL
    u_c stepG_seq zr hL
    u_c stepG_seq zr hL
    u_reg zr hL
    u_op zr hL
    u_op zr hL
    u_op zr hL
    u_skip zr hL
    u_skip zr hL
    u_op zr hL
    u_c stepG_region_end zr hL
    first | u_cond true zr hL | u_cnd true zr hL
    u_c stepG_ret' zr hL
    refine Go.Conc.Goes.stop fun w₅ h₅ => ?_
    replace hL := zr hL h₅
    clear h₅
    refine f_enable hL hty rfl rfl fun w => ⟨_, stepG_unwind_entry (v := .tuple #[]) (evs := #[Go.ConcR.mk .enable]) rfl H.f_enable (x_enable_n L) (x_enable_b L) (x_enable_x L) (x_enable_f L) (by simp [Extern.Race.none_]) (by simp [Go.ConcR.mk]) (by simp [Go.ConcR.mk]), fun hL => ?_⟩
    refine f_goesL hty rfl 5 ?_
    u_leave0 H.f_add zr hL
    exact Go.Conc.Goes.stop fun w h => hT w (zr hL h)
end
end Go.Eng

namespace Go.Eng
open Go Go.Conc Go.ConcN Go.RowKit Go.Conc.Lib Go.ConcR.Gen Go.ConcN.Gen
open Go.ConcR (KK wgBlock WgAt stA smA rd wr DC0 Bk g_of_ofEvents bk_of_mute ofEvent_loc_mark)

section
variable {P : Program} {F : Machine → Trace → Prop} {hF : Back P F} {V : Rig}
theorem f_goes0 (hV : V.ext = .alone) : ∀ (n : Nat) {g : Goroutine} {w : World}, Go.Conc.Goes P true (Rely V) DC0 (LF P F hF |>.ok V) n g w → (LF P F hF).ok V g w
  | 0, g, w, h => h w (Rely.refl (by rw [hV]; trivial))
  | n + 1, g, w, h => by
    rcases h with h | ⟨hs, h⟩
    · exact h w (Rely.refl (by rw [hV]; trivial))
    · refine (LF P F hF).step hs fun w₁ r => ?_
      have h1 := h w₁ r
      show ∃ g' w' es, stepG P true g w₁ = .go g' w' es ∧ _
      cases hgo : stepG P true g w₁ with
      | go g' w' es =>
        rw [hgo, goes_go] at h1
        obtain ⟨⟨rfl, rfl⟩, hk⟩ := h1
        exact ⟨g', _, _, rfl, Guar.idle V _, by rw [Rig.grow_self]; exact f_goes0 hV n hk⟩
      | _ => rw [hgo] at h1; exact h1.elim
end
section
variable {P : Program} {F : Machine → Trace → Prop} {hF : Back P F} {d : CDat} {V : Rig} {L : WgLink} {b₀ : Frame} {a₀ : Act} {ops₀ : Array Oper} {i₀ : Nat} {rest₀ : List Nat} {k₀ : List Item} {cs : List Frame}
def Joined (P : Program) (F : Machine → Trace → Prop) (hF : Back P F) (d : CDat) (V : Rig) (w0 : World) (g : Goroutine) : Prop :=
  ∀ (w₁ : World) (vals : Nat → Value) (vis : Nat → Nat → Prop), RelyB V.vis w0 w₁ → @Go.ConcN.PayAt d.pay d.C d.n w₁ → (∀ i, i < d.n → Has d.C i (vals i) w₁ ∧ d.Res i (vis i) (vals i) w₁ ∧ ∀ b, vis i b → d.dn b) →
    ∃ V', V'.ext = .alone ∧ (∀ b, V'.vis b → V.vis b ∨ b = d.C ∨ ∃ i, i < d.n ∧ vis i b) ∧ (∀ b, V'.mine b → V'.vis b) ∧ ∀ w₂, Rely V' w₁ w₂ → (LF P F hF).ok V' g w₂
set_option maxRecDepth 100000 in
set_option maxHeartbeats 32000000 in
theorem f_round (H : WgLib P L) (hty : d.ty = L.tWg) (hn : d.n < 2147483648) {w0 : World} (hT : Joined P F hF d V w0 (G (b₀.at (a₀.put ((ops₀[i₀]?).bind (·.dst)) (.tuple #[])) (.inRegion ops₀ rest₀ :: k₀)) cs)) :
    ∀ (b : Nat) (T : Array Value) (w : World), T.size = 84 → T[0]? = some (.pointer (some ⟨d.Wg, 0, none⟩)) → KW V.vis d.ty d.Wg w0 w →
      (LF P F hF).ok (V.as (.crew d d.n (.opn 0 1 b))) (G ((base L.wait).at ⟨T, []⟩ [.code (L7 L), .inLoop (L7 L), .inBlock 0]) (b₀.at a₀ (.inRegion ops₀ (i₀ :: rest₀) :: k₀) :: cs)) w := by
  lib_facts
  intro b
  induction b using Nat.strongRecOn with
  | _ b ih =>
  intro T w hT84 t0 hL
  obtain ⟨v0, v1, v2, v3, v4, v5, v6, v7, v8, v9, v10, v11, v12, v13, v14, v15, v16, v17, v18, v19, v20, v21, v22, v23, v24, v25, v26, v27, v28, v29, v30, v31, v32, v33, v34, v35, v36, v37, v38, v39, v40, v41, v42, v43, v44, v45, v46, v47, v48, v49, v50, v51, v52, v53, v54, v55, v56, v57, v58, v59, v60, v61, v62, v63, v64, v65, v66, v67, v68, v69, v70, v71, v72, v73, v74, v75, v76, v77, v78, v79, v80, v81, v82, v83, rfl⟩ := array84 T hT84
  simp only [List.getElem?_toArray, List.getElem?_cons_zero, Option.some.injEq] at t0
  subst t0
  clear hT84
  rw [hty] at hL ih
  refine f_goesL hty rfl 60 ?_
  simp only [L7, body_wait, waitFn, Option.getD_some] at ih ⊢
  u_c stepG_block zr hL
  u_c stepG_seq zr hL
  u_reg zr hL
  u_op zr hL
  u_op zr hL
  u_op zr hL
  u_call H.f_uLoad (nm_uLoad L) uLoadFn zr hL
  u_c stepG_seq zr hL
  u_reg zr hL
  u_op zr hL
  u_c stepG_region_end zr hL
  u_c stepG_seq zr hL
  u_reg zr hL
  u_op zr hL
  u_op zr hL
  u_op zr hL
  refine Go.Conc.Goes.stop fun w₁ h₁ => ?_
  replace hL := zr hL h₁
  clear h₁
  refine f_load hL hty rfl hn rfl fun w₂ v hv hvb hL hw => ?_
  rcases Nat.eq_zero_or_pos v with rfl | hvp
  · replace hw : WgAt L.tWg d.Wg w₂ 0 0 := by simpa using hw
    refine ⟨_, stepG_load_atomic (v := 0) rfl rfl (by k_ne) rfl H.f_loadU64 (x_loadU64_n L) (x_loadU64_b L) (x_loadU64_x L) .u64 (x_loadU64_f L) rfl hw.cellSt, fun _ => ?_, fun h => absurd rfl h⟩
    clear hw ih
    refine f_goesL hty rfl 90 ?_
    walk_nrm
    u_op zr hL
    u_c stepG_region_end zr hL
    u_c stepG_ret' zr hL
    u_leave1 H.f_uLoad zr hL
    u_op zr hL
    u_c stepG_region_end zr hL
    u_c stepG_seq zr hL
    u_reg zr hL
    u_op zr hL
    u_op zr hL
    u_op zr hL
    u_op zr hL
    u_c stepG_region_end zr hL
    u_c stepG_seq zr hL
    u_reg zr hL
    u_op zr hL
    u_op zr hL
    u_op zr hL
    u_op zr hL
    u_c stepG_region_end zr hL
    u_c stepG_seq zr hL
    u_c stepG_seq zr hL
    u_reg zr hL
    u_op zr hL
    u_op zr hL
    u_c stepG_region_end zr hL
    u_cond true zr hL
    u_c stepG_seq zr hL
    u_cond true zr hL
    u_c stepG_seq zr hL
    u_reg zr hL
    refine Go.Conc.Goes.stop fun w₃ h₃ => ?_
    replace hL := zr hL h₃
    clear h₃
    refine f_enable' hL hty rfl rfl (fun w => stepG_mark0 .enable (by simp) rfl rfl (by k_ne) rfl H.f_enable (x_enable_n L) (x_enable_b L) (x_enable_x L) (x_enable_f L)) fun w₄ hL => ?_
    refine f_goesL hty rfl 30 ?_
    walk_nrm
    u_c stepG_region_end zr hL
    u_reg zr hL
    u_op zr hL
    u_conv H.underlying_tWgP H.room_tWg (WgLive.cell0 (And.right hL)).choose_spec zr hL
    refine Go.Conc.Goes.stop fun w₅ h₅ => ?_
    replace hL := zr hL h₅
    clear h₅
    refine f_leave rfl rfl fun w₆ vals vis hr hp hh => ?_
    obtain ⟨V', h1, h2, h3, h4⟩ := hT w₆ vals vis (hL.1.trans hr.toRelyB) hp hh
    refine ⟨_, V', stepG_markAt .acquire (by simp) rfl rfl (by k_ne) rfl H.f_acquire (x_acquire_n L) (x_acquire_b L) (x_acquire_x L) (x_acquire_f L) (by simp [Act.eval, stA]), h1, h2, h3, ?_⟩
    have hM : Rely V' w₆ w₆ := Rely.refl (by rw [h1]; trivial)
    refine f_goes0 h1 60 ?_
    walk_nrm
    u_c stepG_region_end Rely.trans hM
    u_c stepG_seq Rely.trans hM
    u_c stepG_seq Rely.trans hM
    u_reg Rely.trans hM
    u_op Rely.trans hM
    u_op Rely.trans hM
    u_op Rely.trans hM
    u_op Rely.trans hM
    u_op Rely.trans hM
    u_op Rely.trans hM
    u_op Rely.trans hM
    u_op Rely.trans hM
    u_skip Rely.trans hM
    u_skip Rely.trans hM
    u_op Rely.trans hM
    u_c stepG_region_end Rely.trans hM
    u_cond false Rely.trans hM
    u_c stepG_skip Rely.trans hM
    u_c stepG_ret' Rely.trans hM
    u_leave0 H.f_wait Rely.trans hM
    exact Go.Conc.Goes.stop fun w h => h4 w (hM.trans h)
  · obtain ⟨S, hS⟩ : ∃ S : Int, (v : Int) * KK = S := ⟨_, rfl⟩
    have a1 : S / 4294967296 = (v : Int) := by rw [← hS]; simp only [KK]; omega
    have b1 : bits .and .u64 S 2147483648 = 0 := by rw [← hS]; have := st_flag v 0 (by omega) (by omega); simpa [KK] using this
    have b2 : bits .and .u64 S 2147483647 = 0 := by rw [← hS]; have := st_waiters v 0 (by omega) (by omega); simpa [KK] using this
    have c1 : IntKind.i32.wrap (v : Int) = (v : Int) := by rw [IntKind.wrap_i32]; omega
    have w1 : IntKind.u64.wrap (S + 1) = S + 1 := by rw [IntKind.wrap_u64, ← hS]; simp only [KK]; omega
    have q3 : decide ((v : Int) < 0) = false := decide_eq_false (by omega)
    have q4 : decide (0 < (v : Int)) = true := decide_eq_true (by omega)
    have q5 : ((v : Int) == 0) = false := by simp; omega
    have q6 : decide ((v : Int) = 0) = false := decide_eq_false (by omega)
    rw [hS] at hw
    refine ⟨_, stepG_load_atomic (v := S) rfl rfl (by k_ne) rfl H.f_loadU64 (x_loadU64_n L) (x_loadU64_b L) (x_loadU64_x L) .u64 (x_loadU64_f L) rfl hw.cellSt, fun h0 => absurd h0 (by omega), fun _ => ?_⟩
    clear hw
    refine f_goesL hty rfl 90 ?_
    walk_nrm
    u_op zr hL
    u_c stepG_region_end zr hL
    u_c stepG_ret' zr hL
    u_leave1 H.f_uLoad zr hL
    u_op zr hL
    u_c stepG_region_end zr hL
    u_c stepG_seq zr hL
    u_reg zr hL
    u_op zr hL
    u_op zr hL
    u_op zr hL
    u_op zr hL
    u_c stepG_region_end zr hL
    u_c stepG_seq zr hL
    u_reg zr hL
    u_op zr hL
    u_op zr hL
    u_op zr hL
    u_op zr hL
    u_c stepG_region_end zr hL
    u_c stepG_seq zr hL
    u_c stepG_seq zr hL
    u_reg zr hL
    u_op zr hL
    u_op zr hL
    u_c stepG_region_end zr hL
    first | u_cond false zr hL | u_cnd false zr hL
    u_c stepG_skip zr hL
    u_c stepG_seq zr hL
    u_reg zr hL
    u_op zr hL
    u_op zr hL
    u_op zr hL
    u_op zr hL
    u_op zr hL
    u_op zr hL
    u_call H.f_uCas (nm_uCas L) uCasFn zr hL
    u_c stepG_seq zr hL
    u_reg zr hL
    u_op zr hL
    u_c stepG_region_end zr hL
    u_c stepG_seq zr hL
    u_reg zr hL
    u_op zr hL
    u_op zr hL
    u_op zr hL
    u_op zr hL
    u_op zr hL
    refine Go.Conc.Goes.stop fun w₃ h₃ => ?_
    replace hL := zr hL h₃
    clear h₃
    refine f_cas hL hty rfl (by omega) rfl fun w₄ v' hv' hL hnv hw => ⟨fun e => ?_, fun e => ?_⟩
    · subst e
      rw [hS] at hw ⊢
      refine ⟨_, (stepG_cas_hit (v := S) (n := S + 1) rfl rfl (by k_ne) rfl H.f_casU64 (x_casU64_n L) (x_casU64_b L) (x_casU64_x L) .u64 (x_casU64_f L) rfl rfl rfl hw.cellSt (hw.thaw 0)).trans (by rfl), ?_⟩
      replace hL : KW V.vis L.tWg d.Wg w0 (w₄.setCell (stA d.Wg) (.int .u64 (S + 1))) := hL.set hnv (aside_setCell w₄ (stA d.Wg) _) ⟨_, _, hw.setSt _⟩
      clear hw ih
      refine f_goesL hty rfl 90 ?_
      walk_nrm
      u_op zr hL
      u_c stepG_region_end zr hL
      u_c stepG_ret' zr hL
      u_leave1 H.f_uCas zr hL
      u_c stepG_region_end zr hL
      u_cond true zr hL
      u_c stepG_seq zr hL
      u_c stepG_seq zr hL
      u_reg zr hL
      u_op zr hL
      u_op zr hL
      u_op zr hL
      u_op zr hL
      u_c stepG_region_end zr hL
      u_cond true zr hL
      u_reg zr hL
      u_op zr hL
      u_op zr hL
      u_op zr hL
      u_conv H.underlying_tPU32 H.room_tU32 (WgLive.cell1 (And.right hL)).choose_spec zr hL
      refine Go.Conc.Goes.stop fun w₅ h₅ => ?_
      replace hL := zr hL h₅
      clear h₅
      refine f_said hL hty rfl rfl rfl ⟨⟨d.Wg, 1, none⟩, rfl, .inr rfl⟩ (fun w => stepG_markAt .write (by simp) rfl rfl (by k_ne) rfl H.f_raceWrite (x_raceWrite_n L) (x_raceWrite_b L) (x_raceWrite_x L) (x_raceWrite_f L) (ad := ⟨d.Wg, 1, none⟩) (by simp [Act.eval])) fun w₆ hL => ?_
      refine f_goesL hty rfl 60 ?_
      walk_nrm
      u_c stepG_region_end zr hL
      u_c stepG_seq zr hL
      u_reg zr hL
      u_op zr hL
      u_c stepG_region_end zr hL
      u_c stepG_seq zr hL
      u_c stepG_seq zr hL
      u_reg zr hL
      u_op zr hL
      u_op zr hL
      u_op zr hL
      u_op zr hL
      u_skip zr hL
      u_op zr hL
      u_c stepG_region_end zr hL
      u_cond false zr hL
      u_c stepG_skip zr hL
      u_c stepG_seq zr hL
      u_reg zr hL
      u_op zr hL
      u_op zr hL
      u_op zr hL
      u_op zr hL
      refine Go.Conc.Goes.stop fun w₅ h₅ => ?_
      replace hL := zr hL h₅
      clear h₅
      refine f_semaL hL hty rfl rfl rfl (fun w st hw => stepG_semacquire_wait rfl rfl rfl H.f_semacquire (x_semacquire_n L) (x_semacquire_b L) (x_semacquire_x L) (x_semacquire_f L) (by simp [Act.eval, smA]) hw.cellSm) fun w₇ hL hnv hf => ?_
      refine ⟨_, (stepG_semacquire (n := 1) rfl rfl (by k_ne) rfl H.f_semacquire (x_semacquire_n L) (x_semacquire_b L) (x_semacquire_x L) (x_semacquire_f L) (by simp [Act.eval, smA]) hf.cellSm (by k_ne) (hf.thaw 1)).trans (by rfl), ?_⟩
      replace hL : KW V.vis L.tWg d.Wg w0 (w₇.setCell (smA d.Wg) (.int .u32 0)) := hL.set hnv (aside_setCell w₇ (smA d.Wg) _) ⟨_, _, hf.setSm 0⟩
      clear hf
      refine f_goesL hty rfl 60 ?_
      walk_nrm
      u_c stepG_region_end zr hL
      u_c stepG_seq zr hL
      u_reg zr hL
      u_op zr hL
      u_op zr hL
      u_op zr hL
      u_call H.f_uLoad (nm_uLoad L) uLoadFn zr hL
      u_c stepG_seq zr hL
      u_reg zr hL
      u_op zr hL
      u_c stepG_region_end zr hL
      u_c stepG_seq zr hL
      u_reg zr hL
      u_op zr hL
      u_op zr hL
      u_op zr hL
      refine Go.Conc.Goes.stop fun w₅ h₅ => ?_
      replace hL := zr hL h₅
      clear h₅
      refine f_load4 hL hty rfl rfl fun w₈ hL hw => ?_
      refine ⟨_, stepG_load_atomic (v := 0) rfl rfl (by k_ne) rfl H.f_loadU64 (x_loadU64_n L) (x_loadU64_b L) (x_loadU64_x L) .u64 (x_loadU64_f L) rfl hw.cellSt, ?_⟩
      clear hw
      refine f_goesL hty rfl 60 ?_
      walk_nrm
      u_op zr hL
      u_c stepG_region_end zr hL
      u_c stepG_ret' zr hL
      u_leave1 H.f_uLoad zr hL
      u_op zr hL
      u_op zr hL
      u_c stepG_region_end zr hL
      u_c stepG_seq zr hL
      u_cond true zr hL
      u_c stepG_seq zr hL
      u_reg zr hL
      refine Go.Conc.Goes.stop fun w₃ h₃ => ?_
      replace hL := zr hL h₃
      clear h₃
      refine f_enable' hL hty rfl rfl (fun w => stepG_mark0 .enable (by simp) rfl rfl (by k_ne) rfl H.f_enable (x_enable_n L) (x_enable_b L) (x_enable_x L) (x_enable_f L)) fun w₄ hL => ?_
      refine f_goesL hty rfl 30 ?_
      walk_nrm
      u_c stepG_region_end zr hL
      u_reg zr hL
      u_op zr hL
      u_conv H.underlying_tWgP H.room_tWg (WgLive.cell0 (And.right hL)).choose_spec zr hL
      refine Go.Conc.Goes.stop fun w₅ h₅ => ?_
      replace hL := zr hL h₅
      clear h₅
      refine f_leave rfl rfl fun w₆ vals vis hr hp hh => ?_
      obtain ⟨V', h1, h2, h3, h4⟩ := hT w₆ vals vis (hL.1.trans hr.toRelyB) hp hh
      refine ⟨_, V', stepG_markAt .acquire (by simp) rfl rfl (by k_ne) rfl H.f_acquire (x_acquire_n L) (x_acquire_b L) (x_acquire_x L) (x_acquire_f L) (by simp [Act.eval, stA]), h1, h2, h3, ?_⟩
      have hM : Rely V' w₆ w₆ := Rely.refl (by rw [h1]; trivial)
      refine f_goes0 h1 60 ?_
      walk_nrm
      u_c stepG_region_end Rely.trans hM
      u_c stepG_seq Rely.trans hM
      u_c stepG_seq Rely.trans hM
      u_reg Rely.trans hM
      u_op Rely.trans hM
      u_c stepG_region_end Rely.trans hM
      u_cond false Rely.trans hM
      u_c stepG_skip Rely.trans hM
      u_c stepG_ret' Rely.trans hM
      u_leave0 H.f_wait Rely.trans hM
      exact Go.Conc.Goes.stop fun w h => h4 w (hM.trans h)
    · refine ⟨_, stepG_cas_miss (v := (v' : Int) * KK) (old := S) (n := S + 1) rfl rfl (by k_ne) rfl H.f_casU64 (x_casU64_n L) (x_casU64_b L) (x_casU64_x L) .u64 (x_casU64_f L) rfl rfl rfl hw.cellSt (hw.thaw 0) (by rw [← hS]; simp only [KK]; omega), ?_⟩
      clear hw
      refine f_goesL hty rfl 60 ?_
      walk_nrm
      u_op zr hL
      u_c stepG_region_end zr hL
      u_c stepG_ret' zr hL
      u_leave1 H.f_uCas zr hL
      u_c stepG_region_end zr hL
      u_cond false zr hL
      u_c stepG_skip zr hL
      u_c stepG_inBlock zr hL
      u_c stepG_inLoop zr hL
      refine Go.Conc.Goes.stop fun w₃ h₃ => ?_
      exact ih (v - 1) (by omega) _ w₃ (by simp) (by simp) (zr hL h₃)
set_option maxRecDepth 100000 in
set_option maxHeartbeats 32000000 in
theorem f_wait (H : WgLib P L) (hty : d.ty = L.tWg) (hn : d.n < 2147483648) (hV : V.ext = .crew d d.n (.opn 0 0 d.n)) {w0 : World} (hT : Joined P F hF d V w0 (G (b₀.at (a₀.put ((ops₀[i₀]?).bind (·.dst)) (.tuple #[])) (.inRegion ops₀ rest₀ :: k₀)) cs))
    (w : World) (hL : KW V.vis d.ty d.Wg w0 w) :
    (LF P F hF).ok V (G ((base L.wait).at ⟨#[.pointer (some ⟨d.Wg, 0, none⟩), undef, undef, undef, undef, undef, undef, undef, undef, undef, undef, undef, undef, undef, undef, undef, undef, undef, undef, undef, undef, undef, undef, undef, undef, undef, undef, undef, undef, undef, undef, undef, undef, undef, undef, undef, undef, undef, undef, undef, undef, undef, undef, undef, undef, undef, undef, undef, undef, undef, undef, undef, undef, undef, undef, undef, undef, undef, undef, undef, undef, undef, undef, undef, undef, undef, undef, undef, undef, undef, undef, undef, undef, undef, undef, undef, undef, undef, undef, undef, undef, undef, undef, undef], []⟩ [.code (body_wait L)]) (b₀.at a₀ (.inRegion ops₀ (i₀ :: rest₀) :: k₀) :: cs)) w := by
  have hR := f_round (V := V) H hty hn hT d.n
  rw [hty] at hL hR
  refine f_goesL hty hV 60 ?_
  lib_facts
  simp only [body_wait, waitFn, L7, Option.getD_some] at hR ⊢
  u_c stepG_seq zr hL
  u_cond true zr hL
  u_reg zr hL
  refine Go.Conc.Goes.stop fun w₁ h₁ => ?_
  replace hL := zr hL h₁
  clear h₁
  refine f_disable hL hty hV rfl (fun w => stepG_mark0 .disable (by simp) rfl rfl (by k_ne) rfl H.f_disable (x_disable_n L) (x_disable_b L) (x_disable_x L) (x_disable_f L)) fun w₂ hL => ?_
  refine f_goesL hty rfl 80 ?_
  walk_nrm
  u_c stepG_region_end zr hL
  u_c stepG_block zr hL
  u_c stepG_loop zr hL
  refine Go.Conc.Goes.stop fun w₃ h₃ => ?_
  exact hR _ w₃ (by simp) (by simp) (zr hL h₃)
end
end Go.Eng

namespace Go.Eng
open Go Go.Conc Go.ConcN Go.Conc.Lib Go.ConcR.Gen
open Go.ConcR (KK wgBlock WgAt stA smA DC0)

section
variable {P : Program} {F : Machine → Trace → Prop} {hF : Back P F} {Q : Exit → Act → CW → Prop} {a : Act} {V : Rig} {w : World}
theorem alloc_at? (w : World) (o : Obj) : (w.alloc o).heap[w.heap.size]? = some o := by
  show (w.heap.push o)[w.heap.size]? = some o
  exact Array.getElem?_push_size
theorem alloc_sz (w : World) (o : Obj) : (w.alloc o).heap.size = w.heap.size + 1 := by
  show (w.heap.push o).size = _
  simp
theorem stepG_callB {main : Bool} {b : Frame} {a : Act} {k : List Item} {cs : List Frame} {w : World} {ops : Array Oper} {i : Nat} {rest : List Nat} {o : Oper} {f : FuncId} {fn : Func} {c : Code} {args : Array Operand} {ats : Array TypeId}
    (ho : ops[i]? = some o) (hw : Region.wanted o (yielded ops a.tmps) = true) (hk : b.kind ≠ .early) (hop : o.op = .call { callee := .value (.func f), args, argTypes := ats })
    (hf : P.funcs[f]? = some fn) (hname : (fn.name == "runtime.NumGoroutine") = false) (hb : fn.body = some c) :
    stepG P main (G (b.at a (.inRegion ops (i :: rest) :: k)) cs) w = .go (G ((base f).at { tmps := args.map a.eval ++ Array.replicate (fn.ntmps - (args.map a.eval).size) undef, defers := [] } [.code c]) (b.at a (.inRegion ops (i :: rest) :: k) :: cs)) w #[] := by
  have hb' : fn.body.isNone = false := by rw [hb]; rfl
  rw [stepG_enter ho hw hk (run_call_body hop hf hname hb'), enter_at _ hf hb]
  unfold listed
  rw [events_call_body hop hf hname hb', seen_none]
theorem AfterV.n {L : Lg P} {Q : Exit → Act → CW → Prop} {b : Frame} {k : List Item} {cs : List Frame} (hb : b.roundOf = none) (hc : ∀ e a' x', Q e a' x' → AfterV L b k cs e a' x') {a : Act} {x : CW} (h : Q .normal a x) : L.ok x.V (G (b.at a k) cs) x.w := by
  have := hc _ _ _ h
  rw [← Frame.atR_of_none hb]; exact this
theorem wp_enter {id t : Nat} {ty ty' : TypeId} {pos : String} {af : Array Edge} {rest : Code} (mkd : Nat → Nat → CDat) {C n : Nat} (hWg : ∀ o W, (mkd o W).Wg = W) (hoff : ∀ o W, (mkd o W).off = o) (hty : ∀ o W, (mkd o W).ty = ty) (hC : ∀ o W, (mkd o W).C = C) (hn : ∀ o W, (mkd o W).n = n) (hn31 : n < 2147483648)
    (hV : V.ext = .alone) (hfl : flatC rest = false) (hrun : ∀ (ρ : Operand → Value) (w : World), (execOp ρ ⟨some t, .alloc ty, ty', pos, af, none⟩).run P w = .ok (.value (.pointer (some ⟨w.heap.size, 0, none⟩))) (w.alloc (wgBlock ty 0 0)))
    (hev : ∀ (ρ : Operand → Value) (w : World), (execOp ρ ⟨some t, .alloc ty, ty', pos, af, none⟩).events P w #[] = #[]) (hCm : V.mine C) (hsub : ∀ b, V.mine b → V.vis b) (hlt : ∀ b, V.vis b → b < w.heap.size) (hpay : ∀ o W, @Go.ConcN.PayAt (mkd o W).pay C n w)
    (hd1 : ∀ o W b, V.vis b → (mkd o W).dn b) (hd2 : ∀ o W b, w.heap.size ≤ W → W ≤ b → (mkd o W).dn b)
    (H : ∀ off w₁, Rely V w w₁ → rest.wpV (LF P F hF) Q (a.put (some t) (.pointer (some ⟨w₁.heap.size, 0, none⟩))) ⟨⟨fun b => V.vis b ∧ b ≠ C, fun b => V.mine b ∧ b ≠ C, .crew (mkd off w₁.heap.size) 0 (.opn 0 0 n)⟩, w₁.alloc (wgBlock ty 0 0)⟩) :
    (Code.seq (Code.region id #[⟨some t, .alloc ty, ty', pos, af, none⟩] false) rest).wpV (LF P F hF) Q a ⟨V, w⟩ := by
  intro b k cs hb hf0 hc
  have hb0 : b.roundOf = none := hf0.resolve_right (by simp [flatC, hfl])
  rw [Frame.atR_of_none hb0]
  refine (LF P F hF).silent rfl (fun _ => stepG_seq) ((LF P F hF).silent rfl (fun _ => stepG_region) ?_)
  simp only [List.size_toArray, List.length_cons, List.length_nil, Nat.zero_add, List.range, List.range.loop]
  refine f_enter hV rfl fun w₁ r off _ => ?_
  have hst : stepG P true (G (b.at a (.inRegion #[⟨some t, .alloc ty, ty', pos, af, none⟩] [0] :: .code rest :: k)) cs) w₁ = .go (G (b.at (a.put (some t) (.pointer (some ⟨w₁.heap.size, 0, none⟩))) (.inRegion #[⟨some t, .alloc ty, ty', pos, af, none⟩] [] :: .code rest :: k)) cs) (w₁.alloc (wgBlock ty 0 0)) #[] := by
    rw [stepG_value rfl rfl hb (hrun _ _)]
    unfold listed
    rw [hev, seen_none]
  refine ⟨_, w₁.alloc (wgBlock ty 0 0), mkd off w₁.heap.size, hst, ?_, hWg _ _, alloc_sz _ _, ?_, hoff _ _, by rw [hn]; exact hn31, by rw [hC]; exact hCm, ?_, hd1 _ _, fun b hb => hd2 _ _ b r.size (by rw [hWg] at hb; exact hb), ?_⟩
  · exact ⟨rfl, rfl, rfl, by rw [alloc_sz]; omega, fun b hb _ => alloc_heap w₁ _ b hb, fun e he => by simp at he⟩
  · rw [hty, hWg]
    exact alloc_at? _ _
  · obtain ⟨cs, h1, h2⟩ := hpay off w₁.heap.size
    rw [hC, hn]
    refine ⟨cs, ?_, h2⟩
    rw [alloc_heap w₁ _ C (Nat.lt_of_lt_of_le (hlt _ (hsub _ hCm)) r.size), r.block C (hsub _ hCm)]
    exact h1
  · rw [hC, hn]
    refine (LF P F hF).silent rfl (fun _ => stepG_region_end) ?_
    rw [← Frame.atR_of_none hb0]
    exact H off w₁ r b k cs hb (.inl hb0) hc
theorem f_live {d : CDat} {j : Nat} {tag : Tag} {g : Goroutine} (hV : V.ext = .crew d j tag) (H : ∀ w₁, Rely V w w₁ → WgLive d.ty d.Wg w₁ → (LF P F hF).ok V g w₁) : (LF P F hF).ok V g w := by
  intro gs w₁ sl t hr h0 hc
  have hl : WgLive d.ty d.Wg w₁ := by
    cases hc with
    | alone hc => rw [hc.ext] at hV; cases hV
    | crew hR h =>
      have e := h.ext0
      rw [hR, hV] at e
      cases e
      obtain ⟨st, sm, h, _⟩ := h.mode
      exact ⟨st, sm, h⟩
  exact H w₁ hr hl gs w₁ sl t (Rely.refl hc.live) h0 hc
set_option maxRecDepth 100000 in
theorem add_tmps (L : WgLink) (p q : Value) : (#[p, q] ++ Array.replicate ((addFn L).ntmps - (#[p, q] : Array Value).size) undef) = #[p, q, undef, undef, undef, undef, undef, undef, undef, undef, undef, undef, undef, undef, undef, undef, undef, undef, undef, undef, undef, undef, undef, undef, undef, undef, undef, undef, undef, undef, undef, undef, undef, undef, undef, undef, undef, undef, undef, undef, undef, undef, undef, undef, undef, undef, undef, undef, undef, undef, undef, undef, undef, undef, undef, undef, undef, undef, undef, undef, undef, undef, undef, undef, undef, undef, undef, undef, undef, undef, undef, undef, undef, undef, undef, undef, undef, undef, undef, undef, undef, undef, undef, undef, undef, undef, undef, undef, undef, undef, undef, undef, undef, undef, undef, undef, undef, undef, undef, undef, undef, undef, undef, undef, undef, undef, undef, undef, undef, undef, undef, undef, undef, undef, undef, undef, undef] := by kernel_rfl
set_option maxRecDepth 100000 in
theorem wait_tmps (L : WgLink) (p : Value) : (#[p] ++ Array.replicate ((waitFn L).ntmps - (#[p] : Array Value).size) undef) = #[p, undef, undef, undef, undef, undef, undef, undef, undef, undef, undef, undef, undef, undef, undef, undef, undef, undef, undef, undef, undef, undef, undef, undef, undef, undef, undef, undef, undef, undef, undef, undef, undef, undef, undef, undef, undef, undef, undef, undef, undef, undef, undef, undef, undef, undef, undef, undef, undef, undef, undef, undef, undef, undef, undef, undef, undef, undef, undef, undef, undef, undef, undef, undef, undef, undef, undef, undef, undef, undef, undef, undef, undef, undef, undef, undef, undef, undef, undef, undef, undef, undef, undef, undef] := by kernel_rfl
set_option maxRecDepth 100000 in
theorem wp_add {L : WgLink} (H : WgLib P L) {d : CDat} {j : Nat} (hty : d.ty = L.tWg) (hV : V.ext = .crew d j (.opn 0 0 d.n)) (hj : j < d.n) (hn : d.n < 2147483648) {id : Nat} {dst : Option Tmp} {x : Operand} {ats : Array TypeId} {ty : TypeId} {pos : String} {af : Array Edge}
    (hx : a.eval x = .pointer (some ⟨d.Wg, 0, none⟩)) (hk : ∀ w', RelyB V.vis w w' → Q .normal (a.put dst (.tuple #[])) ⟨V.as (.crew d j (.opn 1 0 d.n)), w'⟩) :
    (Code.region id #[⟨dst, .call ⟨.value (.func L.add), #[x, .const (.int .i64 1)], ats⟩, ty, pos, af, none⟩] false).wpV (LF P F hF) Q a ⟨V, w⟩ := by
  intro b k cs hb hf0 hc
  have hb0 : b.roundOf = none := hf0.resolve_right (by simp [flatC, flatO])
  rw [Frame.atR_of_none hb0]
  refine (LF P F hF).silent rfl (fun _ => stepG_region) ?_
  simp only [List.size_toArray, List.length_cons, List.length_nil, Nat.zero_add, List.range, List.range.loop]
  have e1 : (#[x, .const (.int .i64 1)].map a.eval : Array Value) = #[.pointer (some ⟨d.Wg, 0, none⟩), .int .i64 1] := by
    rw [← hx]
    simp only [List.map_toArray, List.map_cons, List.map_nil]
    rfl
  refine (LF P F hF).silent rfl (fun w => stepG_callB rfl rfl hb rfl H.f_add (nm_add L) rfl) ?_
  rw [e1, add_tmps]
  refine f_live hV fun w₁ r hlive => f_add (j := j) (w0 := w₁) H hty hV hj hn (fun w' hw' => ?_) w₁ ⟨.refl _ _, hlive⟩
  exact (LF P F hF).silent rfl (fun _ => stepG_region_end) (AfterV.n (x := ⟨V.as (.crew d j (.opn 1 0 d.n)), w'⟩) hb0 hc (hk w' (r.toRelyB.trans hw'.1)))
set_option maxRecDepth 100000 in
theorem wp_wait {L : WgLink} (H : WgLib P L) {d : CDat} (hty : d.ty = L.tWg) (hV : V.ext = .crew d d.n (.opn 0 0 d.n)) (hn : d.n < 2147483648) {id : Nat} {dst : Option Tmp} {x : Operand} {ats : Array TypeId} {ty : TypeId} {pos : String} {af : Array Edge}
    (hx : a.eval x = .pointer (some ⟨d.Wg, 0, none⟩))
    (hk : ∀ (w₁ : World) (vals : Nat → Value) (vis : Nat → Nat → Prop), RelyB V.vis w w₁ → @Go.ConcN.PayAt d.pay d.C d.n w₁ → (∀ i, i < d.n → Has d.C i (vals i) w₁ ∧ d.Res i (vis i) (vals i) w₁ ∧ ∀ b, vis i b → d.dn b) →
      ∃ V', V'.ext = .alone ∧ (∀ b, V'.vis b → V.vis b ∨ b = d.C ∨ ∃ i, i < d.n ∧ vis i b) ∧ (∀ b, V'.mine b → V'.vis b) ∧ ∀ w₂, Rely V' w₁ w₂ → Q .normal (a.put dst (.tuple #[])) ⟨V', w₂⟩) :
    (Code.region id #[⟨dst, .call ⟨.value (.func L.wait), #[x], ats⟩, ty, pos, af, none⟩] false).wpV (LF P F hF) Q a ⟨V, w⟩ := by
  intro b k cs hb hf0 hc
  have hb0 : b.roundOf = none := hf0.resolve_right (by simp [flatC, flatO])
  rw [Frame.atR_of_none hb0]
  refine (LF P F hF).silent rfl (fun _ => stepG_region) ?_
  simp only [List.size_toArray, List.length_cons, List.length_nil, Nat.zero_add, List.range, List.range.loop]
  have e1 : (#[x].map a.eval : Array Value) = #[.pointer (some ⟨d.Wg, 0, none⟩)] := by simp [hx]
  refine (LF P F hF).silent rfl (fun w => stepG_callB rfl rfl hb rfl H.f_wait (nm_wait L) rfl) ?_
  rw [e1, wait_tmps]
  refine f_live hV fun w' r hlive => f_wait (w0 := w') H hty hn hV (fun w₁ vals vis h1 h2 h3 => ?_) w' ⟨.refl _ _, hlive⟩
  obtain ⟨V', k1, k2, k3, k4⟩ := hk w₁ vals vis (r.toRelyB.trans h1) h2 h3
  exact ⟨V', k1, k2, k3, fun w₂ r₂ => (LF P F hF).silent rfl (fun _ => stepG_region_end) (AfterV.n (x := ⟨V', w₂⟩) hb0 hc (k4 w₂ r₂))⟩
theorem stepG_go {main : Bool} {b : Frame} {a : Act} {k : List Item} {cs : List Frame} {w : World} {ops : Array Oper} {i : Nat} {rest : List Nat} {o : Oper} {f : FuncId} {x : Operand} {ats : Array TypeId} {vs : Array Value}
    (ho : ops[i]? = some o) (hw : Region.wanted o (yielded ops a.tmps) = true) (hk : b.kind ≠ .early) (hop : o.op = .go { callee := .value x, args := #[], argTypes := ats }) (hx : a.eval x = .func (.func f) #[] vs) :
    stepG P main (G (b.at a (.inRegion ops (i :: rest) :: k)) cs) w = .spawn (G (b.at (a.put o.dst undef) (.inRegion ops rest :: k)) cs) (born P ⟨.fn (.func f) vs, #[]⟩) w #[] := by
  rw [stepG_spawn (d := ⟨.fn (.func f) vs, #[]⟩) (w' := w) (f := .func f) (c := vs) ho hw hk ?_ rfl]
  · congr 1
    unfold listed
    have : (execOp a.eval o).events P w #[] = #[] := by
      simp [execOp, hop, resolve, hx, Deferred.ofValue]
    rw [this, seen_none]
  · simp [execOp, hop, resolve, hx, Deferred.ofValue]
theorem wp_go {d : CDat} {j : Nat} (hV : V.ext = .crew d j (.opn 1 0 d.n)) {id t : Nat} {f : FuncId} {caps : Array Operand} {ats : Array TypeId} {ty₁ ty₂ : TypeId} {p₁ p₂ : String} {af₁ af₂ : Array Edge} {vs : Array Value} (ht : t < a.tmps.size) (hcap : caps.map a.eval = vs)
    (hchild : ∀ w₁, Rely V w w₁ → @Go.ConcN.PayAt d.pay d.C d.n w₁ → (LH P (HStop P d j)).ok ⟨V.vis, fun _ => False, .hand d j⟩ (born P ⟨.fn (.func f) vs, #[]⟩) w₁)
    (hk : ∀ w₁, Rely V w w₁ → Q .normal (a.put (some t) (.func (.func f) #[] vs)) ⟨⟨V.vis, fun _ => False, .crew d (j + 1) (.opn 0 0 d.n)⟩, w₁⟩) :
    (Code.region id #[⟨some t, .makeFunc (.func f) #[] caps, ty₁, p₁, af₁, none⟩, ⟨none, .go ⟨.value (.tmp t), #[], ats⟩, ty₂, p₂, af₂, none⟩] false).wpV (LF P F hF) Q a ⟨V, w⟩ := by
  intro b k cs hb hf0 hc
  have hb0 : b.roundOf = none := hf0.resolve_right (by simp [flatC, flatO])
  rw [Frame.atR_of_none hb0]
  refine (LF P F hF).silent rfl (fun _ => stepG_region) ?_
  simp only [List.size_toArray, List.length_cons, List.length_nil, Nat.zero_add, Nat.reduceAdd, List.range, List.range.loop]
  refine (LF P F hF).silent (g' := G (b.at (a.put (some t) (.func (.func f) #[] vs)) (.inRegion #[⟨some t, .makeFunc (.func f) #[] caps, ty₁, p₁, af₁, none⟩, ⟨none, .go ⟨.value (.tmp t), #[], ats⟩, ty₂, p₂, af₂, none⟩] [1] :: k)) cs) rfl (fun w => ?_) ?_
  · rw [stepG_value (o := ⟨some t, .makeFunc (.func f) #[] caps, ty₁, p₁, af₁, none⟩) (v := .func (.func f) #[] vs) (w' := w) rfl rfl hb]
    · unfold listed
      have : (execOp a.eval ⟨some t, .makeFunc (.func f) #[] caps, ty₁, p₁, af₁, none⟩).events P w #[] = #[] := by simp [execOp, Instr.makeFunc]
      rw [this, seen_none]
    · simp [execOp, hcap, Instr.makeFunc]
  · refine f_spawn hV rfl fun w₁ r hp => ⟨_, _, stepG_go (f := f) (vs := vs) rfl rfl hb rfl ?_, hchild w₁ r hp, ?_⟩
    · simp [Act.eval, Act.put, ht]
    · exact (LF P F hF).silent rfl (fun _ => stepG_region_end) (AfterV.n (x := ⟨_, w₁⟩) hb0 hc (hk w₁ r))
end
end Go.Eng
namespace Go.Eng
open Go Go.Conc Go.ConcN

def NewTo (x0 : CW) (I0 : Nat → Nat → Prop) (b o : Nat) : Prop := I0 b o ∨ x0.w.heap.size ≤ b ∨ ¬ x0.V.vis b
def frz (F : Nat → Prop) (g : Gh) (w : World) (b o : Nat) : Prop := g.I b o ∨ ((∃ n, F n ∧ g.m n = some b) ∧ (w.cell? ⟨b, o, none⟩).isSome = true)
structure At (x0 : CW) (I0 : Nat → Nat → Prop) (nt C : Nat) (e : Ext) (tm : List (Nat × AV)) (a : Act) (x : CW) : Prop where
  ext : x.V.ext = e
  rig : Rigged x
  below : BelowM x0.w.heap.size (fun b => ¬ x0.V.vis b) x0.w x.w
  up : ∀ b, x0.V.vis b → x.V.vis b
  dn : ∀ b, x.V.vis b → x0.V.vis b ∨ x0.w.heap.size ≤ b
  nC : ¬ x.V.vis C
  Clt : C < x.w.heap.size
  sz : a.tmps.size = nt
  de : a.defers = []
  dat : ∃ I, SeesI I x ∧ (∀ b o, I b o → NewTo x0 I0 b o) ∧ (∀ b o, I0 b o → I b o) ∧ ∀ t, rep (g0 I) x.w (look tm t) (a.tmps.getD t undef)

section
variable {P : Program} {x0 : CW} {I0 : Nat → Nat → Prop} {nt C : Nat} {e : Ext} {tm tm' : List (Nat × AV)} {a a' : Act} {x x' : CW} {g : Gh} {s : St}
theorem BelowM.rely {B : Nat} {V : Rig} {w0 w w₁ : World} {vis : Nat → Prop} (h : BelowM B (fun b => ¬ vis b) w0 w) (hv : ∀ b, vis b → V.vis b) (r : RelyB V.vis w w₁) : BelowM B (fun b => ¬ vis b) w0 w₁ :=
  ⟨r.os.trans h.os, r.tape.trans h.tape, r.output.trans h.output, Nat.le_trans h.size r.size, fun k hk hM => (r.block k (hv k (Classical.not_not.1 hM))).trans (h.block k hk hM)⟩
theorem rely_keeps {I : Nat → Nat → Prop} {vis : Nat → Prop} {w w₁ : World} (h : ∀ b o, I b o → vis b) (r : RelyB vis w w₁) : Keeps I w w₁ := fun b o hb => World.cell?_of_block (a := ⟨b, o, none⟩) (r.block b (h b o hb))
theorem SeesI.rely {I : Nat → Nat → Prop} (h : SeesI I x) {V' : Rig} {w₁ : World} (hv : ∀ b, x.V.vis b → V'.vis b) (r : RelyB x.V.vis x.w w₁) : SeesI I ⟨V', w₁⟩ := fun b o hb =>
  ⟨by rw [rely_keeps (fun b o h' => (h b o h').2) r b o hb]; exact (h b o hb).1, hv b (h b o hb).2⟩
theorem rep_keep {I I' : Nat → Nat → Prop} {w w₁ : World} (hI : ∀ b o, I b o → I' b o) (hk : Keeps I w w₁) {v : AV} {y : Value} (h : rep (g0 I) w v y) : rep (g0 I') w₁ v y :=
  rep_goes (g := g0 I) (g' := g0 I') ⟨hI, hk, fun n b h => by simp [g0] at h, fun _ _ _ => rfl, fun n T e rows y h => by exact h.1.elim, fun n b k h7 h => by simp [g0] at h⟩ h
theorem At.rely (h : At x0 I0 nt C e tm a x) {e' : Ext} {M : Nat → Prop} (hM : ∀ b, M b → x.V.vis b) {w₁ : World} (r : RelyB x.V.vis x.w w₁) : At x0 I0 nt C e' tm a ⟨⟨x.V.vis, M, e'⟩, w₁⟩ := by
  obtain ⟨I, h1, h2, h3, h4⟩ := h.dat
  exact ⟨rfl, ⟨hM, fun b hb => Nat.lt_of_lt_of_le (h.rig.lt b hb) r.size⟩, h.below.rely h.up r, h.up, h.dn, h.nC, Nat.lt_of_lt_of_le h.Clt r.size, h.sz, h.de, I, h1.rely (fun _ h => h) r, h2, h3, fun t => rep_keep (fun _ _ h => h) (rely_keeps (fun b o h' => (h1 b o h').2) r) (h4 t)⟩
theorem At.inv (h : At x0 I0 nt C e tm a x) : ∃ I, (∀ b o, I b o → NewTo x0 I0 b o) ∧ (∀ b o, I0 b o → I b o) ∧ Inv (enC P x.w.heap.size x.w nt (fun b => ¬ x.V.vis b) I x.V) (g0 I) ⟨tm, [], []⟩ a x := by
  obtain ⟨I, h1, h2, h3, h4⟩ := h.dat
  exact ⟨I, h2, h3, ⟨⟨BelowM.refl _ _ _, Nat.le_refl _, fun b o h => (h1 b o h).1, fun n b h => by simp [g0] at h, fun n b h => by simp [g0] at h, fun n n' b h => by simp [g0] at h, fun n n' b h => by simp [g0] at h, fun n n' b h => by simp [g0] at h,
      fun n cs h => by simp at h, fun n b h => by simp [g0] at h, fun n h => by simp [g0] at h, fun b o h => .inl h, fun b o h => h, fun n b T h => h.elim⟩,
      ⟨fun b o h => (h1 b o h).2, fun n b h => by simp [g0] at h, fun n b h => by simp [g0] at h, h.rig.sub, h.rig.lt, fun _ h => h, fun _ h => h, fun _ h => .inl h, fun _ h => .inl h, fun b h => Classical.not_not.1 h, rfl⟩⟩, h4, h.de, h.sz⟩
theorem frz_cell {F : Nat → Prop} {E : En} {V : Rig} {bl : List (Nat × List AV)} {ow : List Nat} {w : World} (hm : MemV E g bl ow ⟨V, w⟩) : SeesI (frz F g w) ⟨V, w⟩ := by
  rintro b o (h | ⟨⟨n, _, h1⟩, h2⟩)
  · exact ⟨hm.mem.cell b o h, hm.vis.I b o h⟩
  · exact ⟨h2, (hm.vis.m n b h1).1⟩
theorem rep_frzE {F : Nat → Prop} {w : World} {cs : List AV} {y : Value} (h : rep g w (.eptr cs) y) : rep (g0 (frz F g w)) w (.eptr cs) y := by
  simp only [rep] at h ⊢
  obtain ⟨b, o, h1, h2⟩ := h
  exact ⟨b, o, h1, dcells_mono (fun _ _ h => .inl h) (fun _ _ _ => rfl) h2⟩
theorem look_all {w : World} : ∀ {tm : List (Nat × AV)}, (∀ p ∈ tm, rep g w p.2 (a.tmps.getD p.1 undef)) → ∀ t, rep g w (look tm t) (a.tmps.getD t undef)
  | [], _, _ => by simp [look, rep]
  | p :: r, h, t => by
    obtain ⟨k, v⟩ := p
    simp only [look]
    cases e : Nat.beq k t
    · exact look_all (fun q hq => h q (by simp [hq])) t
    · have e := Nat.eq_of_beq_eq_true e
      subst e
      exact h (k, v) (by simp)
theorem rep_frzB {F : Nat → Prop} {E : En} {V : Rig} {bl : List (Nat × List AV)} {ow : List Nat} {w : World} (hm : MemV E g bl ow ⟨V, w⟩) {n : Nat} {cs cs' : List AV} (hn : (n, cs) ∈ bl) (hF : F n) {y : Value} (h : rep g w (.ptr n 0) y)
    (hcs : ∀ ys, reps g w cs ys → dreps (frz F g w) w cs' ys) : rep (g0 (frz F g w)) w (.eptr cs') y := by
  simp only [rep] at h ⊢
  obtain ⟨b, h1, h2⟩ := h
  obtain ⟨b', arr, k1, k2, k3, k4⟩ := hm.mem.blk n cs hn
  rw [h1] at k1; cases k1
  refine ⟨b, 0, h2, dcells_of_list (hcs _ k3) fun j z hj => ?_⟩
  have hz : w.cell? ⟨b, 0 + j, none⟩ = some z := by rw [cell_of_heap k2, Nat.zero_add]; simpa using hj
  exact ⟨hz, .inr ⟨⟨n, hF, h1⟩, by rw [hz]; rfl⟩⟩
theorem At.put (h : At x0 I0 nt C e tm a x) {t0 : Nat} {y : Value} (ht : look tm t0 = .top) : At x0 I0 nt C e tm (a.put (some t0) y) x := by
  obtain ⟨I, h1, h2, h3, h4⟩ := h.dat
  refine ⟨h.ext, h.rig, h.below, h.up, h.dn, h.nC, h.Clt, by simp [Act.put, h.sz], h.de, I, h1, h2, h3, fun t => ?_⟩
  by_cases e : t = t0
  · subst e
    rw [ht]; simp [rep]
  · have e3 : (a.put (some t0) y).tmps.getD t undef = a.tmps.getD t undef := by
      simp [Act.put, Array.getD_eq_getD_getElem?, Ne.symm e]
    rw [e3]
    exact h4 t
theorem At.eval (h : At x0 I0 nt C e tm a x) {t : Nat} {y : Value} (ht : look tm t = .v y) : a.eval (.tmp t) = y := by
  obtain ⟨I, h1, h2, h3, h4⟩ := h.dat
  have := h4 t
  rw [ht] at this
  simp only [rep] at this
  simpa [Act.eval] using this
theorem At.next (h : At x0 I0 nt C e tm a x) {I : Nat → Nat → Prop} (hN : ∀ b o, I b o → NewTo x0 I0 b o) (hI0 : ∀ b o, I0 b o → I b o) (hi : Inv (enC P x.w.heap.size x.w nt (fun b => ¬ x.V.vis b) I x.V) g s a' x')
    (hd : ∀ t, rep (g0 (frz (fun _ => True) g x'.w)) x'.w (look tm' t) (a'.tmps.getD t undef)) : At x0 I0 nt C e tm' a' x' := by
  have hm := hi.mem.mem
  have hv := hi.mem.vis
  have hup : ∀ b, x0.V.vis b → x'.V.vis b := fun b hb => hv.up b (h.up b hb)
  have hsz : x0.w.heap.size ≤ x.w.heap.size := h.below.size
  refine ⟨hv.ext.trans h.ext, ⟨hv.sub, hv.lt⟩, ?_, hup, fun b hb => ?_, fun hb => ?_, Nat.lt_of_lt_of_le h.Clt hm.base, hi.sz, hi.de, frz (fun _ => True) g x'.w, frz_cell hi.mem, ?_, fun b o hb => .inl (hm.iold b o (hI0 b o hb)), hd⟩
  · exact ⟨hm.below.os.trans h.below.os, hm.below.tape.trans h.below.tape, hm.below.output.trans h.below.output, Nat.le_trans hsz hm.below.size, fun k hk hM => (hm.below.block k (Nat.lt_of_lt_of_le hk hsz) (fun hn => hn (h.up k (Classical.not_not.1 hM)))).trans (h.below.block k hk hM)⟩
  · rcases hv.dn b hb with h1 | h1
    · exact h.dn b h1
    · exact .inr (Nat.le_trans hsz h1)
  · rcases hv.dn C hb with h1 | h1
    · exact h.nC h1
    · exact absurd h.Clt (Nat.not_lt.2 h1)
  · have new : ∀ b, x.w.heap.size ≤ b ∨ ¬ x.V.vis b → ∀ o, NewTo x0 I0 b o := fun b hb o => hb.elim (fun h1 => .inr (.inl (Nat.le_trans hsz h1))) fun h1 => .inr (.inr fun h2 => h1 (h.up b h2))
    rintro b o (hb | ⟨⟨n, _, h1⟩, _⟩)
    · rcases hm.inew b o hb with h1 | h1
      · exact hN b o h1
      · exact new b h1 o
    · rcases (hm.mfr n b h1).1 with h2 | h2
      · cases h2
      · exact new b h2 o
def Looks (tm : List (Nat × AV)) : List (Nat × AV) → Prop
  | [] => True
  | p :: r => look tm p.1 = p.2 ∧ Looks tm r
def dtB : AV → Bool
  | .v _ => true
  | .eptr _ => true
  | _ => false
theorem frz_all {F : Nat → Prop} {E : En} (hi : Inv E g s a x) : ∀ {tm' : List (Nat × AV)}, Looks s.tm tm' → tm'.all (fun p => dtB p.2) = true → ∀ t, rep (g0 (frz F g x.w)) x.w (look tm' t) (a.tmps.getD t undef)
  | [], _, _, _ => by simp [look, rep]
  | p :: r, hk, hd, t => by
    obtain ⟨k, v⟩ := p
    simp only [List.all_cons, Bool.and_eq_true] at hd
    obtain ⟨h1, h2⟩ := hk
    simp only [look]
    cases e : Nat.beq k t
    · exact frz_all hi h2 hd.2 t
    · have e := Nat.eq_of_beq_eq_true e
      subst e
      have h := hi.tm k
      rw [h1] at h
      simp only [cond_true]
      obtain ⟨hd1, _⟩ := hd
      cases v with
      | v y => simpa [rep] using h
      | eptr cs => exact rep_frzE h
      | _ => cases hd1
theorem look_cons {gh : Gh} {w : World} {t0 : Nat} {v : AV} (h0 : rep gh w v (a.tmps.getD t0 undef)) (h : ∀ t, rep gh w (look tm t) (a.tmps.getD t undef)) (t : Nat) : rep gh w (look ((t0, v) :: tm) t) (a.tmps.getD t undef) := by
  simp only [look]
  cases e : Nat.beq t0 t
  · exact h t
  · have e := Nat.eq_of_beq_eq_true e
    subst e
    exact h0
theorem At.run (h : At x0 I0 nt C e tm a x) {L : Lg P} {c : Code} {Q' : Exit → Act → CW → Prop} (tm' : List (Nat × AV)) (hd : tm'.all (fun p => dtB p.2) = true)
    (hW : ∀ (B : Nat) (w0 : World) (M : Nat → Prop) (I : Nat → Nat → Prop) (V0 : Rig), W (enC P B w0 nt M I V0) c (fun e s' => e = .normal ∧ Looks s'.tm tm') ⟨tm, [], []⟩) (hk : ∀ a' x', At x0 I0 nt C e tm' a' x' → Q' .normal a' x') : c.wpV L Q' a x := by
  obtain ⟨I, h1, h2, hi⟩ := h.inv (P := P)
  exact use_W' (fun s => Looks s.tm tm') (hW _ _ _ _ _) hi fun s g a' x' hs hi' => hk a' x' (h.next h1 h2 hi' (frz_all hi' hs hd))
theorem At.runB (h : At x0 I0 nt C e tm a x) {L : Lg P} {c : Code} {Q' : Exit → Act → CW → Prop} (tm' : List (Nat × AV)) (t5 n5 : Nat) (y5 : Value) (hd : tm'.all (fun p => dtB p.2) = true)
    (hW : ∀ (B : Nat) (w0 : World) (M : Nat → Prop) (I : Nat → Nat → Prop) (V0 : Rig), W (enC P B w0 nt M I V0) c (fun e s' => e = .normal ∧ Looks s'.tm tm' ∧ look s'.tm t5 = .ptr n5 0 ∧ (n5, [.v y5]) ∈ s'.bl) ⟨tm, [], []⟩)
    (hk : ∀ a' x', At x0 I0 nt C e ((t5, .eptr [.v y5]) :: tm') a' x' → Q' .normal a' x') : c.wpV L Q' a x := by
  obtain ⟨I, h1, h2, hi⟩ := h.inv (P := P)
  refine use_W' (fun s => Looks s.tm tm' ∧ look s.tm t5 = .ptr n5 0 ∧ (n5, [.v y5]) ∈ s.bl) (hW _ _ _ _ _) hi fun s g a' x' hs hi' => hk a' x' (h.next h1 h2 hi' (look_cons ?_ (frz_all hi' hs.1 hd)))
  refine rep_frzB hi'.mem hs.2.2 trivial (by rw [← hs.2.1]; exact hi'.tm t5) fun ys h => ?_
  simp only [reps, rep] at h
  obtain ⟨y, zs, rfl, rfl, rfl⟩ := h
  simp only [dreps, drep]
  exact ⟨_, [], rfl, rfl, rfl⟩
theorem At.first {d : Ext} {nC : Nat} (hx0 : Rigged x0) (hi : Inv (enC P x0.w.heap.size x0.w nt (fun b => ¬ x0.V.vis b) I0 x0.V) g s a x) (hC : g.m nC = some C) (hCb : x0.w.heap.size ≤ C) (hCI : ∀ o, ¬ g.I C o) {w₁ : World} (r : RelyB x.V.vis x.w w₁) {o : Obj} {t4 : Nat}
    (hd : ∀ t, rep (g0 (frz (· ≠ nC) g x.w)) x.w (look tm t) (a.tmps.getD t undef)) (ht4 : t4 < nt) :
    At x0 I0 nt C d ((t4, .v (.pointer (some ⟨w₁.heap.size, 0, none⟩))) :: tm) (a.put (some t4) (.pointer (some ⟨w₁.heap.size, 0, none⟩))) ⟨⟨fun b => x.V.vis b ∧ b ≠ C, fun b => x.V.mine b ∧ b ≠ C, d⟩, w₁.alloc o⟩ := by
  have hm := hi.mem.mem
  have hv := hi.mem.vis
  have hz : w₁.heap.size ≤ (w₁.alloc o).heap.size := by rw [alloc_sz]; omega
  have r2 : RelyB (fun b => x.V.vis b ∧ b ≠ C) x.w (w₁.alloc o) := ⟨r.os, r.tape, r.output, Nat.le_trans r.size hz, fun b hb => (alloc_heap _ _ b (Nat.lt_of_lt_of_le (hv.lt b hb.1) r.size)).trans (r.block b hb.1)⟩
  have hne : ∀ b, x0.V.vis b → b ≠ C := fun b hb e => by have := hx0.lt b hb; omega
  have hsee : SeesI (frz (· ≠ nC) g x.w) ⟨⟨fun b => x.V.vis b ∧ b ≠ C, fun b => x.V.mine b ∧ b ≠ C, d⟩, x.w⟩ := fun b o hb => by
    have h1 := frz_cell (F := (· ≠ nC)) hi.mem b o hb
    refine ⟨h1.1, h1.2, fun e => ?_⟩
    subst e
    rcases hb with hb | ⟨⟨n, hn, hb⟩, _⟩
    · exact hCI o hb
    · exact hn (hm.minj n nC _ hb hC)
  refine ⟨rfl, ⟨fun b hb => ⟨hv.sub b hb.1, hb.2⟩, fun b hb => Nat.lt_of_lt_of_le (hv.lt b hb.1) (Nat.le_trans r.size hz)⟩, ?_, fun b hb => ⟨hv.up b hb, hne b hb⟩, fun b hb => hv.dn b hb.1, fun hb => hb.2 rfl,
    Nat.lt_of_lt_of_le (hm.mfr nC C hC).2 (Nat.le_trans r.size hz), by simp [Act.put, hi.sz], hi.de, frz (· ≠ nC) g x.w, fun b o hb => ?_, ?_, fun b o hb => .inl (hm.iold b o hb), fun t => ?_⟩
  · refine ⟨r.os.trans hm.below.os, r.tape.trans hm.below.tape, r.output.trans hm.below.output, Nat.le_trans hm.below.size (Nat.le_trans r.size hz), fun k hk hM => ?_⟩
    have hk' := Classical.not_not.1 hM
    exact (r2.block k ⟨hv.up k hk', hne k hk'⟩).trans (hm.below.block k hk hM)
  · exact ⟨by rw [rely_keeps (fun b o h' => (hsee b o h').2) r2 b o hb]; exact (hsee b o hb).1, (hsee b o hb).2⟩
  · rintro b o (hb | ⟨⟨n, _, h1⟩, _⟩)
    · rcases hm.inew b o hb with h1 | h1
      · exact .inl h1
      · exact .inr h1
    · rcases (hm.mfr n b h1).1 with h2 | h2
      · cases h2
      · exact .inr h2
  · have hk := rely_keeps (fun b o h' => (hsee b o h').2) r2
    by_cases e : t = t4
    · subst e
      have hl : t < a.tmps.size := by rw [hi.sz]; exact ht4
      simp [look, rep, Act.put, hl]
    · have e2 : Nat.beq t4 t = false := Bool.eq_false_iff.2 fun h => e (Nat.eq_of_beq_eq_true h).symm
      have e3 : (a.put (some t4) (.pointer (some ⟨w₁.heap.size, 0, none⟩))).tmps.getD t undef = a.tmps.getD t undef := by
        simp [Act.put, Array.getD_eq_getD_getElem?, Ne.symm e]
      simp only [look, e2, cond_false]
      rw [e3]
      exact rep_keep (fun _ _ h => h) hk (hd t)
theorem dreps_rows {I : Nat → Nat → Prop} {w : World} {rows : Nat → List AV} {vals : Nat → Value} : ∀ (l : List Nat), (∀ i ∈ l, ∃ v, rows i = [v] ∧ drep I w v (vals i)) → dreps I w (l.map rows).flatten (l.map vals)
  | [], _ => by simp [dreps]
  | i :: l, h => by
    obtain ⟨v, h1, h2⟩ := h i (by simp)
    simp only [List.map_cons, List.flatten_cons, h1, List.cons_append, List.nil_append, dreps]
    exact ⟨_, _, rfl, h2, dreps_rows l fun j hj => h j (by simp [hj])⟩
theorem At.joined (h : At x0 I0 nt C e tm a x) (hx0 : Rigged x0) (h0e : x0.V.ext = .alone) {w₁ : World} (r : RelyB x.V.vis x.w w₁) {n : Nat} (hCb : x0.w.heap.size ≤ C) {rows : Nat → List AV} {vals : Nat → Value} {vis : Nat → Nat → Prop}
    (hC : ∀ i, i < n → w₁.cell? ⟨C, i, none⟩ = some (vals i)) (hdn : ∀ i, i < n → ∀ b, vis i b → x0.V.vis b ∨ x0.w.heap.size ≤ b)
    (hh : ∀ i, i < n → ∃ J : Nat → Nat → Prop, (∀ b o, J b o → vis i b ∧ (w₁.cell? ⟨b, o, none⟩).isSome = true ∧ NewTo x0 I0 b o) ∧ ∃ v, rows i = [v] ∧ drep J w₁ v (vals i)) {t3 : Nat} (h3 : look tm t3 = .eptr [.v (.slice (some ⟨C, 0, none⟩) n n)]) :
    ∃ V' : Rig, V'.ext = .alone ∧ (∀ b, V'.vis b → x.V.vis b ∨ b = C ∨ ∃ i, i < n ∧ vis i b) ∧ (∀ b, V'.mine b → V'.vis b) ∧ ∀ w₂, Rely V' w₁ w₂ →
      ∃ g, Inv (enC P x0.w.heap.size x0.w nt (fun b => ¬ x0.V.vis b) I0 x0.V) g ⟨[(t3, .eptr [.sl 1 ((List.range n).map rows)])], [], []⟩ a ⟨V', w₂⟩ := by
  obtain ⟨I, s1, s2, s3, s4⟩ := h.dat
  let V' : Rig := ⟨fun b => x.V.vis b ∨ b = C ∨ ∃ i, i < n ∧ vis i b ∧ ∃ o, (w₁.cell? ⟨b, o, none⟩).isSome = true, x0.V.mine, .alone⟩
  have hsz : x0.w.heap.size ≤ x.w.heap.size := h.below.size
  have hup : ∀ b, x0.V.vis b → V'.vis b := fun b hb => .inl (h.up b hb)
  have hsub : ∀ b, V'.mine b → V'.vis b := fun b hb => hup b (hx0.sub b hb)
  refine ⟨V', rfl, fun b hb => hb.imp id (fun k => k.imp id fun ⟨i, h1, h2, _⟩ => ⟨i, h1, h2⟩), hsub, fun w₂ r₂ => ?_⟩
  let I' : Nat → Nat → Prop := fun b o => I b o ∨ (b = C ∧ o < n) ∨ ∃ i, i < n ∧ vis i b ∧ (w₁.cell? ⟨b, o, none⟩).isSome = true ∧ NewTo x0 I0 b o
  have hvis : ∀ b o, I' b o → V'.vis b := fun b o hb => by
    rcases hb with hb | ⟨hb, _⟩ | ⟨i, h1, h2, h4, _⟩
    · exact .inl (s1 b o hb).2
    · exact .inr (.inl hb)
    · exact .inr (.inr ⟨i, h1, h2, o, h4⟩)
  have k2 : Keeps I' w₁ w₂ := rely_keeps hvis r₂.toRelyB
  have k1 : Keeps I x.w w₁ := rely_keeps (fun b o hb => (s1 b o hb).2) r
  have kI : Keeps I x.w w₂ := fun b o hb => (k2 b o (.inl hb)).trans (k1 b o hb)
  have hcell : ∀ b o, I' b o → (w₂.cell? ⟨b, o, none⟩).isSome = true := fun b o hb => by
    rw [k2 b o hb]
    rcases hb with hb | ⟨rfl, h1⟩ | ⟨i, h1, h2, h4, _⟩
    · rw [k1 b o hb]; exact (s1 b o hb).1
    · rw [hC o h1]; rfl
    · exact h4
  have hnew : ∀ b o, I' b o → NewTo x0 I0 b o := fun b o hb => by
    rcases hb with hb | ⟨rfl, h1⟩ | ⟨i, h1, h2, h4, h5⟩
    · exact s2 b o hb
    · exact .inr (.inl hCb)
    · exact h5
  have hs2 : x.w.heap.size ≤ w₂.heap.size := Nat.le_trans r.size r₂.size
  refine ⟨g0 I', ⟨⟨?_, Nat.le_trans hsz hs2, hcell, fun n b h => by simp [g0] at h, fun n b h => by simp [g0] at h, fun n n' b h => by simp [g0] at h, fun n n' b h => by simp [g0] at h, fun n n' b h => by simp [g0] at h,
      fun n cs h => by simp at h, fun n b h => by simp [g0] at h, fun n h => by simp [g0] at h, hnew, fun b o hb => .inl (s3 b o hb), fun n b T h => h.elim⟩,
      ⟨hvis, fun n b h => by simp [g0] at h, fun n b h => by simp [g0] at h, hsub, fun b hb => ?_, hup, fun _ h => h, fun b hb => ?_, fun _ h => .inl h, fun b h => Classical.not_not.1 h, h0e.symm⟩⟩, fun t => ?_, h.de, h.sz⟩
  · exact (h.below.rely h.up r).rely (V := V') hup r₂.toRelyB
  · rcases hb with hb | rfl | ⟨i, _, _, o, h4⟩
    · exact Nat.lt_of_lt_of_le (h.rig.lt b hb) hs2
    · exact Nat.lt_of_lt_of_le h.Clt hs2
    · exact Nat.lt_of_lt_of_le (cell_lt h4) r₂.size
  · rcases hb with hb | rfl | ⟨i, h1, h2, _⟩
    · exact h.dn b hb
    · exact .inr hCb
    · exact hdn i h1 b h2
  · by_cases e : t = t3
    · subst e
      have h4 := s4 t
      rw [h3] at h4
      simp only [rep, dcells, drep] at h4
      obtain ⟨b, o, h5, ⟨z, h6, h7, h8⟩, _⟩ := h4
      subst h8
      have e2 : Nat.beq t t = true := by simp
      simp only [look, e2, cond_true, rep, dcells, and_true]
      refine ⟨b, o, h5, _, (kI b o h7).trans h6, .inl h7, ?_⟩
      simp only [drep]
      refine ⟨_, n, by simp, .inr ⟨C, 0, rfl, drows_iff.2 ⟨fun r hr => ?_, dcells_of_list (zs := (List.range n).map vals) (dreps_rows _ fun i hi => ?_) fun j z hj => ?_⟩⟩, by simp⟩
      · obtain ⟨i, hi, rfl⟩ := List.mem_map.1 hr
        obtain ⟨_, _, v, h9, _⟩ := hh i (List.mem_range.1 hi)
        rw [h9]; rfl
      · have hi := List.mem_range.1 hi
        obtain ⟨J, hJ, v, h9, h10⟩ := hh i hi
        have hJ' : ∀ b o, J b o → I' b o := fun b o hb => .inr (.inr ⟨i, hi, (hJ b o hb).1, (hJ b o hb).2.1, (hJ b o hb).2.2⟩)
        exact ⟨v, h9, drep_mono hJ' (fun b o hb => k2 b o (hJ' b o hb)) h10⟩
      · rw [Nat.zero_add]
        have hj' : j < n := by simpa using (List.getElem?_eq_some_iff.1 hj).1
        have : z = vals j := by simpa [hj'] using hj.symm
        subst this
        have hI : I' C j := .inr (.inl ⟨rfl, hj'⟩)
        exact ⟨(k2 C j hI).trans (hC j hj'), hI⟩
    · have e2 : Nat.beq t3 t = false := Bool.eq_false_iff.2 fun h => e (Nat.eq_of_beq_eq_true h).symm
      simp only [look, e2, cond_false, rep]
theorem body_of_W {x0 : CW} {I : Nat → Nat → Prop} {fn : Func} {R : AV → Prop} {c : Code} {L : Lg P} (h : W (enC P x0.w.heap.size x0.w nt (fun b => ¬ x0.V.vis b) I x0.V) c (retQ (enC P x0.w.heap.size x0.w nt (fun b => ¬ x0.V.vis b) I x0.V) fn.results.toList R) s)
    (hi : Inv (enC P x0.w.heap.size x0.w nt (fun b => ¬ x0.V.vis b) I x0.V) g s a x) :
    c.wpV L (fun e a' x' => bodyPostV L fn (fun y x' => ∃ r g', R r ∧ rep g' x'.w r y ∧ Ret I x0 g' x') e a' x' ∧ x'.V.ext = x0.V.ext) a x := by
  refine wpV_mono (h L _ _ _ hi) fun e a' x' hq => ?_
  obtain ⟨g', s', hq, hi⟩ := hq
  refine ⟨?_, hi.mem.vis.ext⟩
  have fin : ∀ s1, Weak (enC P x0.w.heap.size x0.w nt (fun b => ¬ x0.V.vis b) I x0.V) s' s1 → ∀ xs, resA P s1 fn.results.toList xs → R (oneA xs) → refs [] s1.ow (oneA xs) = true → a'.defers = [] ∧ ∀ w₁, Rely x'.V x'.w w₁ → ∃ v, (results fn a'.tmps).run P w₁ = .ok v w₁ ∧
      (∀ e ∈ (results fn a'.tmps).events P w₁ #[], EvG x'.V w₁.heap.size w₁.heap.size e) ∧ ∃ r g', R r ∧ rep g' w₁ r v ∧ Ret I x0 g' ⟨x'.V, w₁⟩ := by
    intro s1 hw xs h1 h2 h3
    obtain ⟨g', hi⟩ := hw _ _ _ hi
    refine ⟨hi.de, fun w₁ r => ?_⟩
    have hi := hi.rely r
    obtain ⟨y, k1, k2, k3⟩ := run_results hi h1
    let g2 : Gh := { g' with m := fun _ => none }
    refine ⟨y, k1, fun e he => ?_, oneA xs, g2, h2, rep_refs (g := g') (g' := g2) rfl (fun n b hn => by simp at hn) rfl (fun n _ h => ⟨h, rfl⟩) h3 k2, ?_⟩
    · rcases k3 e he with ⟨a, rfl, ha⟩ | hk
      · exact .inl ⟨a, false, rfl, .inl ⟨seen_vis hi.mem.vis ha, fun h => by cases h⟩⟩
      · exact .inr (.inl hk)
    · have hm := hi.mem.mem
      have hv := hi.mem.vis
      have nM : ∀ b, x'.V.vis b → (¬ x0.V.vis b) → x0.w.heap.size ≤ b := fun b h1 h2 => (hv.dn b h1).resolve_left h2
      exact ⟨hm.below, hm.iold, fun b o h => (hm.inew b o h).imp id (fun h' => h'.elim id (nM b (hv.I b o h))), hm.cell, fun n b h1 h2 => ⟨(hm.ofr n b h1 h2).1.elim id (nM b (hv.sub b (hv.o n b h1 h2))), (hm.ofr n b h1 h2).2⟩, hm.oinj,
        ⟨⟨hv.sub, hv.lt⟩, hv.up, hv.upm, hv.dn, hv.dnm, hv.ext⟩, hv.I, hv.o⟩
  cases e with
  | normal => obtain ⟨s1, hw, xs, h1, h2, h3⟩ := hq; exact Or.inl (fin s1 hw xs h1 h2 h3)
  | ret => obtain ⟨s1, hw, xs, h1, h2, h3⟩ := hq; exact Or.inl (fin s1 hw xs h1 h2 h3)
  | _ => exact hq.elim
theorem Inv.put {E : En} (h : Inv E g ⟨tm, s.bl, s.ow⟩ a x) {t0 : Nat} {y : Value} (ht : look tm t0 = .top) : Inv E g ⟨tm, s.bl, s.ow⟩ (a.put (some t0) y) x := by
  refine ⟨h.mem, fun t => ?_, h.de, by simp [Act.put, h.sz]⟩
  by_cases e : t = t0
  · subst e
    rw [ht]; simp [rep]
  · have e3 : (a.put (some t0) y).tmps.getD t undef = a.tmps.getD t undef := by
      simp [Act.put, Array.getD_eq_getD_getElem?, Ne.symm e]
    rw [e3]
    exact h.tm t
end
end Go.Eng
