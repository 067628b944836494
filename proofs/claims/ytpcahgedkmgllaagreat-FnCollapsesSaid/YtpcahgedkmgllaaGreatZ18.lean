/- My walking engine, part 18: abstract values of Go, and the rules of a walk over them. No program in sight. -/
import Derived.Test.YtpcahgedkmgllaaGreatZ4
namespace Go.Eng
open Go
theorem W_drawQ {E : En} {id : Nat} {l : List Oper} {s : St} (n : Nat) (hm : E.P.follows .mixedOrders = true) (hB : headB l.toArray n = true) (hT : tailB l.toArray n = true) {K : St → Prop}
    (h : HW E l.toArray s.bl (l.take n) s K) (L : Lg E.P) {Q' : Exit → Act → CW → Prop} (hK0 : ∀ s' g a x, K s' → Inv E g s' a x → wpListV L l.toArray Q' (l.drop n) a x) {g0 : Gh} {a0 : Act} {w00 : CW} (hi0 : Inv E g0 s a0 w00) : (Code.region id l.toArray true).wpV L Q' a0 w00 := by
  obtain ⟨T, hTl, hK, hstep⟩ := HW_trace _ _ h
  obtain ⟨hn, hback, hord⟩ := headB_spec hB
  have hn' : n ≤ l.length := by simpa using hn
  have hTn : T.length = n := by rw [hTl]; simp; omega
  simp only [tailB, Bool.and_eq_true] at hT
  obtain ⟨hT1, hT2⟩ := hT
  have hopt : ∀ i, i < n → ∃ o t, l.toArray[i]? = some o ∧ (l.take n)[i]? = some o ∧ T[i]? = some t := fun i hi => by
    have h1 : i < l.length := by omega
    refine ⟨l[i], T[i]'(by omega), by simp [h1], by simp [hi, h1], by simp [hTn, hi]⟩
  have inS : ∀ (i : Nat) (t : Tr), T[i]? = some t → ∀ (j : Nat) (t' : Tr), j < i → T[j]? = some t' → ∀ q ∈ t'.nb, q ∈ (stS (fun j => decide (j < i)) T 0 s).bl := fun i t _ j t' hj ht' q hq => (mem_bl_stS T 0 s).2 (.inr ⟨j, t', ht', by simpa using hj, hq⟩)
  have inS0 : ∀ (i : Nat) q, q ∈ s.bl → q ∈ (stS (fun j => decide (j < i)) T 0 s).bl := fun i q hq => (mem_bl_stS T 0 s).2 (.inl hq)
  have inO : ∀ (i : Nat) (t : Tr), T[i]? = some t → ∀ (j : Nat) (t' : Tr), j < i → T[j]? = some t' → ∀ k ∈ t'.no, k ∈ (stS (fun j => decide (j < i)) T 0 s).ow := fun i t _ j t' hj ht' k hk => (mem_ow_stS T 0 s).2 (.inr ⟨j, t', ht', by simpa using hj, hk⟩)
  let Lf : Array Bool → Nat → Bool := fun listed i => listed.getD i false
  have tailNot : ∀ listed, HeadInv .any l.toArray n listed → 0 < cnt n (Lf listed) → ∀ i ∈ Region.ready .any l.toArray listed, i < n := by
    intro listed inv hc i hi
    rcases Nat.lt_or_ge i n with h1 | h1
    · exact h1
    · exfalso
      have hlt : i < l.toArray.size := by
        obtain ⟨_, o, ho, _⟩ := mem_ready.1 hi
        exact (Array.getElem?_eq_some_iff.1 ho).1
      have hns : n < l.toArray.size := by omega
      have hb : Nat.blt n l.toArray.size = true := Nat.ble_eq_true_of_le hns
      rw [hb] at hT1
      simp only [cond_true, Bool.and_eq_true] at hT1
      obtain ⟨k, hk1, hk2, _⟩ := cnt_pos hc
      have hk3 : listed.getD k true = false := getD_in (by rw [inv.size]; omega) hk2
      exact tail_waits hT1.1 hT1.2 hns inv _ k rfl hk1 hk3 i h1 hi
  have progress : ∀ listed, HeadInv .any l.toArray n listed → 0 < cnt n (Lf listed) → Region.ready .any l.toArray listed ≠ [] := by
    intro listed inv hc he
    obtain ⟨k, hk1, hk2, hk3⟩ := cnt_pos hc
    have : k ∈ Region.ready .any l.toArray listed := by
      obtain ⟨o, t, h1, _, _⟩ := hopt k hk1
      exact mem_ready.2 ⟨getD_in (by rw [inv.size]; omega) hk2, o, h1, fun e he hb => hk3 _ (hback k o hk1 h1 e he hb)⟩
    rw [he] at this
    cases this
  have main : ∀ (f : Nat) (listed : Array Bool) (g : Gh) (a : Act) (w : CW), cnt n (Lf listed) = f → HeadInv .any l.toArray n listed → Inv E g (stS (Lf listed) T 0 s) a w → wpAnyV L .any l.toArray Q' (f + (l.toArray.size - n)) listed a w := by
    intro f
    induction f with
    | zero =>
      intro listed g a w hc inv hinv
      have hall := cnt_zero hc
      have hst : stS (Lf listed) T 0 s = stS (fun _ => true) T 0 s := by
        have : ∀ (T : List Tr) (i : Nat) (s : St), (∀ j, j < T.length → Lf listed (i + j) = true) → stS (Lf listed) T i s = stS (fun _ => true) T i s := by
          intro T
          induction T with
          | nil => intro i s _; rfl
          | cons t T ih =>
            intro i s hL
            simp only [stS]
            rw [show Lf listed i = true by simpa using hL 0 (by simp)]
            exact ih (i + 1) _ fun j hj => by have := hL (j + 1) (by simp; omega); rwa [show i + (j + 1) = i + 1 + j by omega] at this
        exact this T 0 s fun j hj => by rw [Nat.zero_add]; exact hall j (by omega)
      rw [hst] at hinv
      have hli : listed = ((List.range l.toArray.size).map fun i => Nat.blt i n).toArray := by
        apply Array.ext
        · simp [inv.size]
        · intro i h1 h2
          have h3 : i < l.toArray.size := by rw [← inv.size]; exact h1
          simp only [List.getElem_toArray, List.getElem_map, List.getElem_range]
          rcases Nat.lt_or_ge i n with h4 | h4
          · have h5 := hall i h4
            simp only [Lf, Array.getD_eq_getD_getElem?, Array.getElem?_eq_getElem h1, Option.getD_some] at h5
            rw [h5]
            exact (Nat.ble_eq_true_of_le h4).symm
          · have h5 := inv.tail i h4 h3
            simp only [Array.getD_eq_getD_getElem?, Array.getElem?_eq_getElem h1, Option.getD_some] at h5
            rw [h5]
            cases h6 : Nat.blt i n
            · rfl
            · have := Nat.le_of_ble_eq_true h6; omega
      have hdl : (l.drop n).length = l.toArray.size - n := by simp
      have := wpAnyV_of_seq (L := L) (md := .any) (Q' := Q') (l.drop n) n listed a w (fun j => by simp [List.getElem?_drop]) (by rw [hdl, hli]; exact hT2) (hK0 _ g a w hK hinv)
      rw [hdl] at this
      rw [Nat.zero_add]; exact this
    | succ f ih =>
      intro listed g a w hc inv hinv
      rw [show f + 1 + (l.toArray.size - n) = (f + (l.toArray.size - n)) + 1 by omega]
      have hpos : 0 < cnt n (Lf listed) := by omega
      refine ⟨fun he => absurd he (progress listed inv hpos), fun i hi => ?_⟩
      have hin := tailNot listed inv hpos i hi
      obtain ⟨o, t, ho, ho', ht⟩ := hopt i hin
      obtain ⟨hun, o2, ho2, hdeps⟩ := mem_ready.1 hi
      have : o2 = o := Option.some.inj (ho2.symm.trans ho)
      subst this
      have hLi : Lf listed i = false := getD_both hun
      obtain ⟨⟨hd, hdst, hrun⟩, hnew⟩ := hstep i o2 t ho' ht
      have closed : ∀ k ok, l.toArray[k]? = some ok → Lf listed k = true → ∀ e ∈ ok.after, Region.binds .any e = true → Lf listed e.on = true := fun k ok hk hl e he hb => inv.closed k ok hk hl e he hb
      have depI : ∀ j ∈ (depTab l.toArray n).getD i [], Lf listed j = true := depTab_closed closed n i fun o' ho' e he hb => by
        have : o' = o2 := Option.some.inj (ho'.symm.trans ho)
        subst this
        exact hdeps e he hb
      have depJ : ∀ j, i ∈ (depTab l.toArray n).getD j [] → Lf listed j = false := fun j hj => by
        cases hLj : Lf listed j
        · rfl
        · have := depTab_closed closed n j (fun o' ho' => closed j o' ho' hLj) i hj
          rw [hLi] at this; cases this
      have hTd : ∀ j tr, T[j]? = some tr → j < n ∧ ∃ oj, l.toArray[j]? = some oj ∧ tr.d = oj.dst := fun j tr hj => by
        have hjn : j < n := by rw [← hTn]; exact (List.getElem?_eq_some_iff.1 hj).1
        obtain ⟨oj, t', h1, h2, h3⟩ := hopt j hjn
        exact ⟨hjn, oj, h1, (hstep j oj tr h2 hj).1.d⟩
      have sameLook : ∀ u, u ∈ o2.looksAt l.toArray → look (stS (Lf listed) T 0 s).tm u = look (stS (fun j => decide (j < i)) T 0 s).tm u := fun u hu =>
        look_stS T 0 s s rfl fun j tr hj hdu => by
          rw [Nat.zero_add]
          obtain ⟨hjn, oj, hoj, hjd⟩ := hTd j tr hj
          rcases Nat.lt_trichotomy j i with h1 | h1 | h1
          · rw [decide_eq_true h1]
            exact depI j ((hord i o2 j oj u hin hjn (by omega) ho hoj (hjd ▸ hdu) (.inl hu)).1 h1)
          · subst h1; rw [hLi]; simp
          · rw [decide_eq_false (by omega)]
            exact depJ j ((hord i o2 j oj u hin hjn (by omega) ho hoj (hjd ▸ hdu) (.inl hu)).2 h1)
      have hLset : ∀ j, Lf (listed.setIfInBounds i true) j = (decide (j = i) || Lf listed j) := fun j => by
        by_cases e : j = i
        · subst e
          have hlt : j < listed.size := by rw [inv.size]; exact (Array.getElem?_eq_some_iff.1 ho).1
          simp [Lf, hlt]
        · simp only [e, decide_false, Bool.false_or, Lf]
          exact getD_set_ne false (Ne.symm e)
      have hcnt : cnt n (Lf (listed.setIfInBounds i true)) = f := by
        have := cnt_set (L := Lf listed) (L' := Lf (listed.setIfInBounds i true)) (i := i) hLi (by rw [hLset]; simp) (fun j hj => by rw [hLset]; simp [hj]) n
        rw [if_pos hin] at this
        omega
      -- what holds behind the step
      have next : ∀ (g' : Gh) (a' : Act) (w' : CW), Inv E g' ((stS (Lf listed) T 0 s).app t.d t.v t.nb t.no) a' w' → wpAnyV L .any l.toArray Q' (f + (l.toArray.size - n)) (listed.setIfInBounds i true) a' w' := by
        intro g' a' w' hinv'
        refine ih _ g' a' w' hcnt (inv.set hi hin) ⟨⟨hinv'.mem.mem.same (fun p => ?_) (fun k hk => ?_), hinv'.mem.vis⟩, fun u => ?_, hinv'.de, hinv'.sz⟩
        · simp only [St.app, List.mem_append, mem_bl_stS, hLset, Nat.zero_add]
          constructor
          · rintro (hp | hp | ⟨j, tr, h1, h2, h3⟩)
            · exact .inr ⟨i, t, ht, by simp, hp⟩
            · exact .inl hp
            · exact .inr ⟨j, tr, h1, by simp [h2], h3⟩
          · rintro (hp | ⟨j, tr, h1, h2, h3⟩)
            · exact .inr (.inl hp)
            · by_cases e : j = i
              · subst e
                rw [ht] at h1; cases h1; exact .inl h3
              · exact .inr (.inr ⟨j, tr, h1, by simpa [e] using h2, h3⟩)
        · simp only [St.app, List.mem_append, mem_ow_stS, hLset, Nat.zero_add] at hk ⊢
          rcases hk with hp | hp | ⟨j, tr, h1, h2, h3⟩
          · exact .inr ⟨i, t, ht, by simp, hp⟩
          · exact .inl hp
          · exact .inr ⟨j, tr, h1, by simp [h2], h3⟩
        · have hu := hinv'.tm u
          have heq : look (stS (Lf (listed.setIfInBounds i true)) T 0 s).tm u = look ((stS (Lf listed) T 0 s).app t.d t.v t.nb t.no).tm u := by
            by_cases hdu : t.d = some u
            · have h1 : look ((stS (Lf listed) T 0 s).app t.d t.v t.nb t.no).tm u = t.v := by simp [St.app, hdu, look]
              rw [h1]
              refine look_last T 0 i s t ht hdu rfl (by rw [Nat.zero_add, hLset]; simp) fun j tr hj hij hdj => ?_
              rw [Nat.zero_add, hLset]
              obtain ⟨hjn, oj, hoj, hjd⟩ := hTd j tr hj
              have := depJ j ((hord i o2 j oj u hin hjn (by omega) ho hoj (hjd ▸ hdj) (.inr (hd ▸ hdu))).2 hij)
              rw [this]
              simp; omega
            · have h1 : look ((stS (Lf listed) T 0 s).app t.d t.v t.nb t.no).tm u = look (stS (Lf listed) T 0 s).tm u := by
                simp only [St.app]
                cases hdd : t.d with
                | none => rfl
                | some k =>
                  have : k ≠ u := fun e => hdu (by rw [hdd, e])
                  simp only [look]
                  cases hb : Nat.beq k u
                  · rfl
                  · exact absurd (Nat.eq_of_beq_eq_true hb) this
              rw [h1]
              refine look_stS T 0 s s rfl fun j tr hj hdj => ?_
              rw [Nat.zero_add, hLset]
              have : j ≠ i := fun e => by subst e; rw [ht] at hj; cases hj; exact hdu hdj
              simp [this]
          rw [heq]; exact hu
      have hdst' : ∀ k, t.d = some k → k < E.nt := fun k hk => dstB_spec hdst k (hd ▸ hk)
      unfold wpOpV
      simp only [ho]
      have hguard : ∀ {j d b}, o2.guard = some (j, b) → (l.toArray[j]?).bind (·.dst) = some d → ∀ c, look (stS (fun j => decide (j < i)) T 0 s).tm d = .v (.bool c) → yielded l.toArray a.tmps j = some c := fun {j d b} hg hj c hc' => by
        have h1 := hinv.tm d
        rw [sameLook d (looksAt_guard hg hj), hc'] at h1
        simp only [rep] at h1
        exact yielded_of hj h1
      have oth : ∀ j tr, T[j]? = some tr → Lf listed j = true → j ≠ i := fun j tr _ hL e => by subst e; rw [hLi] at hL; cases hL
      have operandsOk : ∀ x ∈ o2.op.operands, rep g w.w (ev (stS (fun j => decide (j < i)) T 0 s).tm x) (a.eval x) := fun x hx => by
        have := rep_ev hinv.tm x
        rwa [ev_same (tm' := (stS (fun j => decide (j < i)) T 0 s).tm) fun u hu => by subst hu; exact sameLook u (looksAt_op hx)] at this
      rcases hrun with ⟨hq, ⟨hf, hnm⟩, hg⟩ | ⟨hv, hnb, hno, j, dd, b, hg, hj, hb⟩ | ⟨n0, cs0, hqi, hv, hnb, hno⟩ | ⟨hv, hnb, hno, j, dd, b, hg, hj, hb⟩
      · have hw : Region.wanted o2 (yielded l.toArray a.tmps) = true := by
          rcases hg with hg | ⟨j, dd, b, hg, hj, hb⟩
          · simp [Region.wanted, hg]
          · simp [Region.wanted, hg, hguard hg hj b hb]
        rw [hw]
        rw [if_pos rfl]
        have hfresh : (∀ p ∈ t.nb, ∀ q ∈ (stS (Lf listed) T 0 s).bl, p.1 ≠ q.1) ∧ ∀ k ∈ t.no, k ∉ (stS (Lf listed) T 0 s).ow := by
          obtain ⟨f1, f2⟩ := freshB_spec hf
          · refine ⟨fun p hp q hq' => ?_, fun k hk hk' => ?_⟩
            · rcases (mem_bl_stS T 0 s).1 hq' with hq' | ⟨j, tr, h1, h2, h3⟩
              · exact f1 p hp q (inS0 i q hq')
              · rw [Nat.zero_add] at h2
                rcases Nat.lt_trichotomy j i with h4 | h4 | h4
                · exact f1 p hp q (inS i t ht j tr h4 h1 q h3)
                · exact absurd h4 (oth j tr h1 h2)
                · obtain ⟨hjn, oj, hoj, hjd⟩ := hTd j tr h1
                  obtain ⟨oj', t', k1, k2, k3⟩ := hopt j hjn
                  have : oj' = oj := Option.some.inj (k1.symm.trans hoj)
                  subst this
                  rcases (hstep j oj' tr k2 h1).2 with ⟨hf', _⟩ | ⟨n2, cs2, e3, _, _, hop2, _⟩
                  · exact fun e => (freshB_spec hf').1 q h3 p (inS j tr h1 i t h4 ht p hp) e.symm
                  · intro e
                    rw [e3] at h3
                    simp only [List.mem_singleton] at h3
                    have e5 : o2.dst = some n2 := by rw [hnm p hp, e, h3]
                    have := depJ j ((hord j oj' i o2 n2 hjn hin (by omega) hoj ho e5 (.inl (looksAt_op hop2))).1 h4)
                    rw [h2] at this; cases this
            · rcases (mem_ow_stS T 0 s).1 hk' with hk' | ⟨j, tr, h1, h2, h3⟩
              · exact f2 k hk ((mem_ow_stS T 0 s).2 (.inl hk'))
              · rw [Nat.zero_add] at h2
                rcases Nat.lt_trichotomy j i with h4 | h4 | h4
                · exact f2 k hk (inO i t ht j tr h4 h1 k h3)
                · exact absurd h4 (oth j tr h1 h2)
                · obtain ⟨hjn, oj, hoj, hjd⟩ := hTd j tr h1
                  obtain ⟨oj', t', k1, k2, k3⟩ := hopt j hjn
                  rcases (hstep j oj' tr k2 h1).2 with ⟨hf', _⟩ | ⟨n2, cs2, e3, e4, _, hop2, _⟩
                  · exact (freshB_spec hf').2 k h3 (inO j tr h1 i t h4 ht k hk)
                  · rw [e4] at h3; simp at h3
        refine (hq L g a.eval (stS (Lf listed) T 0 s).bl (stS (Lf listed) T 0 s).ow w hinv.mem (fun p hp => (mem_bl_stS T 0 s).2 (.inl hp)) hfresh.1 hfresh.2 operandsOk).mono fun y w' hKy => ?_
        obtain ⟨g', h1, h2, h3⟩ := hKy
        have := hinv.app (d := t.d) hdst' h1 h2 h3
        rw [hd] at this
        exact next g' _ w' (by rw [hd]; exact this)
      · have hw : Region.wanted o2 (yielded l.toArray a.tmps) = false := by
          simp [Region.wanted, hg, hguard hg hj b hb]
        rw [hw]
        have := hinv.app (d := t.d) (v := t.v) (y := undef) (nb := t.nb) (no := t.no) hdst' (Goes.refl g _) (by rw [hnb, hno]; exact hinv.mem) (by rw [hv]; simp [rep])
        rw [hd] at this
        exact next g _ w (by rw [hd]; exact this)
      · have hw : Region.wanted o2 (yielded l.toArray a.tmps) = true := by simp [Region.wanted, hqi.2.1]
        rw [hw]
        rw [if_pos rfl]
        have hin0 : initB n0 cs0.length (stS (fun j => decide (j < i)) T 0 s).bl = true := by
          rcases hnew with ⟨hf, hnm⟩ | ⟨n1, cs1, e1, _, _, _, hin1⟩
          · have := hnm (n0, cs0) (by rw [hnb]; simp)
            rw [hqi.1] at this; cases this
          · rw [hnb] at e1
            simp only [List.cons.injEq, Prod.mk.injEq, and_true] at e1
            obtain ⟨rfl, rfl⟩ := e1
            exact hin1
        obtain ⟨⟨c0, hc0⟩, hall0⟩ := initB_spec hin0
        have hopt0 : n0 ∈ o2.looksAt l.toArray := looksAt_op hqi.2.2.1
        have hnt : ∀ c : List AV, c.all (fun x => !isTop x) = true → c ≠ [] → c.all isTop = true → False := by
          intro c h1 h2 h3
          cases c with
          | nil => exact h2 rfl
          | cons x c =>
            simp only [List.all_cons, Bool.and_eq_true, Bool.not_eq_true'] at h1 h3
            rw [h3.1] at h1; cases h1.1
        refine (hqi.2.2.2.2 L g a.eval (stS (Lf listed) T 0 s).bl (stS (Lf listed) T 0 s).ow w hinv.mem ⟨c0, ?_⟩ (fun c hc => ?_) operandsOk).mono fun y w' hKy => ?_
        · rcases (mem_bl_stS T 0 s).1 hc0 with h1 | ⟨j, tr, h1, h2, h3⟩
          · exact (mem_bl_stS T 0 s).2 (.inl h1)
          · rw [Nat.zero_add] at h2
            have hji : j < i := of_decide_eq_true h2
            refine (mem_bl_stS T 0 s).2 (.inr ⟨j, tr, h1, ?_, h3⟩)
            rw [Nat.zero_add]
            obtain ⟨hjn, oj, hoj, hjd⟩ := hTd j tr h1
            obtain ⟨oj', t', k1, k2, k3⟩ := hopt j hjn
            have : oj' = oj := Option.some.inj (k1.symm.trans hoj)
            subst this
            rcases (hstep j oj' tr k2 h1).2 with ⟨_, hnm'⟩ | ⟨n2, cs2, e3, _, hnt2, _, _⟩
            · exact depI j ((hord i o2 j oj' n0 hin hjn (by omega) ho hoj (hnm' _ h3) (.inl hopt0)).1 hji)
            · rw [e3] at h3
              simp only [List.mem_singleton, Prod.mk.injEq] at h3
              obtain ⟨rfl, rfl⟩ := h3
              exact (hnt _ hnt2.1 hnt2.2 (hall0 _ hc0).2).elim
        · rcases (mem_bl_stS T 0 s).1 hc with h1 | ⟨j, tr, h1, h2, h3⟩
          · exact hall0 c (inS0 i _ h1)
          · rw [Nat.zero_add] at h2
            rcases Nat.lt_trichotomy j i with h4 | h4 | h4
            · exact hall0 c (inS i t ht j tr h4 h1 _ h3)
            · exact absurd h4 (oth j tr h1 h2)
            · obtain ⟨hjn, oj, hoj, hjd⟩ := hTd j tr h1
              obtain ⟨oj', t', k1, k2, k3⟩ := hopt j hjn
              rcases (hstep j oj' tr k2 h1).2 with ⟨hf', _⟩ | ⟨n2, cs2, e3, _, _, _, hin2⟩
              · exact absurd rfl ((freshB_spec hf').1 _ h3 (n0, cs0) (inS j tr h1 i t h4 ht _ (by rw [hnb]; simp)))
              · rw [e3] at h3
                simp only [List.mem_singleton, Prod.mk.injEq] at h3
                obtain ⟨rfl, rfl⟩ := h3
                have := (initB_spec hin2).2 cs0 (inS j tr h1 i t h4 ht _ (by rw [hnb]; simp))
                exact (hnt _ hqi.2.2.2.1.1 hqi.2.2.2.1.2 this.2).elim
        · obtain ⟨hy, g', h1, h2⟩ := hKy
          have := hinv.app (d := t.d) (v := t.v) (y := y) (nb := t.nb) (no := t.no) hdst' h1 (by rw [hnb, hno]; exact h2) (by
            have hdn : t.d = none := hd.trans hqi.1
            rw [hv, hy]; simp [rep])
          rw [hd] at this
          exact next g' _ w' (by rw [hd]; exact this)
      · have hw : Region.wanted o2 (yielded l.toArray a.tmps) = false := by
          have h1 := hinv.tm dd
          rw [sameLook dd (looksAt_guard hg hj), hb] at h1
          simp only [rep] at h1
          simp [Region.wanted, hg, yielded_un hj h1]
        rw [hw]
        have := hinv.app (d := t.d) (v := t.v) (y := undef) (nb := t.nb) (no := t.no) hdst' (Goes.refl g _) (by rw [hnb, hno]; exact hinv.mem) (by rw [hv]; simp [rep])
        rw [hd] at this
        exact next g _ w (by rw [hd]; exact this)
  refine wpV_region_any hm fun w₁ rw₁ => ?_
  have inv0 : HeadInv .any l.toArray n (Array.replicate l.toArray.size false) :=
    ⟨by simp, fun j oj _ hl => (by rw [getD_replicate_false] at hl; cases hl), fun t _ ht => getD_in (by simpa using ht) (getD_replicate_false _ _)⟩
  have hL0 : Lf (Array.replicate l.toArray.size false) = fun _ => false := by funext i; exact getD_replicate_false _ _
  have := main n (Array.replicate l.toArray.size false) g0 a0 ⟨w00.V, { w₁ with drawn := w₁.drawn + 1 }⟩ (by rw [hL0]; exact cnt_false n) inv0 ?_
  · rwa [show n + (l.toArray.size - n) = l.toArray.size by omega] at this
  · rw [hL0]
    have zero : ∀ (T : List Tr) (i : Nat) (s : St), stS (fun _ => false) T i s = s := by
      intro T
      induction T with
      | nil => intro i s; rfl
      | cons t T ih => intro i s; simp only [stS, cond_false]; exact ih _ s
    rw [zero]
    exact (hi0.rely rw₁).drew
open Go.Conc Go.ConcN in
section
variable {P : Program}
theorem Inv_enter {I : Nat → Nat → Prop} {x : CW} {vals : Array Value} {args : List AV} {nt : Nat} (df : List Deferred) (hI : SeesI I x) (hx : Rigged x) (hargs' : reps (g0 I) x.w args vals.toList) (hn : args.length ≤ nt) :
    Inv ⟨P, x.w.heap.size, x.w, nt, fun b => ¬ x.V.vis b, [], I, fun _ _ _ => False, x.V, df⟩ (g0 I) ⟨(args.zipIdx 0).map fun p => (p.2, p.1), [], []⟩ { tmps := vals ++ Array.replicate (nt - vals.size) undef, defers := df } x := by
  have hlen := reps_length hargs'
  refine ⟨⟨⟨BelowM.refl _ _ _, Nat.le_refl _, fun b o h => (hI b o h).1, fun n b h => by simp [g0] at h, fun n b h => by simp [g0] at h, fun n n' b h => by simp [g0] at h, fun n n' b h => by simp [g0] at h, fun n n' b h => by simp [g0] at h,
    fun n cs h => by simp at h, fun n b h => by simp [g0] at h, fun n h => h.elim, fun b o h => .inl h, fun b o h => h, fun n b T h => h.elim⟩,
    ⟨fun b o h => (hI b o h).2, fun n b h => by simp [g0] at h, fun n b h => by simp [g0] at h, hx.sub, hx.lt, fun _ h => h, fun _ h => h, fun _ h => .inl h, fun _ h => .inl h, fun b h => Classical.not_not.1 h, rfl⟩⟩, fun t => ?_, rfl, ?_⟩
  · simp only [look_zip, Nat.zero_le, if_true, Nat.sub_zero]
    rcases Nat.lt_or_ge t args.length with h1 | h1
    · obtain ⟨y, hy, hr⟩ := reps_get hargs' (List.getElem?_eq_getElem h1)
      have : t < vals.size := by simpa [← hlen] using h1
      have hy' : vals[t] = y := by simpa [this] using hy
      simp only [List.getD_eq_getElem?_getD, List.getElem?_eq_getElem h1, Option.getD_some]
      simp only [Array.getD_eq_getD_getElem?, Array.getElem?_append_left this, Array.getElem?_eq_getElem this, Option.getD_some, hy']
      exact hr
    · simp only [List.getD_eq_getElem?_getD, List.getElem?_eq_none h1, Option.getD_none, rep]
  · have : vals.size = args.length := by simpa using hlen
    show (vals ++ Array.replicate (nt - vals.size) undef).size = nt
    simp; omega
theorem hand_store {L : Lg P} {d : CDat} {i : Nat} {V : Rig} {w : World} {ρ : Operand → Value} {t : Nat} {ag : Bool} {xo yo : Operand} {ty : TypeId} {pos : String} {af : Array Edge} {K : Value → CW → Prop} [ht : TyOk P t ag 1]
    (hV : V.ext = .hand d i) (hCW : d.C ≠ d.Wg) (hi : i < d.n) (hCv : ¬ V.vis d.C) (hx : ρ xo = .pointer (some ⟨d.C, i, none⟩)) (hc : (ρ yo).cells = #[ρ yo]) (h1 : (ρ yo).oneCell' = true)
    (hK : ∀ w₁ w', Rely V w w₁ → RelyB V.vis w₁ w' → Has d.C i (ρ yo) w' → WgLive d.ty d.Wg w' → K undef ⟨V, w'⟩) : OpV L ⟨none, .store t xo yo, ty, pos, af, none⟩ ρ ⟨V, w⟩ K := by
  letI := d.pay
  intro w₁ r
  have hl := r.live
  rw [hV] at hl
  obtain ⟨⟨cs, hp1, hp2⟩, hlw⟩ := hl
  have hic : i < cs.size := by omega
  have hcell : w₁.cell? ⟨d.C, i, none⟩ = some cs[i] := by simp [World.cell?, hp1, hic]
  have hfro : w₁.frozen? ⟨d.C, i, none⟩ = false := by simp [World.frozen?, hp1]
  have hst : (store ((⟨d.C, i, none⟩ : Addr).add 0) (ρ yo)).run P w₁ = .ok () (w₁.setRow d.C (cs.setIfInBounds i (ρ yo))) := by
    rw [addr_add, run_store P w₁ _ _ _ h1, Nat.add_zero, hcell]
    simp [hfro, setCell_eq_setRow w₁ d.C i cs _ (0, 0) (ρ yo) hp1]
  have hev : (store ((⟨d.C, i, none⟩ : Addr).add 0) (ρ yo)).events P w₁ #[] = #[⟨.cell ⟨d.C, i, none⟩, true, false⟩] := by
    rw [addr_add, events_store P w₁ #[] _ _ _ h1, Nat.add_zero, hcell]
    simp only [hfro, Bool.false_eq_true, if_false]
    rfl
  have hsz1 : ¬ ((ρ yo).cells.size ≠ 1) := by rw [hc]; simp
  have hrun : (execOp ρ ⟨none, .store t xo yo, ty, pos, af, none⟩).run P w₁ = .ok .skip (w₁.setRow d.C (cs.setIfInBounds i (ρ yo))) := by
    simp only [execOp, hx, Instr.storeAt, Instr.sureAddr, storeVar, Sem.run_bind, Sem.run_pure, Result.andThen_ok, ht.sz, if_neg hsz1]
    rw [hc]
    simp only [storeCells, Sem.run_bind, hst, Result.andThen_ok, Sem.run_pure]
  have hevs : (execOp ρ ⟨none, .store t xo yo, ty, pos, af, none⟩).events P w₁ #[] = #[⟨.cell ⟨d.C, i, none⟩, true, false⟩] := by
    simp only [execOp, hx, Instr.storeAt, Instr.sureAddr, storeVar, Sem.events_bind, Sem.run_bind, Sem.run_pure, Sem.events_pure, Result.evThen_ok, Result.andThen_ok, ht.sz, events_sizeOf, if_neg hsz1]
    rw [hc]
    simp only [storeCells, Sem.events_bind, hst, Result.evThen_ok, hev, Sem.events_pure, Sem.run_bind, Result.andThen_ok, Sem.run_pure]
  rw [hrun, hevs]
  have size : (w₁.setRow d.C (cs.setIfInBounds i (ρ yo))).heap.size = w₁.heap.size := by simp [World.setRow]
  have hheap := setRow_heap w₁ d.C cs (cs.setIfInBounds i (ρ yo)) _ (0, 0) hp1
  have hoth : ∀ b, b ≠ d.C → (w₁.setRow d.C (cs.setIfInBounds i (ρ yo))).heap[b]? = w₁.heap[b]? := fun b hb => setRow_other w₁ d.C b _ hb
  refine ⟨.inr ?_, ?_⟩
  · rw [hV]
    refine ⟨⟨rfl, rfl, rfl, size, fun b hb => hoth b hb, fun _ => ⟨_, hheap, by simpa using hp2⟩, fun i' hne => ?_⟩, fun e he => .inl (by simpa using he)⟩
    simp only [World.cell?, hheap, hp1]
    simp [Array.getElem?_setIfInBounds_ne (Ne.symm hne)]
  · rw [size, Rig.grow_self]
    refine hK w₁ _ r ⟨rfl, rfl, rfl, by rw [size]; exact Nat.le_refl _, fun b hb => hoth b fun e => hCv (e ▸ hb)⟩ ?_ ?_
    · simp only [Has, World.cell?, hheap]
      simp [hic]
    · obtain ⟨st, sm, hw⟩ := hlw
      exact ⟨st, sm, hw.of_block (hoth _ (Ne.symm hCW))⟩
end

theorem wdrawQ {E : En} {id : Nat} {l hd tl : List Oper} {tm : List (Nat × AV)} {bl : List (Nat × List AV)} {ow : List Nat} (n : Nat) (hm : E.P.follows .mixedOrders = true) (hB : headB l.toArray n = true) (hT : tailB l.toArray n = true) (hs : splitO n l = some (hd, tl)) {K : St → Prop} (L : Lg E.P) {Q' : Exit → Act → CW → Prop} {g0 : Gh} {a0 : Act} {x0 : CW}
    (h : HW E l.toArray bl hd ⟨tm, bl, ow⟩ K) (hi0 : Inv E g0 ⟨tm, bl, ow⟩ a0 x0) (hK0 : ∀ s' g a x, K s' → Inv E g s' a x → wpListV L l.toArray Q' tl a x) : (Code.region id l.toArray true).wpV L Q' a0 x0 := by
  obtain ⟨h1, h2⟩ := splitO_eq hs
  subst h1; subst h2
  exact W_drawQ n hm hB hT h L hK0 hi0

section
variable {P : Program}
theorem wpListV_cons {L : Lg P} {ops : Array Oper} {Q : Exit → Act → CW → Prop} {o : Oper} {rest : List Oper} {a : Act} {x : CW} (hg : o.guard = none) (h : OpV L o a.eval x fun y x' => wpListV L ops Q rest (a.put o.dst y) x') : wpListV L ops Q (o :: rest) a x := by
  unfold wpListV
  rw [if_pos (by simp [Region.wanted, hg])]
  exact h
theorem hand_index {L : Lg P} {C i n c : Nat} {V : Rig} {w : World} {ρ : Operand → Value} {t T by_ : Nat} {xo io : Operand} {dst : Option Tmp} {ty : TypeId} {pos : String} {af : Array Edge} {gd : Option (Nat × Bool)} {K : Value → CW → Prop} [hs : SlOk P t T 1 by_]
    (h3 : ρ xo = .slice (some ⟨C, 0, none⟩) n c) (h2 : ρ io = .int .i64 (i : Int)) (hlt : i < n) (hK : ∀ w₁, Rely V w w₁ → K (.pointer (some ⟨C, i, none⟩)) ⟨V, w₁⟩) : OpV L ⟨dst, .indexAddr t xo io, ty, pos, af, gd⟩ ρ ⟨V, w⟩ K := by
  intro w₁ r
  obtain ⟨in0, z, hi1, hi2, hi3, hi4, hi5⟩ := hs.info
  have hsz : (sizeOf T).run P w₁ = .ok 1 w₁ := by simp [sizeOf, typeInfo, hi1, hi3]
  have hrun : (execOp ρ ⟨dst, .indexAddr t xo io, ty, pos, af, gd⟩).run P w₁ = .ok (.value (.pointer (some ⟨C, i, none⟩))) w₁ := by
    simp [execOp, h2, h3, Instr.indexAt, asIntOf, run_underlying hs.und, hsz, addr_add, hlt]
  have hev : (execOp ρ ⟨dst, .indexAddr t xo io, ty, pos, af, gd⟩).events P w₁ #[] = #[] := by
    simp [execOp, h2, h3, Instr.indexAt, asIntOf, run_underlying hs.und, hlt]
  rw [hrun, hev]
  exact ⟨Guar.idle _ _, by rw [Rig.grow_self]; exact hK w₁ r⟩
end

open Go.Conc in
theorem wpV_use {P : Program} {L : Lg P} {c : Code} {Q : Exit → Act → CW → Prop} {a : Act} {V : Rig} {w : World} {b : Frame} {k : List Item} {cs : List Frame} (hb : b.kind ≠ .early) (h : c.wpV L Q a ⟨V, w⟩) (hc : ∀ e a' x', Q e a' x' → AfterV L b k cs e a' x') (hf : b.roundOf = none := by rfl) : L.ok V (G (b.at a (.code c :: k)) cs) w := by
  rw [← Frame.atR_of_none hf]; exact h b k cs hb (.inl hf) hc

theorem use_W {E : En} {c : Code} {Q' : Exit → Act → CW → Prop} {s s1 : St} {g : Gh} {a : Act} {x : CW} {L : Lg E.P} (h : W E c (fun e s' => e = .normal ∧ s' = s1) s) (hi : Inv E g s a x) (hk : ∀ g' a' x', Inv E g' s1 a' x' → Q' .normal a' x') : c.wpV L Q' a x :=
  wpV_mono (h L g a x hi) fun e a' x' ⟨g', s', ⟨h1, h2⟩, h3⟩ => by subst h1; subst h2; exact hk g' a' x' h3
theorem use_W' {E : En} {c : Code} {Q' : Exit → Act → CW → Prop} {s : St} (K : St → Prop) {g : Gh} {a : Act} {x : CW} {L : Lg E.P} (h : W E c (fun e s' => e = .normal ∧ K s') s) (hi : Inv E g s a x) (hk : ∀ s' g' a' x', K s' → Inv E g' s' a' x' → Q' .normal a' x') : c.wpV L Q' a x :=
  wpV_mono (h L g a x hi) fun e a' x' ⟨g', s', ⟨h1, h2⟩, h3⟩ => by subst h1; exact hk s' g' a' x' h2 h3

theorem Inv.only {E : En} {tm tm' : List (Nat × AV)} {bl : List (Nat × List AV)} {ow : List Nat} {g : Gh} {a : Act} {x : CW} (h : Inv E g ⟨tm, bl, ow⟩ a x) (hk : ∀ p ∈ tm', look tm p.1 = p.2) : Inv E g ⟨tm', bl, ow⟩ a x := by
  refine ⟨h.mem, fun t => ?_, h.de, h.sz⟩
  have : ∀ tm' : List (Nat × AV), (∀ p ∈ tm', look tm p.1 = p.2) → look tm' t = .top ∨ look tm' t = look tm t := by
    intro tm'
    induction tm' with
    | nil => intro _; exact .inl rfl
    | cons p r ih =>
      intro hk
      obtain ⟨k, v⟩ := p
      simp only [look]
      cases hb : Nat.beq k t
      · exact ih fun p hp => hk p (by simp [hp])
      · have e := Nat.eq_of_beq_eq_true hb
        subst e
        exact .inr (hk (k, v) (by simp)).symm
  rcases this tm' hk with h1 | h1
  · simp only [h1, rep]
  · show rep g x.w (look tm' t) _
    rw [h1]; exact h.tm t
end Go.Eng
