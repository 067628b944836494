/- A statement that leaves its order open and stores in the midst of it: what may come behind the store reads no memory. No program in sight. -/
import Derived.Test.YtikbndfbjgdldaaEN
namespace Go.Eng
open Go

def inL : List Nat → Nat → Bool
  | [], _ => false
  | k :: r, i => bif Nat.beq k i then true else inL r i
/-- What an operation may look at: nothing if it may come behind the store. -/
def pickB (ls : List Nat) (i : Nat) (bl : List (Nat × List AV)) : List (Nat × List AV) := bif inL ls i then [] else bl
/-- The head in the order of the text: operations that only read and reckon. -/
def HS (E : En) (ops : Array Oper) (bl : List (Nat × List AV)) (ls : List Nat) : Nat → List Oper → St → (St → Prop) → Prop
  | _, [], s, K => K s
  | k, o :: rest, s, K =>
    (∃ v, QV E (pickB ls k bl) s.tm o v [] [] ∧ dstB E.nt o = true ∧
      (o.guard = none ∨ ∃ j d b, o.guard = some (j, b) ∧ (ops[j]?).bind (·.dst) = some d ∧ look s.tm d = .v (.bool b)) ∧ HS E ops bl ls (k + 1) rest (s.app o.dst v [] []) K) ∨
    (∃ j d b, o.guard = some (j, !b) ∧ (ops[j]?).bind (·.dst) = some d ∧ look s.tm d = .v (.bool b) ∧ dstB E.nt o = true ∧ HS E ops bl ls (k + 1) rest (s.app o.dst (.v undef) [] []) K)
/-- The store: from blocks that read as bl to ones that read as bl1. -/
def SV (E : En) (tm : List (Nat × AV)) (bl : List (Nat × List AV)) (o : Oper) (bl1 : List (Nat × List AV)) : Prop :=
  o.dst = none ∧ o.guard = none ∧ ∀ (g : Gh) (w : World) (ρ : Operand → Value) (ow : List Nat), Mem E g bl ow w → (∀ x ∈ o.op.operands, rep g w (ev tm x) (ρ x)) →
    UponQ E.P (fun _ w' => ∃ g', Goes g w g' w' ∧ Mem E g' bl1 ow w') ((execOp ρ o).run E.P w)
structure StepS (E : En) (ops : Array Oper) (bl : List (Nat × List AV)) (s : St) (o : Oper) (t : Tr) : Prop where
  d : t.d = o.dst
  dst : dstB E.nt o = true
  nb : t.nb = []
  no : t.no = []
  run : (QV E bl s.tm o t.v [] [] ∧ (o.guard = none ∨ ∃ j d b, o.guard = some (j, b) ∧ (ops[j]?).bind (·.dst) = some d ∧ look s.tm d = .v (.bool b))) ∨
    (t.v = .v undef ∧ ∃ j d b, o.guard = some (j, !b) ∧ (ops[j]?).bind (·.dst) = some d ∧ look s.tm d = .v (.bool b))
theorem HS_trace {E : En} {ops : Array Oper} {bl : List (Nat × List AV)} {ls : List Nat} {K : St → Prop} : ∀ (l : List Oper) (k : Nat) (s : St), HS E ops bl ls k l s K →
    ∃ T : List Tr, T.length = l.length ∧ K (stS (fun _ => true) T 0 s) ∧ (∀ t ∈ T, t.nb = [] ∧ t.no = []) ∧
      (∀ i o t, l[i]? = some o → T[i]? = some t → StepS E ops (pickB ls (k + i) bl) (stS (fun j => decide (j < i)) T 0 s) o t)
  | [], k, s, h => ⟨[], rfl, h, fun t ht => by simp at ht, fun i o t hi => by simp at hi⟩
  | o :: rest, k, s, h => by
    have shift : ∀ (L : Nat → Bool) (T : List Tr) (i : Nat) (s : St), stS L T (i + 1) s = stS (fun j => L (j + 1)) T i s := by
      intro L T
      induction T with
      | nil => intro i s; rfl
      | cons t T ih => intro i s; simp only [stS]; exact ih (i + 1) _
    have zero : ∀ (T : List Tr) (i : Nat) (s : St), stS (fun _ => false) T i s = s := by
      intro T
      induction T with
      | nil => intro i s; rfl
      | cons t T ih => intro i s; simp only [stS, cond_false]; exact ih _ s
    have go : ∀ (t : Tr), StepS E ops (pickB ls k bl) s o t → HS E ops bl ls (k + 1) rest (s.app t.d t.v [] []) K →
        ∃ T : List Tr, T.length = (o :: rest).length ∧ K (stS (fun _ => true) T 0 s) ∧ (∀ t ∈ T, t.nb = [] ∧ t.no = []) ∧
      (∀ i o' t, (o :: rest)[i]? = some o' → T[i]? = some t → StepS E ops (pickB ls (k + i) bl) (stS (fun j => decide (j < i)) T 0 s) o' t) := by
      intro t hs hk
      obtain ⟨T, h1, h2, h0, h3⟩ := HS_trace rest (k + 1) _ hk
      refine ⟨t :: T, by simp [h1], ?_, ?_, fun i o' t' hi ht => ?_⟩
      · simp only [stS, cond_true]; rw [shift, hs.nb, hs.no]; exact h2
      · intro t' ht'
        rcases List.mem_cons.1 ht' with rfl | ht'
        · exact ⟨hs.nb, hs.no⟩
        · exact h0 t' ht'
      · cases i with
        | zero =>
          simp only [List.getElem?_cons_zero, Option.some.injEq] at hi ht
          subst hi; subst ht
          have e : stS (fun j => decide (j < 0)) (t :: T) 0 s = s := by
            simp only [stS, Nat.not_lt_zero, decide_false, cond_false]; exact zero _ _ _
          rw [e]; exact hs
        | succ i =>
          have := h3 i o' t' (by simpa using hi) (by simpa using ht)
          simp only [stS, Nat.zero_lt_succ, decide_true, cond_true]
          rw [shift, hs.nb, hs.no, show k + (i + 1) = k + 1 + i by omega]
          simpa [Nat.add_lt_add_iff_right] using this
    rcases h with ⟨v, h1, h2, h4, h5⟩ | ⟨j, d, b, h1, h2, h3, h4, h5⟩
    · exact go ⟨o.dst, v, [], []⟩ ⟨rfl, h2, rfl, rfl, .inl ⟨h1, h4⟩⟩ h5
    · exact go ⟨o.dst, .v undef, [], []⟩ ⟨rfl, h4, rfl, rfl, .inr ⟨rfl, j, d, b, h1, h2, h3⟩⟩ h5
theorem stS_bl {L : Nat → Bool} : ∀ (T : List Tr) (i : Nat) (s : St), (∀ t ∈ T, t.nb = [] ∧ t.no = []) → (stS L T i s).bl = s.bl ∧ (stS L T i s).ow = s.ow
  | [], _, s, _ => ⟨rfl, rfl⟩
  | t :: T, i, s, h => by
    simp only [stS]
    obtain ⟨h1, h2⟩ := stS_bl (L := L) T (i + 1) (bif L i then s.app t.d t.v t.nb t.no else s) fun t' ht' => h t' (by simp [ht'])
    obtain ⟨e1, e2⟩ := h t (by simp)
    rw [h1, h2]
    cases L i
    · exact ⟨rfl, rfl⟩
    · simp only [cond_true, St.app, e1, e2]; exact ⟨rfl, rfl⟩
def looseB (ops : Array Oper) (n : Nat) (ls : List Nat) : Bool :=
  let row := (depTab ops (n + 1)).getD n []
  (List.range n).all fun i => inL ls i || row.contains i

theorem W_drawS {E : En} {id : Nat} {l : List Oper} {Q : Exit → St → Prop} {s : St} (n : Nat) (ls : List Nat) (hm : E.P.follows .mixedOrders = true) (hB : headB l.toArray (n + 1) = true) (hT : tailB l.toArray (n + 1) = true) (hL : looseB l.toArray n ls = true)
    (h : HS E l.toArray s.bl ls 0 (l.take n) s (fun s' => ∃ o bl1, l[n]? = some o ∧ SV E s'.tm s.bl o bl1 ∧ WL E l.toArray (l.drop (n + 1)) Q ⟨s'.tm, bl1, s'.ow⟩)) : W E (.region id l.toArray true) Q s := by
  intro g0 a0 w00 hi0
  obtain ⟨T, hTl, hK, hT0, hstep⟩ := HS_trace _ _ _ h
  obtain ⟨oS, bl1, hoS, ⟨hSd, hSg, hSV⟩, hrest⟩ := hK
  obtain ⟨hn, hback, hord⟩ := headB_spec hB
  have hn' : n + 1 ≤ l.length := by simpa using hn
  have hTn : T.length = n := by rw [hTl]; simp; omega
  simp only [tailB, Bool.and_eq_true] at hT
  obtain ⟨hT1, hT2⟩ := hT
  have hoSa : l.toArray[n]? = some oS := by simpa using hoS
  have hopt : ∀ i, i < n → ∃ o t, l.toArray[i]? = some o ∧ (l.take n)[i]? = some o ∧ T[i]? = some t := fun i hi => by
    have h1 : i < l.length := by omega
    refine ⟨l[i], T[i]'(by omega), by simp [h1], by simp [hi, h1], by simp [hTn, hi]⟩
  let Lf : Array Bool → Nat → Bool := fun listed i => listed.getD i false
  have tailNot : ∀ listed, HeadInv .any l.toArray (n + 1) listed → 0 < cnt (n + 1) (Lf listed) → ∀ i ∈ Region.ready .any l.toArray listed, i < n + 1 := by
    intro listed inv hc i hi
    rcases Nat.lt_or_ge i (n + 1) with h1 | h1
    · exact h1
    · exfalso
      have hlt : i < l.toArray.size := by
        obtain ⟨_, o, ho, _⟩ := mem_ready.1 hi
        exact (Array.getElem?_eq_some_iff.1 ho).1
      have hns : n + 1 < l.toArray.size := by omega
      have hb : Nat.blt (n + 1) l.toArray.size = true := Nat.ble_eq_true_of_le hns
      rw [hb] at hT1
      simp only [cond_true, Bool.and_eq_true] at hT1
      obtain ⟨k, hk1, hk2, _⟩ := cnt_pos hc
      have hk3 : listed.getD k true = false := getD_in (by rw [inv.size]; omega) hk2
      exact tail_waits hT1.1 hT1.2 hns inv _ k rfl hk1 hk3 i h1 hi
  have progress : ∀ listed, HeadInv .any l.toArray (n + 1) listed → 0 < cnt (n + 1) (Lf listed) → Region.ready .any l.toArray listed ≠ [] := by
    intro listed inv hc he
    obtain ⟨k, hk1, hk2, hk3⟩ := cnt_pos hc
    have : k ∈ Region.ready .any l.toArray listed := by
      have hkl : k < l.toArray.size := by omega
      exact mem_ready.2 ⟨getD_in (by rw [inv.size]; omega) hk2, l.toArray[k], by simp, fun e he hb => hk3 _ (hback k l.toArray[k] hk1 (by simp) e he hb)⟩
    rw [he] at this
    cases this
  have hTd : ∀ j tr, T[j]? = some tr → j < n ∧ ∃ oj, l.toArray[j]? = some oj ∧ tr.d = oj.dst := fun j tr hj => by
    have hjn : j < n := by rw [← hTn]; exact (List.getElem?_eq_some_iff.1 hj).1
    obtain ⟨oj, t', h1, h2, h3⟩ := hopt j hjn
    exact ⟨hjn, oj, h1, (hstep j oj tr h2 hj).d⟩
  have main : ∀ (f : Nat) (listed : Array Bool) (g : Gh) (a : Act) (w : World), cnt (n + 1) (Lf listed) = f → HeadInv .any l.toArray (n + 1) listed → Inv E g ⟨(stS (Lf listed) T 0 s).tm, bif Lf listed n then bl1 else s.bl, s.ow⟩ a w → wpAny E.P .any l.toArray (post E Q) (f + (l.toArray.size - (n + 1))) listed a w := by
    intro f
    induction f with
    | zero =>
      intro listed g a w hc inv hinv
      have hall := cnt_zero hc
      have hst : stS (Lf listed) T 0 s = stS (fun _ => true) T 0 s := by
        have : ∀ (T : List Tr) (i : Nat) (s : St), (∀ j, j < T.length → Lf listed (i + j) = true) → stS (Lf listed) T i s = stS (fun _ => true) T i s := by
          intro T
          induction T with
          | nil => intro i s _; rfl
          | cons t T ih =>
            intro i s hL
            simp only [stS]
            rw [show Lf listed i = true by simpa using hL 0 (by simp)]
            exact ih (i + 1) _ fun j hj => by have := hL (j + 1) (by simp; omega); rwa [show i + (j + 1) = i + 1 + j by omega] at this
        exact this T 0 s fun j hj => by rw [Nat.zero_add]; exact hall j (by omega)
      rw [hst, hall n (by omega)] at hinv
      simp only [cond_true] at hinv
      have how := (stS_bl (L := fun _ => true) T 0 s hT0).2
      rw [← how] at hinv
      have hli : listed = ((List.range l.toArray.size).map fun i => Nat.blt i (n + 1)).toArray := by
        apply Array.ext
        · simp [inv.size]
        · intro i h1 h2
          have h3 : i < l.toArray.size := by rw [← inv.size]; exact h1
          simp only [List.getElem_toArray, List.getElem_map, List.getElem_range]
          rcases Nat.lt_or_ge i (n + 1) with h4 | h4
          · have h5 := hall i h4
            simp only [Lf, Array.getD_eq_getD_getElem?, Array.getElem?_eq_getElem h1, Option.getD_some] at h5
            rw [h5]
            exact (Nat.ble_eq_true_of_le h4).symm
          · have h5 := inv.tail i h4 h3
            simp only [Array.getD_eq_getD_getElem?, Array.getElem?_eq_getElem h1, Option.getD_some] at h5
            rw [h5]
            cases h6 : Nat.blt i (n + 1)
            · rfl
            · have := Nat.le_of_ble_eq_true h6; omega
      have hdl : (l.drop (n + 1)).length = l.toArray.size - (n + 1) := by simp
      have := wpAny_of_seq (P := E.P) (md := .any) (Q' := post E Q) (l.drop (n + 1)) (n + 1) listed a w (fun j => by simp [List.getElem?_drop]) (by rw [hdl, hli]; exact hT2) (hrest g a w hinv)
      rw [hdl] at this
      rw [Nat.zero_add]; exact this
    | succ f ih =>
      intro listed g a w hc inv hinv
      rw [show f + 1 + (l.toArray.size - (n + 1)) = (f + (l.toArray.size - (n + 1))) + 1 by omega]
      have hpos : 0 < cnt (n + 1) (Lf listed) := by omega
      refine ⟨fun he => absurd he (progress listed inv hpos), fun i hi => ?_⟩
      have hin1 := tailNot listed inv hpos i hi
      obtain ⟨hun, o2, ho, hdeps⟩ := mem_ready.1 hi
      have hLi : Lf listed i = false := getD_both hun
      have closed : ∀ k ok, l.toArray[k]? = some ok → Lf listed k = true → ∀ e ∈ ok.after, Region.binds .any e = true → Lf listed e.on = true := fun k ok hk hl e he hb => inv.closed k ok hk hl e he hb
      have depI : ∀ j ∈ (depTab l.toArray (n + 1)).getD i [], Lf listed j = true := depTab_closed closed (n + 1) i fun o' ho' e he hb => by
        have : o' = o2 := Option.some.inj (ho'.symm.trans ho)
        subst this
        exact hdeps e he hb
      have depJ : ∀ j, i ∈ (depTab l.toArray (n + 1)).getD j [] → Lf listed j = false := fun j hj => by
        cases hLj : Lf listed j
        · rfl
        · have := depTab_closed closed (n + 1) j (fun o' ho' => closed j o' ho' hLj) i hj
          rw [hLi] at this; cases this
      have hLset : ∀ j, Lf (listed.setIfInBounds i true) j = (decide (j = i) || Lf listed j) := fun j => by
        by_cases e : j = i
        · subst e
          have hlt : j < listed.size := by rw [inv.size]; exact (Array.getElem?_eq_some_iff.1 ho).1
          simp [Lf, hlt]
        · simp only [e, decide_false, Bool.false_or, Lf]
          exact getD_set_ne false (Ne.symm e)
      have hcnt : cnt (n + 1) (Lf (listed.setIfInBounds i true)) = f := by
        have := cnt_set (L := Lf listed) (L' := Lf (listed.setIfInBounds i true)) (i := i) hLi (by rw [hLset]; simp) (fun j hj => by rw [hLset]; simp [hj]) (n + 1)
        rw [if_pos hin1] at this
        omega
      unfold wpOp
      simp only [ho]
      by_cases hS : i = n
      · -- the store
        subst hS
        have : o2 = oS := Option.some.inj (ho.symm.trans hoSa)
        subst this
        rw [hLi] at hinv
        simp only [cond_false] at hinv
        rw [show Region.wanted o2 (yielded l.toArray a.tmps) = true by simp [Region.wanted, hSg]]
        refine .inl ?_
        have sameLook : ∀ u, u ∈ o2.looksAt l.toArray → look (stS (Lf listed) T 0 s).tm u = look (stS (fun _ => true) T 0 s).tm u := fun u hu =>
          look_stS T 0 s s rfl fun j tr hj hdu => by
            rw [Nat.zero_add]
            obtain ⟨hjn, oj, hoj, hjd⟩ := hTd j tr hj
            exact depI j ((hord i o2 j oj u (by omega) (by omega) (by omega) ho hoj (hjd ▸ hdu) (.inl hu)).1 hjn)
        refine wp_of_uponQ (hSV g w a.eval s.ow hinv.mem fun x hx => ?_) fun y w' hKy => ?_
        · have := rep_ev hinv.tm x
          rwa [ev_same (tm' := (stS (fun _ => true) T 0 s).tm) fun u hu => by subst hu; exact sameLook u (looksAt_op hx)] at this
        · obtain ⟨g', h1, h2⟩ := hKy
          have hi2 : Inv E g' ⟨(stS (Lf listed) T 0 s).tm, bl1, s.ow⟩ a w' := ⟨h2, fun t => rep_goes h1 (hinv.tm t), hinv.de, hinv.sz⟩
          have htm : stS (Lf (listed.setIfInBounds i true)) T 0 s = stS (Lf listed) T 0 s := by
            have : ∀ (T : List Tr) (k : Nat) (s : St), (∀ j, j < T.length → Lf (listed.setIfInBounds i true) (k + j) = Lf listed (k + j)) → stS (Lf (listed.setIfInBounds i true)) T k s = stS (Lf listed) T k s := by
              intro T
              induction T with
              | nil => intro k s _; rfl
              | cons t T ih =>
                intro k s hL
                simp only [stS]
                rw [show Lf (listed.setIfInBounds i true) k = Lf listed k by simpa using hL 0 (by simp)]
                exact ih (k + 1) _ fun j hj => by have := hL (j + 1) (by simp; omega); rwa [show k + (j + 1) = k + 1 + j by omega] at this
            exact this T 0 s fun j hj => by
              rw [Nat.zero_add, hLset, decide_eq_false (by omega), Bool.false_or]
          have := ih (listed.setIfInBounds i true) g' a w' hcnt (inv.set hi hin1) (by
            rw [htm, hLset]; simpa using hi2)
          rw [hSd]; exact this
      · have hin : i < n := by omega
        obtain ⟨o3, t, ho3, ho', ht⟩ := hopt i hin
        have : o3 = o2 := Option.some.inj (ho3.symm.trans ho)
        subst this
        obtain ⟨hd, hdst, hnb, hno, hrun⟩ := hstep i o3 t ho' ht
        have sameLook : ∀ u, u ∈ o3.looksAt l.toArray → look (stS (Lf listed) T 0 s).tm u = look (stS (fun j => decide (j < i)) T 0 s).tm u := fun u hu =>
          look_stS T 0 s s rfl fun j tr hj hdu => by
            rw [Nat.zero_add]
            obtain ⟨hjn, oj, hoj, hjd⟩ := hTd j tr hj
            rcases Nat.lt_trichotomy j i with h1 | h1 | h1
            · rw [decide_eq_true h1]
              exact depI j ((hord i o3 j oj u hin1 (by omega) (by omega) ho hoj (hjd ▸ hdu) (.inl hu)).1 h1)
            · subst h1; rw [hLi]; simp
            · rw [decide_eq_false (by omega)]
              exact depJ j ((hord i o3 j oj u hin1 (by omega) (by omega) ho hoj (hjd ▸ hdu) (.inl hu)).2 h1)
        have hdst' : ∀ k, t.d = some k → k < E.nt := fun k hk => dstB_spec hdst k (hd ▸ hk)
        have hLn : Lf (listed.setIfInBounds i true) n = Lf listed n := by rw [hLset, decide_eq_false (by omega), Bool.false_or]
        have next : ∀ (g' : Gh) (a' : Act) (w' : World), Inv E g' ⟨((stS (Lf listed) T 0 s).app t.d t.v [] []).tm, bif Lf listed n then bl1 else s.bl, s.ow⟩ a' w' → wpAny E.P .any l.toArray (post E Q) (f + (l.toArray.size - (n + 1))) (listed.setIfInBounds i true) a' w' := by
          intro g' a' w' hinv'
          refine ih _ g' a' w' hcnt (inv.set hi hin1) ⟨by rw [hLn]; exact hinv'.mem, fun u => ?_, hinv'.de, hinv'.sz⟩
          have hu := hinv'.tm u
          have heq : look (stS (Lf (listed.setIfInBounds i true)) T 0 s).tm u = look ((stS (Lf listed) T 0 s).app t.d t.v [] []).tm u := by
            by_cases hdu : t.d = some u
            · have h1 : look ((stS (Lf listed) T 0 s).app t.d t.v [] []).tm u = t.v := by simp [St.app, hdu, look]
              rw [h1]
              refine look_last T 0 i s t ht hdu rfl (by rw [Nat.zero_add, hLset]; simp) fun j tr hj hij hdj => ?_
              rw [Nat.zero_add, hLset]
              obtain ⟨hjn, oj, hoj, hjd⟩ := hTd j tr hj
              have := depJ j ((hord i o3 j oj u hin1 (by omega) (by omega) ho hoj (hjd ▸ hdj) (.inr (hd ▸ hdu))).2 hij)
              rw [this]
              simp; omega
            · have h1 : look ((stS (Lf listed) T 0 s).app t.d t.v [] []).tm u = look (stS (Lf listed) T 0 s).tm u := by
                simp only [St.app]
                cases hdd : t.d with
                | none => rfl
                | some k =>
                  have : k ≠ u := fun e => hdu (by rw [hdd, e])
                  simp only [look]
                  cases hb : Nat.beq k u
                  · rfl
                  · exact absurd (Nat.eq_of_beq_eq_true hb) this
              rw [h1]
              refine look_stS T 0 s s rfl fun j tr hj hdj => ?_
              rw [Nat.zero_add, hLset]
              have : j ≠ i := fun e => by subst e; rw [ht] at hj; cases hj; exact hdu hdj
              simp [this]
          rw [heq]; exact hu
        have hguard : ∀ {j d b}, o3.guard = some (j, b) → (l.toArray[j]?).bind (·.dst) = some d → ∀ c, look (stS (fun j => decide (j < i)) T 0 s).tm d = .v (.bool c) → yielded l.toArray a.tmps j = some c := fun {j d b} hg hj c hc' => by
          have h1 := hinv.tm d
          simp only at h1
          rw [sameLook d (looksAt_guard hg hj), hc'] at h1
          simp only [rep] at h1
          exact yielded_of hj h1
        have operandsOk : ∀ x ∈ o3.op.operands, rep g w (ev (stS (fun j => decide (j < i)) T 0 s).tm x) (a.eval x) := fun x hx => by
          have := rep_ev hinv.tm x
          rwa [ev_same (tm' := (stS (fun j => decide (j < i)) T 0 s).tm) fun u hu => by subst hu; exact sameLook u (looksAt_op hx)] at this
        rcases hrun with ⟨hq, hg⟩ | ⟨hv, j, dd, b, hg, hj, hb⟩
        · have hw : Region.wanted o3 (yielded l.toArray a.tmps) = true := by
            rcases hg with hg | ⟨j, dd, b, hg, hj, hb⟩
            · simp [Region.wanted, hg]
            · simp [Region.wanted, hg, hguard hg hj b hb]
          rw [hw]
          refine .inl ?_
          have hsub : ∀ p ∈ pickB ls (0 + i) s.bl, p ∈ (bif Lf listed n then bl1 else s.bl) := fun p hp => by
            rw [Nat.zero_add] at hp
            cases hLnn : Lf listed n
            · simp only [cond_false]
              unfold pickB at hp
              cases hin : inL ls i
              · rw [hin] at hp; exact hp
              · rw [hin] at hp; simp at hp
            · exfalso
              have hnot : i ∉ (depTab l.toArray (n + 1)).getD n [] := fun hm => by
                have := depJ n hm
                rw [hLnn] at this; cases this
              have hl := List.all_eq_true.1 hL i (List.mem_range.2 hin)
              have hl2 : inL ls i = true := by
                rcases Bool.or_eq_true _ _ ▸ hl with h | h
                · exact h
                · exact absurd (by simpa using h) hnot
              unfold pickB at hp
              rw [hl2] at hp
              simp at hp
          refine wp_of_uponQ (hq g w a.eval (bif Lf listed n then bl1 else s.bl) s.ow hinv.mem hsub (fun p hp => by simp at hp) (fun k hk => by simp at hk) operandsOk) fun y w' hKy => ?_
          obtain ⟨g', h1, h2, h3⟩ := hKy
          have := hinv.app (d := t.d) (nb := []) (no := []) hdst' h1 h2 h3
          rw [hd] at this
          exact next g' _ w' (by rw [hd]; exact this)
        · have hw : Region.wanted o3 (yielded l.toArray a.tmps) = false := by
            simp [Region.wanted, hg, hguard hg hj b hb]
          rw [hw]
          have := hinv.app (d := t.d) (v := t.v) (y := undef) (nb := []) (no := []) hdst' (Goes.refl g w) hinv.mem (by rw [hv]; simp [rep])
          rw [hd] at this
          exact next g _ w (by rw [hd]; exact this)
  refine wp_region_any hm ?_
  have inv0 : HeadInv .any l.toArray (n + 1) (Array.replicate l.toArray.size false) :=
    ⟨by simp, fun j oj _ hl => (by rw [getD_replicate_false] at hl; cases hl), fun t _ ht => getD_in (by simpa using ht) (getD_replicate_false _ _)⟩
  have hL0 : Lf (Array.replicate l.toArray.size false) = fun _ => false := by funext i; exact getD_replicate_false _ _
  have := main (n + 1) (Array.replicate l.toArray.size false) g0 a0 { w00 with drawn := w00.drawn + 1 } (by rw [hL0]; exact cnt_false (n + 1)) inv0 ?_
  · rwa [show n + 1 + (l.toArray.size - (n + 1)) = l.toArray.size by omega] at this
  · rw [hL0]
    have zero : ∀ (T : List Tr) (i : Nat) (s : St), stS (fun _ => false) T i s = s := by
      intro T
      induction T with
      | nil => intro i s; rfl
      | cons t T ih => intro i s; simp only [stS, cond_false]; exact ih _ s
    rw [zero]
    exact hi0.drew
/-- At the end of the head: the store, then the tail. -/
def SK (E : En) (ops : Array Oper) (bl : List (Nat × List AV)) (o : Oper) (tl : List Oper) (Q : Exit → St → Prop) (s : St) : Prop := ∃ bl1, SV E s.tm bl o bl1 ∧ WL E ops tl Q ⟨s.tm, bl1, s.ow⟩
theorem wdrawS {E : En} {id : Nat} {l hd tl : List Oper} {o : Oper} {Q : Exit → St → Prop} {tm : List (Nat × AV)} {bl : List (Nat × List AV)} {ow : List Nat} (n : Nat) (ls : List Nat) (hm : E.P.follows .mixedOrders = true) (hB : headB l.toArray (n + 1) = true) (hT : tailB l.toArray (n + 1) = true) (hL : looseB l.toArray n ls = true) (hs : splitO n l = some (hd, o :: tl))
    (h : HS E l.toArray bl ls 0 hd ⟨tm, bl, ow⟩ (SK E l.toArray bl o tl Q)) : W E (.region id l.toArray true) Q ⟨tm, bl, ow⟩ := by
  obtain ⟨h1, h2⟩ := splitO_eq hs
  refine W_drawS n ls hm hB hT hL ?_
  rw [h1]
  have h3 : l[n]? = some o := by
    have : (l.drop n)[0]? = some o := by rw [h2]; rfl
    simpa [List.getElem?_drop] using this
  have h4 : l.drop (n + 1) = tl := by
    have : (l.drop n).drop 1 = tl := by rw [h2]; rfl
    simpa [List.drop_drop] using this
  have mono : ∀ (hd : List Oper) (k : Nat) (s : St) (K K' : St → Prop), (∀ s, K s → K' s) → HS E l.toArray bl ls k hd s K → HS E l.toArray bl ls k hd s K' := by
    intro hd
    induction hd with
    | nil => intro k s K K' hK h; exact hK _ h
    | cons o hd ih =>
      intro k s K K' hK h
      rcases h with ⟨v, h1, h2, h4, h5⟩ | ⟨j, d, b, h1, h2, h3, h4, h5⟩
      · exact .inl ⟨v, h1, h2, h4, ih _ _ _ _ hK h5⟩
      · exact .inr ⟨j, d, b, h1, h2, h3, h4, ih _ _ _ _ hK h5⟩
  refine mono _ _ _ _ _ (fun s' ⟨bl1, k1, k2⟩ => ⟨o, bl1, h3, k1, ?_⟩) h
  rw [h4]; exact k2
section
variable {E : En} {ops : Array Oper} {bl0 : List (Nat × List AV)} {ls : List Nat} {k : Nat} {rest : List Oper} {K : St → Prop} {tm : List (Nat × AV)} {bl bl1 : List (Nat × List AV)} {ow : List Nat} {d : Nat} {op : Op} {ty : TypeId} {pos : String} {af : Array Edge} {gd : Option (Nat × Bool)} {v : AV} {Q : Exit → St → Prop}
theorem HS_nil {s : St} (h : K s) : HS E ops bl0 ls k [] s K := h
theorem hs0 (h : QV E (pickB ls k bl0) tm ⟨some d, op, ty, pos, af, gd⟩ v [] []) (hg : GY ops tm gd) (hd : Nat.blt d E.nt = true) (hk : HS E ops bl0 ls (k + 1) rest ⟨(d, v) :: tm, bl, ow⟩ K) : HS E ops bl0 ls k (⟨some d, op, ty, pos, af, gd⟩ :: rest) ⟨tm, bl, ow⟩ K := by
  refine .inl ⟨v, h, hd, ?_, hk⟩
  cases gd with
  | none => exact .inl rfl
  | some p => obtain ⟨j, b⟩ := p; obtain ⟨d', h1, h2⟩ := hg; exact .inr ⟨j, d', b, rfl, h1, h2⟩
theorem QV_sub {o : Oper} {nb : List (Nat × List AV)} {no : List Nat} {bl2 : List (Nat × List AV)} (h : QV E [] tm o v nb no) : QV E bl2 tm o v nb no := fun g w ρ bl' ow' hm _ hf hn hop => h g w ρ bl' ow' hm (fun p hp => by simp at hp) hf hn hop
theorem SV_store {t : Nat} {x y : Operand} {n o sz : Nat} {ag : Bool} {cs : List AV} [ht : TyOk E.P t ag sz] (hx : ev tm x = .ptr n o) (hy : ev tm y = v) (hb : lookB bl n = some cs) (hro : n ∉ E.ron)
    (hc : isC v = true) (hall : (acells v).all isCell = true) (hl : (acells v).length = sz) (hfit : o + sz ≤ cs.length) : SV E tm bl ⟨none, .store t x y, ty, pos, af, none⟩ (setB bl n (splice cs o (acells v))) := by
  refine ⟨rfl, rfl, fun g w ρ ow hm hop => ?_⟩
  have h1 := hop x (by simp [Op.operands])
  have h2 := hop y (by simp [Op.operands])
  rw [hx] at h1; rw [hy] at h2
  simp only [rep] at h1
  obtain ⟨b, h1, h1'⟩ := h1
  obtain ⟨b', arr, e1, e2, e3, e4⟩ := hm.blk n cs (lookB_mem hb)
  have : b' = b := by rw [h1] at e1; exact (Option.some.inj e1).symm
  subst this
  have hcs := reps_cellsC h2 hc
  have hvl : (ρ y).cells.size = sz := by rw [cells_length h2 hc, hl]
  have hal := reps_length e3
  have hall' : ∀ u ∈ (ρ y).cells.toList, u.oneCell' = true := by
    have : ∀ (xs : List AV) (ys : List Value), reps g w xs ys → xs.all isCell = true → ∀ u ∈ ys, u.oneCell' = true := by
      intro xs
      induction xs with
      | nil => intro ys h _ u hu; simp only [reps] at h; subst h; simp at hu
      | cons x xs ih =>
        intro ys h ha u hu
        simp only [reps] at h
        obtain ⟨z, zs, rfl, k1, k2⟩ := h
        simp only [List.all_cons, Bool.and_eq_true] at ha
        rcases List.mem_cons.1 hu with rfl | hu
        · exact oneCell_of k1 ha.1
        · exact ih zs k2 ha.2 u hu
    exact this _ _ hcs hall
  have hst := run_storeCells_at E.P b' o (g.mt n) (ρ y).cells.toList 0 arr w e2 (by simp at hal ⊢; omega) hall'
  simp only [Nat.add_zero] at hst
  have hrun : (execOp ρ ⟨none, .store t x y, ty, pos, af, none⟩).run E.P w = .ok .skip (w.setRow b' (arr.toList.take o ++ (ρ y).cells.toList ++ arr.toList.drop (o + (ρ y).cells.toList.length)).toArray) := by
    have hne : ¬ ((ρ y).cells.size ≠ sz) := by omega
    simp only [execOp, h1', Instr.storeAt, Instr.sureAddr, storeVar, Sem.run_bind, Sem.run_pure, Result.andThen_ok, ht.sz, if_neg hne, hst]
  have hrs := reps_splice (off := o) e3 hcs
  obtain ⟨k1, k2⟩ := hm.setBlock (cs := splice cs o (acells v)) (arr := (arr.toList.take o ++ (ρ y).cells.toList ++ arr.toList.drop (o + (ρ y).cells.toList.length)).toArray) h1 hro e2 e4 (by simpa [List.append_assoc] using hrs)
  rw [hrun]
  exact ⟨g, k1, k2⟩
/-- The store into a variable. -/
theorem sst {x y : Operand} {t nn o sz : Nat} {ag : Bool} {tl : List Oper} {cs ds r : List AV} {bl' : List (Nat × List AV)} [ht : TyOk E.P t ag sz] (hx : ev tm x = .ptr nn o) (hy : evO tm y = some v) (hb : lookB bl nn = some cs) (hro : nn ∉ E.ron)
    (hc : isC v = true) (ha : acellsO v = some ds) (hall : ds.all isCell = true) (hl : Nat.beq ds.length sz = true) (hp : putO cs o ds = some r) (hs : setBO bl nn r = some bl') (hk : WL E ops tl Q ⟨tm, bl', ow⟩) : SK E ops bl ⟨none, .store t x y, ty, pos, af, none⟩ tl Q ⟨tm, bl0, ow⟩ := by
  obtain ⟨h1, h2⟩ := putO_eq hp
  have e := acellsO_eq ha
  have e2 := Nat.eq_of_beq_eq_true hl
  refine ⟨_, SV_store hx (evO_ev hy) hb hro hc (by rw [e]; exact hall) (by rw [e]; exact e2) (by omega), ?_⟩
  rw [e, h2, setBO_eq hs]
  exact hk
/-- The store into a part of an element. -/
theorem sstP {x y : Operand} {t n j e o sz : Nat} {ag : Bool} {tl : List Oper} {r0 r cs : List AV} {rows : List (List AV)} {bl' : List (Nat × List AV)} [ht : TyOk E.P t ag sz] (hx : ev tm x = .ptr n (j * e + o)) (hy : evO tm y = some v) (hb : lookB bl n = some rows.flatten) (hro : n ∉ E.ron)
    (hc : isC v = true) (ha : acellsO v = some cs) (hall : cs.all isCell = true) (hcs : Nat.beq cs.length sz = true) (hr0 : rows[j]? = some r0) (hp : putO r0 o cs = some r) (hl : ∀ r ∈ rows, r.length = e) (hs : setBO bl n (rows.set j r).flatten = some bl')
    (hk : WL E ops tl Q ⟨tm, bl', ow⟩) : SK E ops bl ⟨none, .store t x y, ty, pos, af, none⟩ tl Q ⟨tm, bl0, ow⟩ := by
  have e1 := acellsO_eq ha
  have e2 := Nat.eq_of_beq_eq_true hcs
  obtain ⟨p1, p2⟩ := putO_eq hp
  have hj : j < rows.length := (List.getElem?_eq_some_iff.1 hr0).1
  have hr0l : r0.length = e := hl r0 (List.mem_of_getElem? hr0)
  have h1 : j * e + o + sz ≤ rows.flatten.length := by
    rw [flatten_length hl]
    have : (j + 1) * e ≤ rows.length * e := Nat.mul_le_mul_right _ hj
    rw [Nat.succ_mul] at this
    omega
  refine ⟨_, SV_store hx (evO_ev hy) hb hro hc (by rw [e1]; exact hall) (by rw [e1]; exact e2) h1, ?_⟩
  have hsp : splice rows.flatten (j * e + o) (acells v) = (rows.set j r).flatten := by
    have hrl : r.length = e := by rw [← p2]; simp [splice]; omega
    rw [← splice_row hl hrl hj, ← p2, e1]
    obtain ⟨rest', hrest⟩ := drop_rows hl hr0
    have hjl : j * e ≤ rows.flatten.length := by omega
    have htk : rows.flatten.take (j * e + o) = rows.flatten.take (j * e) ++ r0.take o := by
      rw [List.take_add, hrest, List.take_append_of_le_length (by omega)]
    have hdr : rows.flatten.drop (j * e + o + cs.length) = r0.drop (o + cs.length) ++ rest' := by
      rw [show j * e + o + cs.length = j * e + (o + cs.length) by omega, ← List.drop_drop, hrest, List.drop_append_of_le_length (by omega)]
    have hdr2 : rows.flatten.drop (j * e + e) = rest' := by
      rw [← List.drop_drop, hrest, ← hr0l, List.drop_left]
    have hlen : (r0.take o ++ (cs ++ r0.drop (o + cs.length))).length = e := by simp; omega
    simp only [splice, htk, hdr, hlen, hdr2]
    simp [List.append_assoc]
  rw [hsp, setBO_eq hs]
  exact hk
end
end Go.Eng
