/- My walking engine, part 3: abstract values of Go, and the rules of a walk over them. No program in sight. -/
import Derived.Test.YtkadjimnamcjbaaZ2
import Derived.RangeFuncNested
import Derived.RangeFuncLeaves
import Derived.RangeFuncCalls
import Derived.Laws.IdiomRangeMap
import Derived.LoopNIn
import Derived.ScopeJumps
namespace Go.Eng
open Go

/-- How many are done. -/
def scU : Nat → (Nat → Bool) → Nat
  | 0, _ => 0
  | m + 1, q => (bif q m then 1 else 0) + scU m q
theorem scU_le : ∀ (m : Nat) (q : Nat → Bool), scU m q ≤ m
  | 0, _ => Nat.le_refl _
  | m + 1, q => by
    have := scU_le m q
    simp only [scU]
    cases q m <;> simp <;> omega
theorem scU_congr {q r : Nat → Bool} : ∀ {m : Nat}, (∀ k, k < m → q k = r k) → scU m q = scU m r
  | 0, _ => rfl
  | m + 1, h => by
    simp only [scU]
    rw [h m (by omega), scU_congr fun k hk => h k (by omega)]
theorem scU_eq {q : Nat → Bool} {j : Nat} : ∀ {m : Nat}, j ≤ m → (∀ k, k < m → q k = decide (k < j)) → scU m q = j
  | 0, hj, _ => by simp [scU]; omega
  | m + 1, hj, h => by
    simp only [scU]
    rw [h m (by omega)]
    by_cases e : m < j
    · have e2 : j = m + 1 := by omega
      rw [scU_eq (j := m) (Nat.le_refl _) fun k hk => by rw [h k (by omega), decide_eq_true hk, decide_eq_true (by omega)]]
      rw [decide_eq_true e, e2]; simp; omega
    · rw [scU_eq (j := j) (by omega) fun k hk => h k (by omega), decide_eq_false e]; simp
def chainM (ops : Array Oper) (n m : Nat) : Bool :=
  let tab := depTab ops (n + m)
  (List.range m).all fun j => (List.range j).all fun k => (tab.getD (n + j) []).contains (n + k)

theorem W_drawM {E : En} {id : Nat} {l : List Oper} {Q : Exit → St → Prop} {s : St} (n m : Nat) (blc : List (Nat × List AV)) (bls : Nat → List (Nat × List AV)) (hm : E.P.follows .mixedOrders = true) (hB : headB l.toArray (n + m) = true) (hT : tailB l.toArray (n + m) = true) (hC : chainM l.toArray n m = true) (h0 : bls 0 = s.bl) (hc0 : ∀ j, j ≤ m → ∀ p ∈ blc, p ∈ bls j)
    (h : HS E l.toArray blc [] 0 (l.take n) s (fun s' => (∀ j, j < m → ∃ o, l[n + j]? = some o ∧ SV E s'.tm (bls j) o (bls (j + 1))) ∧ WL E l.toArray (l.drop (n + m)) Q ⟨s'.tm, bls m, s'.ow⟩)) : W E (.region id l.toArray true) Q s := by
  intro g0 a0 w00 hi0
  obtain ⟨T, hTl, hK, hT0, hstep⟩ := HS_trace _ _ _ h
  obtain ⟨hstores, hrest⟩ := hK
  obtain ⟨hn, hback, hord⟩ := headB_spec hB
  have hn' : n + m ≤ l.length := by simpa using hn
  have hTn : T.length = n := by rw [hTl]; simp; omega
  simp only [tailB, Bool.and_eq_true] at hT
  obtain ⟨hT1, hT2⟩ := hT
  have hopt : ∀ i, i < n → ∃ o t, l.toArray[i]? = some o ∧ (l.take n)[i]? = some o ∧ T[i]? = some t := fun i hi => by
    have h1 : i < l.length := by omega
    refine ⟨l[i], T[i]'(by omega), by simp [h1], by simp [hi, h1], by simp [hTn, hi]⟩
  let Lf : Array Bool → Nat → Bool := fun listed i => listed.getD i false
  have tailNot : ∀ listed, HeadInv .any l.toArray (n + m) listed → 0 < cnt (n + m) (Lf listed) → ∀ i ∈ Region.ready .any l.toArray listed, i < n + m := by
    intro listed inv hc i hi
    rcases Nat.lt_or_ge i (n + m) with h1 | h1
    · exact h1
    · exfalso
      have hlt : i < l.toArray.size := by
        obtain ⟨_, o, ho, _⟩ := mem_ready.1 hi
        exact (Array.getElem?_eq_some_iff.1 ho).1
      have hns : n + m < l.toArray.size := by omega
      have hb : Nat.blt (n + m) l.toArray.size = true := Nat.ble_eq_true_of_le hns
      rw [hb] at hT1
      simp only [cond_true, Bool.and_eq_true] at hT1
      obtain ⟨k, hk1, hk2, _⟩ := cnt_pos hc
      have hk3 : listed.getD k true = false := getD_in (by rw [inv.size]; omega) hk2
      exact tail_waits hT1.1 hT1.2 hns inv _ k rfl hk1 hk3 i h1 hi
  have progress : ∀ listed, HeadInv .any l.toArray (n + m) listed → 0 < cnt (n + m) (Lf listed) → Region.ready .any l.toArray listed ≠ [] := by
    intro listed inv hc he
    obtain ⟨k, hk1, hk2, hk3⟩ := cnt_pos hc
    have : k ∈ Region.ready .any l.toArray listed := by
      have hkl : k < l.toArray.size := by omega
      exact mem_ready.2 ⟨getD_in (by rw [inv.size]; omega) hk2, l.toArray[k], by simp, fun e he hb => hk3 _ (hback k l.toArray[k] hk1 (by simp) e he hb)⟩
    rw [he] at this
    cases this
  have hTd : ∀ j tr, T[j]? = some tr → j < n ∧ ∃ oj, l.toArray[j]? = some oj ∧ tr.d = oj.dst := fun j tr hj => by
    have hjn : j < n := by rw [← hTn]; exact (List.getElem?_eq_some_iff.1 hj).1
    obtain ⟨oj, t', h1, h2, h3⟩ := hopt j hjn
    exact ⟨hjn, oj, h1, (hstep j oj tr h2 hj).d⟩
  have main : ∀ (f : Nat) (listed : Array Bool) (g : Gh) (a : Act) (w : World), cnt (n + m) (Lf listed) = f → HeadInv .any l.toArray (n + m) listed → Inv E g ⟨(stS (Lf listed) T 0 s).tm, bls (scU m fun j => Lf listed (n + j)), s.ow⟩ a w → wpAnyIn (fo E.rd) 0 E.P .any l.toArray (post E Q) (f + (l.toArray.size - (n + m))) listed a w := by
    intro f
    induction f with
    | zero =>
      intro listed g a w hc inv hinv
      have hall := cnt_zero hc
      have hst : stS (Lf listed) T 0 s = stS (fun _ => true) T 0 s := by
        have : ∀ (T : List Tr) (i : Nat) (s : St), (∀ j, j < T.length → Lf listed (i + j) = true) → stS (Lf listed) T i s = stS (fun _ => true) T i s := by
          intro T
          induction T with
          | nil => intro i s _; rfl
          | cons t T ih =>
            intro i s hL
            simp only [stS]
            rw [show Lf listed i = true by simpa using hL 0 (by simp)]
            exact ih (i + 1) _ fun j hj => by have := hL (j + 1) (by simp; omega); rwa [show i + (j + 1) = i + 1 + j by omega] at this
        exact this T 0 s fun j hj => by rw [Nat.zero_add]; exact hall j (by omega)
      rw [hst, scU_eq (j := m) (Nat.le_refl _) fun k hk => by rw [hall (n + k) (by omega), decide_eq_true hk]] at hinv
      have how := (stS_bl (L := fun _ => true) T 0 s hT0).2
      rw [← how] at hinv
      have hli : listed = ((List.range l.toArray.size).map fun i => Nat.blt i (n + m)).toArray := by
        apply Array.ext
        · simp [inv.size]
        · intro i h1 h2
          have h3 : i < l.toArray.size := by rw [← inv.size]; exact h1
          simp only [List.getElem_toArray, List.getElem_map, List.getElem_range]
          rcases Nat.lt_or_ge i (n + m) with h4 | h4
          · have h5 := hall i h4
            simp only [Lf, Array.getD_eq_getD_getElem?, Array.getElem?_eq_getElem h1, Option.getD_some] at h5
            rw [h5]
            exact (Nat.ble_eq_true_of_le h4).symm
          · have h5 := inv.tail i h4 h3
            simp only [Array.getD_eq_getD_getElem?, Array.getElem?_eq_getElem h1, Option.getD_some] at h5
            rw [h5]
            cases h6 : Nat.blt i (n + m)
            · rfl
            · have := Nat.le_of_ble_eq_true h6; omega
      have hdl : (l.drop (n + m)).length = l.toArray.size - (n + m) := by simp
      have := wpAnyIn_of_seq (F := fo E.rd) (n := 0) (P := E.P) (md := .any) (Q' := post E Q) (l.drop (n + m)) (n + m) listed a w (fun j => by simp [List.getElem?_drop]) (by rw [hdl, hli]; exact hT2) (hrest g a w hinv)
      rw [hdl] at this
      rw [Nat.zero_add]; exact this
    | succ f ih =>
      intro listed g a w hc inv hinv
      rw [show f + 1 + (l.toArray.size - (n + m)) = (f + (l.toArray.size - (n + m))) + 1 by omega]
      have hpos : 0 < cnt (n + m) (Lf listed) := by omega
      refine ⟨fun he => absurd he (progress listed inv hpos), fun i hi => ?_⟩
      have hin1 := tailNot listed inv hpos i hi
      obtain ⟨hun, o2, ho, hdeps⟩ := mem_ready.1 hi
      have hLi : Lf listed i = false := getD_both hun
      have closed : ∀ k ok, l.toArray[k]? = some ok → Lf listed k = true → ∀ e ∈ ok.after, Region.binds .any e = true → Lf listed e.on = true := fun k ok hk hl e he hb => inv.closed k ok hk hl e he hb
      have depI : ∀ j ∈ (depTab l.toArray (n + m)).getD i [], Lf listed j = true := depTab_closed closed (n + m) i fun o' ho' e he hb => by
        have : o' = o2 := Option.some.inj (ho'.symm.trans ho)
        subst this
        exact hdeps e he hb
      have depJ : ∀ j, i ∈ (depTab l.toArray (n + m)).getD j [] → Lf listed j = false := fun j hj => by
        cases hLj : Lf listed j
        · rfl
        · have := depTab_closed closed (n + m) j (fun o' ho' => closed j o' ho' hLj) i hj
          rw [hLi] at this; cases this
      have hLset : ∀ j, Lf (listed.setIfInBounds i true) j = (decide (j = i) || Lf listed j) := fun j => by
        by_cases e : j = i
        · subst e
          have hlt : j < listed.size := by rw [inv.size]; exact (Array.getElem?_eq_some_iff.1 ho).1
          simp [Lf, hlt]
        · simp only [e, decide_false, Bool.false_or, Lf]
          exact getD_set_ne false (Ne.symm e)
      have hcnt : cnt (n + m) (Lf (listed.setIfInBounds i true)) = f := by
        have := cnt_set (L := Lf listed) (L' := Lf (listed.setIfInBounds i true)) (i := i) hLi (by rw [hLset]; simp) (fun j hj => by rw [hLset]; simp [hj]) (n + m)
        rw [if_pos hin1] at this
        omega
      unfold wpOpIn
      simp only [ho]
      by_cases hS : n ≤ i
      · -- a store
        obtain ⟨jS, rfl⟩ : ∃ jS, i = n + jS := ⟨i - n, by omega⟩
        have hjS : jS < m := by omega
        obtain ⟨oS, hoS, hSd, hSg, hSV⟩ := hstores jS hjS
        have : o2 = oS := by
          have h1 : l.toArray[n + jS]? = some oS := by simpa using hoS
          exact Option.some.inj (ho.symm.trans h1)
        subst this
        have chain : ∀ k k', k < k' → k' < m → n + k ∈ (depTab l.toArray (n + m)).getD (n + k') [] := fun k k' h1 h2 => by
          have := List.all_eq_true.1 (List.all_eq_true.1 hC k' (List.mem_range.2 h2)) k (List.mem_range.2 h1)
          simpa using this
        have sc0 : scU m (fun j => Lf listed (n + j)) = jS := scU_eq (by omega) fun k hk => by
          rcases Nat.lt_trichotomy k jS with h1 | h1 | h1
          · rw [depI (n + k) (chain k jS h1 hjS), decide_eq_true h1]
          · subst h1; rw [hLi]; simp
          · rw [depJ (n + k) (chain jS k h1 hk), decide_eq_false (by omega)]
        have sc1 : scU m (fun j => Lf (listed.setIfInBounds (n + jS) true) (n + j)) = jS + 1 := scU_eq (by omega) fun k hk => by
          show Lf (listed.setIfInBounds (n + jS) true) (n + k) = _
          rw [hLset]
          rcases Nat.lt_trichotomy k jS with h1 | h1 | h1
          · rw [depI (n + k) (chain k jS h1 hjS), decide_eq_true (show k < jS + 1 by omega)]; simp
          · subst h1; simp
          · rw [depJ (n + k) (chain jS k h1 hk), decide_eq_false (show ¬ k < jS + 1 by omega), decide_eq_false (show ¬ n + k = n + jS by omega)]; rfl
        rw [sc0] at hinv
        rw [show Region.wanted o2 (yielded l.toArray a.tmps) = true by simp [Region.wanted, hSg]]
        rw [if_pos rfl]
        have sameLook : ∀ u, u ∈ o2.looksAt l.toArray → look (stS (Lf listed) T 0 s).tm u = look (stS (fun _ => true) T 0 s).tm u := fun u hu =>
          look_stS T 0 s s rfl fun j tr hj hdu => by
            rw [Nat.zero_add]
            obtain ⟨hjn, oj, hoj, hjd⟩ := hTd j tr hj
            exact depI j ((hord (n + jS) o2 j oj u (by omega) (by omega) (by omega) ho hoj (hjd ▸ hdu) (.inl hu)).1 (by omega))
        refine wp_of_uponQ (hSV g w a.eval s.ow hinv.mem fun x hx => ?_) fun y w' hKy => ?_
        · have := rep_ev hinv.tm x
          rwa [ev_same (tm' := (stS (fun _ => true) T 0 s).tm) fun u hu => by subst hu; exact sameLook u (looksAt_op hx)] at this
        · obtain ⟨g', h1, h2⟩ := hKy
          have hi2 : Inv E g' ⟨(stS (Lf listed) T 0 s).tm, bls (jS + 1), s.ow⟩ a w' := ⟨h2, fun t => rep_goes h1 (hinv.tm t), hinv.de, hinv.sz⟩
          have htm : stS (Lf (listed.setIfInBounds (n + jS) true)) T 0 s = stS (Lf listed) T 0 s := by
            have : ∀ (T : List Tr) (k : Nat) (s : St), (∀ j, j < T.length → Lf (listed.setIfInBounds (n + jS) true) (k + j) = Lf listed (k + j)) → stS (Lf (listed.setIfInBounds (n + jS) true)) T k s = stS (Lf listed) T k s := by
              intro T
              induction T with
              | nil => intro k s _; rfl
              | cons t T ih =>
                intro k s hL
                simp only [stS]
                rw [show Lf (listed.setIfInBounds (n + jS) true) k = Lf listed k by simpa using hL 0 (by simp)]
                exact ih (k + 1) _ fun j hj => by have := hL (j + 1) (by simp; omega); rwa [show k + (j + 1) = k + 1 + j by omega] at this
            exact this T 0 s fun j hj => by
              rw [Nat.zero_add, hLset, decide_eq_false (by omega), Bool.false_or]
          have := ih (listed.setIfInBounds (n + jS) true) g' a w' hcnt (inv.set hi hin1) (by
            rw [htm, sc1]; exact hi2)
          rw [hSd]; exact this
      · have hin : i < n := by omega
        obtain ⟨o3, t, ho3, ho', ht⟩ := hopt i hin
        have : o3 = o2 := Option.some.inj (ho3.symm.trans ho)
        subst this
        obtain ⟨hd, hdst, hnb, hno, hrun⟩ := hstep i o3 t ho' ht
        have sameLook : ∀ u, u ∈ o3.looksAt l.toArray → look (stS (Lf listed) T 0 s).tm u = look (stS (fun j => decide (j < i)) T 0 s).tm u := fun u hu =>
          look_stS T 0 s s rfl fun j tr hj hdu => by
            rw [Nat.zero_add]
            obtain ⟨hjn, oj, hoj, hjd⟩ := hTd j tr hj
            rcases Nat.lt_trichotomy j i with h1 | h1 | h1
            · rw [decide_eq_true h1]
              exact depI j ((hord i o3 j oj u hin1 (by omega) (by omega) ho hoj (hjd ▸ hdu) (.inl hu)).1 h1)
            · subst h1; rw [hLi]; simp
            · rw [decide_eq_false (by omega)]
              exact depJ j ((hord i o3 j oj u hin1 (by omega) (by omega) ho hoj (hjd ▸ hdu) (.inl hu)).2 h1)
        have hdst' : ∀ k, t.d = some k → k < E.nt := fun k hk => dstB_spec hdst k (hd ▸ hk)
        have hLn : scU m (fun j => Lf (listed.setIfInBounds i true) (n + j)) = scU m (fun j => Lf listed (n + j)) := scU_congr fun k hk => by
          show Lf (listed.setIfInBounds i true) (n + k) = _
          rw [hLset, decide_eq_false (by omega), Bool.false_or]
        have next : ∀ (g' : Gh) (a' : Act) (w' : World), Inv E g' ⟨((stS (Lf listed) T 0 s).app t.d t.v [] []).tm, bls (scU m fun j => Lf listed (n + j)), s.ow⟩ a' w' → wpAnyIn (fo E.rd) 0 E.P .any l.toArray (post E Q) (f + (l.toArray.size - (n + m))) (listed.setIfInBounds i true) a' w' := by
          intro g' a' w' hinv'
          refine ih _ g' a' w' hcnt (inv.set hi hin1) ⟨by rw [hLn]; exact hinv'.mem, fun u => ?_, hinv'.de, hinv'.sz⟩
          have hu := hinv'.tm u
          have heq : look (stS (Lf (listed.setIfInBounds i true)) T 0 s).tm u = look ((stS (Lf listed) T 0 s).app t.d t.v [] []).tm u := by
            by_cases hdu : t.d = some u
            · have h1 : look ((stS (Lf listed) T 0 s).app t.d t.v [] []).tm u = t.v := by simp [St.app, hdu, look]
              rw [h1]
              refine look_last T 0 i s t ht hdu rfl (by rw [Nat.zero_add, hLset]; simp) fun j tr hj hij hdj => ?_
              rw [Nat.zero_add, hLset]
              obtain ⟨hjn, oj, hoj, hjd⟩ := hTd j tr hj
              have := depJ j ((hord i o3 j oj u hin1 (by omega) (by omega) ho hoj (hjd ▸ hdj) (.inr (hd ▸ hdu))).2 hij)
              rw [this]
              simp; omega
            · have h1 : look ((stS (Lf listed) T 0 s).app t.d t.v [] []).tm u = look (stS (Lf listed) T 0 s).tm u := by
                simp only [St.app]
                cases hdd : t.d with
                | none => rfl
                | some k =>
                  have : k ≠ u := fun e => hdu (by rw [hdd, e])
                  simp only [look]
                  cases hb : Nat.beq k u
                  · rfl
                  · exact absurd (Nat.eq_of_beq_eq_true hb) this
              rw [h1]
              refine look_stS T 0 s s rfl fun j tr hj hdj => ?_
              rw [Nat.zero_add, hLset]
              have : j ≠ i := fun e => by subst e; rw [ht] at hj; cases hj; exact hdu hdj
              simp [this]
          rw [heq]; exact hu
        have hguard : ∀ {j d b}, o3.guard = some (j, b) → (l.toArray[j]?).bind (·.dst) = some d → ∀ c, look (stS (fun j => decide (j < i)) T 0 s).tm d = .v (.bool c) → yielded l.toArray a.tmps j = some c := fun {j d b} hg hj c hc' => by
          have h1 := hinv.tm d
          simp only at h1
          rw [sameLook d (looksAt_guard hg hj), hc'] at h1
          simp only [rep] at h1
          exact yielded_of hj h1
        have operandsOk : ∀ x ∈ o3.op.operands, rep g w (ev (stS (fun j => decide (j < i)) T 0 s).tm x) (a.eval x) := fun x hx => by
          have := rep_ev hinv.tm x
          rwa [ev_same (tm' := (stS (fun j => decide (j < i)) T 0 s).tm) fun u hu => by subst hu; exact sameLook u (looksAt_op hx)] at this
        rcases hrun with ⟨hq, hg⟩ | ⟨hv, j, dd, b, hg, hj, hb⟩
        · have hw : Region.wanted o3 (yielded l.toArray a.tmps) = true := by
            rcases hg with hg | ⟨j, dd, b, hg, hj, hb⟩
            · simp [Region.wanted, hg]
            · simp [Region.wanted, hg, hguard hg hj b hb]
          rw [hw]
          rw [if_pos rfl]
          have hsub : ∀ p ∈ pickB [] (0 + i) blc, p ∈ (bls (scU m fun j => Lf listed (n + j))) := fun p hp => hc0 _ (scU_le _ _) p (by simpa [pickB, inL] using hp)
          refine wp_of_uponQ (hq g w a.eval (bls (scU m fun j => Lf listed (n + j))) s.ow hinv.mem hsub (fun p hp => by simp at hp) (fun k hk => by simp at hk) operandsOk) fun y w' hKy => ?_
          obtain ⟨g', h1, h2, h3⟩ := hKy
          have := hinv.app (d := t.d) (nb := []) (no := []) hdst' h1 h2 h3
          rw [hd] at this
          exact next g' _ w' (by rw [hd]; exact this)
        · have hw : Region.wanted o3 (yielded l.toArray a.tmps) = false := by
            simp [Region.wanted, hg, hguard hg hj b hb]
          rw [hw]
          have := hinv.app (d := t.d) (v := t.v) (y := undef) (nb := []) (no := []) hdst' (Goes.refl g w) hinv.mem (by rw [hv]; simp [rep])
          rw [hd] at this
          exact ⟨fun _ _ => trivial, next g _ w (by rw [hd]; exact this)⟩
  refine wpIn_region_any hm ?_
  have inv0 : HeadInv .any l.toArray (n + m) (Array.replicate l.toArray.size false) :=
    ⟨by simp, fun j oj _ hl => (by rw [getD_replicate_false] at hl; cases hl), fun t _ ht => getD_in (by simpa using ht) (getD_replicate_false _ _)⟩
  have hL0 : Lf (Array.replicate l.toArray.size false) = fun _ => false := by funext i; exact getD_replicate_false _ _
  have := main (n + m) (Array.replicate l.toArray.size false) g0 a0 { w00 with drawn := w00.drawn + 1 } (by rw [hL0]; exact cnt_false (n + m)) inv0 ?_
  · rwa [show n + m + (l.toArray.size - (n + m)) = l.toArray.size by omega] at this
  · rw [hL0]
    have zero : ∀ (T : List Tr) (i : Nat) (s : St), stS (fun _ => false) T i s = s := by
      intro T
      induction T with
      | nil => intro i s; rfl
      | cons t T ih => intro i s; simp only [stS, cond_false]; exact ih _ s
    rw [zero, scU_eq (j := 0) (Nat.zero_le _) (fun k hk => by simp), h0]
    exact hi0.drew
/-- Four stores at the end. -/
theorem wdraw4 {E : En} {id : Nat} {l hd tl : List Oper} {o0 o1 o2 o3 : Oper} {Q : Exit → St → Prop} {tm : List (Nat × AV)} {bl : List (Nat × List AV)} {ow : List Nat} (n : Nat) (blc b1 b2 b3 b4 : List (Nat × List AV)) (hm : E.P.follows .mixedOrders = true) (hB : headB l.toArray (n + 4) = true) (hT : tailB l.toArray (n + 4) = true) (hC : chainM l.toArray n 4 = true) (hs : splitO n l = some (hd, o0 :: o1 :: o2 :: o3 :: tl))
    (hc : ∀ p ∈ blc, p ∈ bl ∧ p ∈ b1 ∧ p ∈ b2 ∧ p ∈ b3 ∧ p ∈ b4)
    (h : HS E l.toArray blc [] 0 hd ⟨tm, bl, ow⟩ (fun s' => SV E s'.tm bl o0 b1 ∧ SV E s'.tm b1 o1 b2 ∧ SV E s'.tm b2 o2 b3 ∧ SV E s'.tm b3 o3 b4 ∧ WL E l.toArray tl Q ⟨s'.tm, b4, s'.ow⟩)) : W E (.region id l.toArray true) Q ⟨tm, bl, ow⟩ := by
  obtain ⟨h1, h2⟩ := splitO_eq hs
  have hd4 : l.drop (n + 4) = tl := by
    have : (l.drop n).drop 4 = tl := by rw [h2]; rfl
    simpa [List.drop_drop] using this
  have hj : ∀ j, l[n + j]? = (o0 :: o1 :: o2 :: o3 :: tl)[j]? := fun j => by rw [← h2, List.getElem?_drop]
  refine W_drawM n 4 blc (fun j => match j with | 0 => bl | 1 => b1 | 2 => b2 | 3 => b3 | _ => b4) hm hB hT hC rfl (fun j hj p hp => ?_) ?_
  · obtain ⟨k0, k1, k2, k3, k4⟩ := hc p hp
    match j, hj with
    | 0, _ => exact k0
    | 1, _ => exact k1
    | 2, _ => exact k2
    | 3, _ => exact k3
    | 4, _ => exact k4
  · rw [h1]
    have mono : ∀ (hd : List Oper) (k : Nat) (s : St) (K K' : St → Prop), (∀ s, K s → K' s) → HS E l.toArray blc [] k hd s K → HS E l.toArray blc [] k hd s K' := by
      intro hd
      induction hd with
      | nil => intro k s K K' hK h; exact hK _ h
      | cons o hd ih =>
        intro k s K K' hK h
        rcases h with ⟨v, h1, h2, h4, h5⟩ | ⟨j, d, b, h1, h2, h3, h4, h5⟩
        · exact .inl ⟨v, h1, h2, h4, ih _ _ _ _ hK h5⟩
        · exact .inr ⟨j, d, b, h1, h2, h3, h4, ih _ _ _ _ hK h5⟩
    refine mono _ _ _ _ _ (fun s' ⟨s0, s1, s2, s3, hw⟩ => ⟨fun j hjm => ?_, by rw [hd4]; exact hw⟩) h
    match j, hjm with
    | 0, _ => exact ⟨o0, hj 0, s0⟩
    | 1, _ => exact ⟨o1, hj 1, s1⟩
    | 2, _ => exact ⟨o2, hj 2, s2⟩
    | 3, _ => exact ⟨o3, hj 3, s3⟩
theorem svst {E : En} {tm : List (Nat × AV)} {ty : TypeId} {pos : String} {af : Array Edge} {v : AV} {x y : Operand} {t nn o sz : Nat} {ag : Bool} {cs ds r : List AV} {bl bl' : List (Nat × List AV)} [ht : TyOk E.P t ag sz] (hx : ev tm x = .ptr nn o) (hy : evO tm y = some v) (hb : lookB bl nn = some cs) (hro : nn ∉ E.ron)
    (hc : isC v = true) (ha : acellsO v = some ds) (hall : ds.all isCell = true) (hl : Nat.beq ds.length sz = true) (hp : putO cs o ds = some r) (hs : setBO bl nn r = some bl') : SV E tm bl ⟨none, .store t x y, ty, pos, af, none⟩ bl' := by
  obtain ⟨h1, h2⟩ := putO_eq hp
  have e := acellsO_eq ha
  have e2 := Nat.eq_of_beq_eq_true hl
  have := SV_store (ty := ty) (pos := pos) (af := af) (t := t) (x := x) (y := y) hx (evO_ev hy) hb hro hc (by rw [e]; exact hall) (by rw [e]; exact e2) (by omega)
  rw [e, h2, setBO_eq hs] at this
  exact this
end Go.Eng

namespace Go.Eng
open Go

/-- Only new blocks have been made. -/
theorem Mem.later {E : En} {g : Gh} {bl : List (Nat × List AV)} {ow : List Nat} {w w' : World} (hm : Mem E g bl ow w) (hB : BelowM w.heap.size (fun _ => False) w w') : Goes g w g w' ∧ Mem E g bl ow w' := by
  have heap : ∀ k, k < w.heap.size → w'.heap[k]? = w.heap[k]? := fun k hk => hB.block k hk (fun h => h)
  have hsz := hB.size
  have keeps : Keeps g.I w w' := fun b o hb => World.cell?_of_block (a := ⟨b, o, none⟩) (heap b (cell_lt (hm.cell b o hb)))
  have goes : Goes g w g w' := ⟨fun _ _ h => h, keeps, fun _ _ h => h, fun _ _ _ => rfl, fun k T' e' rows' y' hy' => ownRep_goes (g := g) (g' := g) (fun _ _ h => h) keeps (fun k hk => ⟨hk, rfl⟩) (fun k b' k1 k2 => heap b' (hm.ofr k b' k1 k2).2) (fun _ _ _ _ _ h => h) hy'⟩
  exact ⟨goes, { below := ⟨hB.os.trans hm.below.os, hB.tape.trans hm.below.tape, hB.output.trans hm.below.output, Nat.le_trans hm.below.size hsz, fun k hk hM => (heap k (Nat.lt_of_lt_of_le hk hm.base)).trans (hm.below.block k hk hM)⟩
                 base := Nat.le_trans hm.base hsz, cell := fun b' o hbo => by rw [keeps b' o hbo]; exact hm.cell b' o hbo, mfr := fun k b' hk => ⟨(hm.mfr k b' hk).1, Nat.lt_of_lt_of_le (hm.mfr k b' hk).2 hsz⟩
                 ofr := fun k b' k1 k2 => ⟨(hm.ofr k b' k1 k2).1, Nat.lt_of_lt_of_le (hm.ofr k b' k1 k2).2 hsz⟩, minj := hm.minj, oinj := hm.oinj, disj := hm.disj
                 blk := fun k ds hk => let ⟨b', arr', q1, q2, q3, q4⟩ := hm.blk k ds hk; ⟨b', arr', q1, (heap b' (hm.mfr k b' q1).2).trans q2, reps_goes goes q3, q4⟩
                 key := hm.key, own := hm.own, inew := hm.inew, iold := hm.iold, pin := hm.pin }⟩
/-- A block that nobody names becomes the array N. -/
theorem Mem.adopt {E : En} {g : Gh} {bl : List (Nat × List AV)} {ow : List Nat} {w : World} (hm : Mem E g bl ow w) {N T b : Nat} {cs : List AV} {arr : Array Value} (hN : ∀ q ∈ bl, q.1 ≠ N) (hbB : E.B ≤ b) (hb : w.heap[b]? = some (.cells arr T (0, 0))) (hpl : ∀ x ∈ cs, plain x = true) (hr : reps g w cs arr.toList)
    (hfm : ∀ k, g.m k ≠ some b) (hfo : ∀ k, g.ow k → g.om k ≠ some b) (hfI : ∀ o, ¬ g.I b o) : ∃ gc, Goes g w gc w ∧ Mem E gc ((N, cs) :: bl) ow w ∧ gc.m N = some b ∧ gc.mt N = T ∧ (∀ k, k ≠ N → gc.m k = g.m k) ∧ gc.ow = g.ow ∧ gc.om = g.om ∧ gc.I = g.I := by
  have hlt : b < w.heap.size := (Array.getElem?_eq_some_iff.1 hb).1
  have hnone : g.m N = none := by
    cases hmN : g.m N with
    | none => rfl
    | some b' => obtain ⟨cs, hc⟩ := hm.key N b' hmN; exact absurd rfl (hN _ hc)
  let gc : Gh := { g with m := fun k => if k = N then some b else g.m k, mt := fun k => if k = N then T else g.mt k }
  have hmm : ∀ k b', gc.m k = some b' → (k = N ∧ b' = b) ∨ (k ≠ N ∧ g.m k = some b') := fun k b' hk => by
    by_cases e : k = N
    · simp only [gc, e, if_true, Option.some.injEq] at hk; exact .inl ⟨e, hk.symm⟩
    · simp only [gc, e, if_false] at hk; exact .inr ⟨e, hk⟩
  have goes : Goes g w gc w := by
    refine ⟨fun _ _ h => h, fun _ _ _ => rfl, fun k b' hk => ?_, fun k b' hk => ?_, fun k T' e' rows' y' hy' => ownRep_goes (g := g) (g' := gc) (fun _ _ h => h) (fun _ _ _ => rfl) (fun k hk => ⟨hk, rfl⟩) (fun k b' k1 k2 => rfl) (fun _ _ _ _ _ h => h) hy'⟩
    · have : k ≠ N := fun e => by rw [e, hnone] at hk; cases hk
      simp only [gc, this, if_false]; exact hk
    · have : k ≠ N := fun e => by rw [e, hnone] at hk; cases hk
      simp only [gc, this, if_false]
  refine ⟨gc, goes, ?_, by simp only [gc, if_true], by simp only [gc, if_true], fun k hk => by simp only [gc, hk, if_false], rfl, rfl, rfl⟩
  exact { below := hm.below, base := hm.base, cell := hm.cell
          mfr := fun k b' hk => by
            rcases hmm k b' hk with ⟨rfl, rfl⟩ | ⟨_, k2⟩
            · exact ⟨.inr (.inl hbB), hlt⟩
            · exact hm.mfr k b' k2
          ofr := hm.ofr
          minj := fun k k' b' k1 k2 => by
            rcases hmm k b' k1 with ⟨rfl, rfl⟩ | ⟨_, k3⟩ <;> rcases hmm k' _ k2 with ⟨rfl, k4⟩ | ⟨_, k4⟩
            · rfl
            · exact absurd k4 (hfm k')
            · subst k4; exact absurd k3 (hfm k)
            · exact hm.minj k k' b' k3 k4
          oinj := hm.oinj
          disj := fun k k' b' k1 k2 k3 => by
            rcases hmm k b' k1 with ⟨rfl, rfl⟩ | ⟨_, k4⟩
            · exact hfo k' k2 k3
            · exact hm.disj k k' b' k4 k2 k3
          blk := fun k ds hk => by
            rcases List.mem_cons.1 hk with hk | hk
            · cases hk
              exact ⟨b, arr, by simp only [gc, if_true], by simp only [gc, if_true]; exact hb, reps_plain hpl hr, hfI⟩
            · obtain ⟨b', arr', q1, q2, q3, q4⟩ := hm.blk k ds hk
              exact ⟨b', arr', goes.m k b' q1, by rw [goes.mt k b' q1]; exact q2, reps_goes goes q3, q4⟩
          key := fun k b' hk => by
            rcases hmm k b' hk with ⟨rfl, rfl⟩ | ⟨_, k2⟩
            · exact ⟨_, List.mem_cons_self ..⟩
            · obtain ⟨cs, hc⟩ := hm.key k b' k2; exact ⟨cs, List.mem_cons_of_mem _ hc⟩
          own := hm.own, inew := hm.inew, iold := hm.iold
          pin := fun k b' T' hp => ⟨goes.m k b' (hm.pin k b' T' hp).1, (goes.mt k b' (hm.pin k b' T' hp).1).trans (hm.pin k b' T' hp).2⟩ }
/-- What lies in the block of a slice of a callee's own. -/
theorem own_cells {g : Gh} {w : World} {n T e : Nat} {rows : List (List AV)} {y : Value} (hu : ownRep g w n T e rows y) (h0 : 0 < rows.length) (hpl : ∀ x ∈ rows.flatten, plain x = true) : ∃ b c arr more, g.om n = some b ∧ y = .slice (some ⟨b, 0, none⟩) rows.length c ∧ rows.length ≤ c ∧ w.heap[b]? = some (.cells arr T (0, 0)) ∧ MoreOk e more ∧ reps g w (rows ++ more).flatten arr.toList := by
  obtain ⟨b, c, arr, b1, b2, b3, b4, b5, b6, b7⟩ := own_here hu h0
  have hl : ∀ r ∈ rows, r.length = e := by obtain ⟨_, _, _, _, _, hl, _⟩ := hu; exact hl
  let more : List (List AV) := List.replicate (c - rows.length) (List.replicate e .top)
  have hmore : MoreOk e more := fun r hr => by
    rw [List.eq_of_mem_replicate hr]
    exact ⟨by simp, fun x hx => by rw [List.eq_of_mem_replicate hx]; rfl⟩
  have hml : more.flatten.length = (c - rows.length) * e := by
    rw [flatten_length (e := e) (fun r hr => (hmore r hr).1)]; simp [more]
  have hce : c * e = rows.length * e + (c - rows.length) * e := by rw [← Nat.add_mul]; congr 1; omega
  refine ⟨b, c, arr, more, b1, b2, b3, b5, hmore, ?_⟩
  rw [List.flatten_append, ← List.take_append_drop (rows.length * e) arr.toList]
  refine reps_append (reps_plain (g := g) (w := w) hpl (reps_of_dreps b7)) (reps_tops _ _ ?_ ?_)
  · rw [List.all_eq_true]
    intro x hx
    obtain ⟨r, hr, hx⟩ := List.mem_flatten.1 hx
    rw [List.eq_of_mem_replicate hr] at hx
    rw [List.eq_of_mem_replicate hx]; rfl
  · have ea : arr.toList.length = arr.size := by simp
    rw [hml, List.length_drop, ea, b6]; omega
section
variable {E : En} {ops : Array Oper} {rest : List Oper} {Q : Exit → St → Prop} {tm : List (Nat × AV)} {bl : List (Nat × List AV)} {ow : List Nat} {d : Nat} {ty : TypeId} {pos : String} {af : Array Edge}
theorem wlmu2 {x : Operand} {xs : Array Operand} {ts : Array TypeId} {f n T e n' T' e' N N' : Nat} {b : Value} {ys : List AV} {rows rows' : List (List AV)} {len len' : Nat} [hf : FnOk E.P f] (h : CallOk E.P f ys (fun r' => r' = .tup [.agg [.own n T e rows, .own n' T' e' rows'], .v b])) (hnn : Nat.beq n n' = false) (hN : Nat.ble 1000000 N = true) (hN' : Nat.ble 1000000 N' = true) (hNN : Nat.beq N N' = false) (h0 : 0 < rows.length) (h0' : 0 < rows'.length) (hpl : ∀ x ∈ rows.flatten, plain x = true) (hpl' : ∀ x ∈ rows'.flatten, plain x = true)
    (hx : ev tm x = .v (.func (.func f) #[] #[])) (ha : LeS bl (xs.toList.map (ev tm)) ys) (hlen : rows.length = len) (hlen' : rows'.length = len') (hd : Nat.blt d E.nt = true) (hfr : bl.all (fun q => !Nat.beq q.1 N && !Nat.beq q.1 N') = true)
    (hk : ∀ more more', MoreOk e more → MoreOk e' more' → WL E ops rest Q ⟨(d, .tup [.agg [.arr N T e len, .arr N' T' e' len'], .v b]) :: tm, (N', (rows' ++ more').flatten) :: (N, (rows ++ more).flatten) :: bl, ow⟩) :
    WL E ops (⟨some d, .call ⟨.value x, xs, ts⟩, ty, pos, af, none⟩ :: rest) Q ⟨tm, bl, ow⟩ := by
  subst hlen; subst hlen'
  intro g a w hi
  unfold wpListIn
  rw [show Region.wanted ⟨some d, .call ⟨.value x, xs, ts⟩, ty, pos, af, none⟩ (yielded ops a.tmps) = true by simp [Region.wanted]]
  refine wpIn_of_wp (fun _ h => by cases h) ?_
  have h1 := rep_ev hi.tm x
  have h2 : reps g w (xs.toList.map (ev tm)) (xs.toList.map a.eval) := reps_map _ fun y _ => rep_ev hi.tm y
  rw [hx] at h1
  simp only [rep] at h1
  obtain ⟨fn, f1, f2, f3⟩ := hf.ok
  have f2' : fn.name ≠ "runtime.NumGoroutine" := by simpa using f2
  have f3' : fn.body ≠ none := fun e => by rw [e] at f3; simp at f3
  have hrun : (execOp a.eval ⟨some d, .call ⟨.value x, xs, ts⟩, ty, pos, af, none⟩).run E.P w = .ok (.enter f (xs.map a.eval)) w := by
    simp [execOp, resolve, Deferred.ofValue, h1, invoke, callFunc, f1, f2', f3']
  unfold Oper.wp
  rw [hrun]
  have hm := hi.mem
  refine (h (seen g w) w (xs.map a.eval) (seen_cell hm) (by rw [Array.toList_map]; exact dreps_leS hm (fun _ h => h) ha h2)).mono fun e' w' he => ?_
  obtain ⟨y, r', g', rfl, rfl, h3, h4⟩ := he
  simp only [rep, reps] at h3
  obtain ⟨A, rfl, y1, z1, eA, ⟨A2, rfl, u1, v1, eA2, hu, u2, v2, rfl, hu', rfl⟩, y2, z2, rfl, h9, rfl⟩ := h3
  obtain ⟨b1, c1, arr1, more, k1, rfl, k3, k4, k5, k6⟩ := own_cells hu h0 hpl
  obtain ⟨b2, c2, arr2, more', l1, rfl, l3, l4, l5, l6⟩ := own_cells hu' h0' hpl'
  have hb1 := h4.own n b1 hu.1 k1
  have hb2 := h4.own n' b2 hu'.1 l1
  have hne : b1 ≠ b2 := fun e => by
    subst e
    have := h4.inj n n' b1 hu.1 hu'.1 k1 l1
    rw [this] at hnn; simp at hnn
  obtain ⟨go, m0⟩ := hm.later h4.below
  have fresh : ∀ k b', g.m k = some b' → b' < w.heap.size := fun k b' hk => (hm.mfr k b' hk).2
  have hIlt : ∀ b o, g.I b o → b < w.heap.size := fun b o hb => cell_lt (hm.cell b o hb)
  have pm : ∀ {e : Nat} {more : List (List AV)}, MoreOk e more → ∀ rs : List (List AV), (∀ x ∈ rs.flatten, plain x = true) → ∀ x ∈ (rs ++ more).flatten, plain x = true := fun hmore rs hr x hx => by
    rw [List.flatten_append, List.mem_append] at hx
    rcases hx with hx | hx
    · exact hr x hx
    · obtain ⟨l, hl, hx⟩ := List.mem_flatten.1 hx
      exact (hmore l hl).2 x hx
  have hfr1 : ∀ q ∈ bl, q.1 ≠ N ∧ q.1 ≠ N' := fun q hq => by
    have := List.all_eq_true.1 hfr q hq
    simp only [Bool.and_eq_true, Bool.not_eq_true'] at this
    exact ⟨fun e => by rw [e] at this; simp at this, fun e => by rw [e] at this; simp at this⟩
  have hNN' : N ≠ N' := fun e => by rw [e] at hNN; simp at hNN
  obtain ⟨g1, go1, m1, q1, q2, q3, q4, q5, q6⟩ := m0.adopt (N := N) (fun q hq => (hfr1 q hq).1) (Nat.le_trans hm.base hb1.1) k4 (pm k5 rows hpl) (reps_plain (g' := g) (w' := w') (pm k5 rows hpl) k6) (fun k hk => by have := fresh k b1 hk; omega) (fun k hk hk2 => by have := (hm.ofr k b1 hk hk2).2; omega) (fun o ho => by have := hIlt b1 o ho; omega)
  obtain ⟨g2, go2, m2, r1, r2, r3, r4, r5, r6⟩ := m1.adopt (N := N') (cs := (rows' ++ more').flatten) (fun q hq => by
      rcases List.mem_cons.1 hq with rfl | hq
      · exact hNN'
      · exact (hfr1 q hq).2) (Nat.le_trans hm.base hb2.1) l4 (pm l5 rows' hpl') (reps_plain (g' := g1) (w' := w') (pm l5 rows' hpl') l6) (fun k hk => by
      by_cases e : k = N
      · rw [e, q1] at hk; cases hk; exact hne rfl
      · rw [q3 k e] at hk; have := fresh k b2 hk; omega) (fun k hk hk2 => by rw [q4] at hk; rw [q5] at hk2; have := (hm.ofr k b2 hk hk2).2; omega) (fun o ho => by rw [q6] at ho; have := hIlt b2 o ho; omega)
  have goes := (go.trans go1).trans go2
  have hz : rep g2 w' (.tup [.agg [.arr N T e rows.length, .arr N' T' e' rows'.length], .v b]) (.tuple A) := by
    simp only [rep, reps]
    refine ⟨A, rfl, _, _, eA, ⟨A2, rfl, _, _, eA2, ⟨b1, c1, go2.m N b1 q1, (go2.mt N b1 q1).trans q2, rfl, k3, fun h => by have := Nat.le_of_ble_eq_true hN; omega⟩, _, _, rfl, ⟨b2, c2, r1, r2, rfl, l3, fun h => by have := Nat.le_of_ble_eq_true hN'; omega⟩, rfl⟩, _, _, rfl, h9, rfl⟩
  have := hi.app (d := some d) (v := .tup [.agg [.arr N T e rows.length, .arr N' T' e' rows'.length], .v b]) (y := .tuple A) (nb := [(N', (rows' ++ more').flatten), (N, (rows ++ more).flatten)]) (no := []) (fun k hk => by cases hk; exact Nat.le_of_ble_eq_true hd) goes (by simpa using m2) hz
  exact hk more more' k5 l5 g2 _ w' this
end
section
variable {E : En} {bl : List (Nat × List AV)} {tm : List (Nat × AV)} {d : Option Tmp} {ty : TypeId} {pos : String} {af : Array Edge} {gd : Option (Nat × Bool)}
/-- A call whose result holds two slices of its own, and they stay so. -/
theorem q_call2 {x : Operand} {xs : Array Operand} {ts : Array TypeId} {f : Nat} {ys : List AV} {r v : AV} (k n n' : Nat) [hf : FnOk E.P f] (h : CallOk E.P f ys (fun r' => r' = r)) (hx : ev tm x = .v (.func (.func f) #[] #[])) (ha : LeDs (xs.toList.map (ev tm)) ys) (ho : ownsIn [n, n'] r = true) (hv : renO k r = some v) :
    QV E bl tm ⟨d, .call ⟨.value x, xs, ts⟩, ty, pos, af, gd⟩ v [] [k + n, k + n'] := by
  have := QV_call (E := E) (bl := bl) (tm := tm) (d := d) (ty := ty) (pos := pos) (af := af) (gd := gd) (ts := ts) k [n, n'] h hx ha ho
  rw [renO_eq] at hv
  rw [← Option.some.inj hv]; exact this
end
section
variable {E : En} {ops : Array Oper} {rest : List Oper} {Q : Exit → St → Prop} {tm : List (Nat × AV)} {bl : List (Nat × List AV)} {ow : List Nat} {d n n' : Nat} {op : Op} {ty : TypeId} {pos : String} {af : Array Edge} {gd : Option (Nat × Bool)} {v : AV}
theorem wln2 (h : QV E bl tm ⟨some d, op, ty, pos, af, none⟩ v [] [n, n']) (hd : Nat.blt d E.nt = true) (hf : (ow.all fun k => !Nat.beq n k && !Nat.beq n' k) = true) (hk : WL E ops rest Q ⟨(d, v) :: tm, bl, n :: n' :: ow⟩) : WL E ops (⟨some d, op, ty, pos, af, none⟩ :: rest) Q ⟨tm, bl, ow⟩ := by
  refine WL_t (s' := ⟨(d, v) :: tm, bl, n :: n' :: ow⟩) rfl (fun g a w hi next Q hn => ?_) hk
  refine wp_of_uponQ (h g w a.eval bl ow hi.mem (fun p hp => hp) (fun p hp => by simp at hp) (fun k hk hm => ?_) (fun x _ => rep_ev hi.tm x)) fun y w' hK => ?_
  · have := List.all_eq_true.1 hf k hm
    simp only [Bool.and_eq_true, Bool.not_eq_true'] at this
    simp only [List.mem_cons, List.not_mem_nil, or_false] at hk
    rcases hk with rfl | rfl
    · have := this.1; simp at this
    · have := this.2; simp at this
  · obtain ⟨g', h1, h2, h3⟩ := hK
    have hd' : ∀ k, some d = some k → k < E.nt := fun k hk => by cases hk; exact Nat.le_of_ble_eq_true hd
    have := hi.app (d := some d) (nb := []) (no := [n, n']) hd' h1 h2 h3
    exact hn _ _ _ this
end
end Go.Eng

namespace Go.Eng
open Go Go.RowKit

/-- Objects that are no cells may turn. -/
theorem Mem.carry {P : Program} {B : Nat} {w0 w0' : World} {nt : Nat} {M : Nat → Prop} {ron : List Nat} {I0 : Nat → Nat → Prop} {pin : Nat → Nat → Nat → Prop} {rd rd' : Option Nat} {df df' : List Deferred} {g : Gh} {bl : List (Nat × List AV)} {ow : List Nat} {w w' : World} {row : Option Nat}
    (h : Mem ⟨P, B, w0, nt, M, ron, I0, pin, rd, df⟩ g bl ow w) (hg : w.grownBy w' row) (hr : ∀ r, row = some r → ∃ o : Obj, w.heap[r]? = some o ∧ o.isCells = false) (hb : BelowM B M w0' w') :
    Mem ⟨P, B, w0', nt, M, ron, I0, pin, rd', df'⟩ g bl ow w' ∧ Goes g w g w' := by
  have keeps : Keeps g.I w w' := fun b o hI => by
    obtain ⟨v, hv⟩ := Option.isSome_iff_exists.1 (h.cell b o hI)
    rw [hv]
    exact cell_kept hv hg hr
  have hc : ∀ {k : Nat} {arr : Array Value} {T : TypeId} {fr : Nat × Nat}, w.heap[k]? = some (.cells arr T fr) → w'.heap[k]? = some (.cells arr T fr) := fun hk => (grownBy_keeps_cells hg hr hk rfl).trans hk
  have goes : Goes g w g w' := ⟨fun _ _ h => h, keeps, fun _ _ h => h, fun _ _ _ => rfl, fun n T e rows y hy => by
    obtain ⟨h1, h2, xs, h3, h4, h5, h6⟩ := hy
    refine ⟨h1, h2, xs, ⟨h3.1, ?_⟩, dreps_mono (fun _ _ h => h) keeps h4, h5, h6⟩
    rcases h3.2 with h7 | ⟨b, cap, cur, rfl, k1, k2, k3⟩
    · exact .inl h7
    · exact .inr ⟨b, cap, cur, rfl, k1, hc k2, k3⟩⟩
  exact ⟨{ below := hb, base := Nat.le_trans h.base hg.size, cell := fun b o hI => by rw [keeps b o hI]; exact h.cell b o hI, mfr := fun n b hn => ⟨(h.mfr n b hn).1, Nat.lt_of_lt_of_le (h.mfr n b hn).2 hg.size⟩,
           ofr := fun n b h1 h2 => ⟨(h.ofr n b h1 h2).1, Nat.lt_of_lt_of_le (h.ofr n b h1 h2).2 hg.size⟩, minj := h.minj, oinj := h.oinj, disj := h.disj,
           blk := fun n cs hn => let ⟨b, arr, h1, h2, h3, h4⟩ := h.blk n cs hn; ⟨b, arr, h1, hc h2, reps_goes goes h3, h4⟩, key := h.key, own := h.own, inew := h.inew, iold := h.iold, pin := h.pin }, goes⟩

theorem Mem.re {P : Program} {B : Nat} {w0 : World} {nt : Nat} {M : Nat → Prop} {ron : List Nat} {I0 : Nat → Nat → Prop} {pin : Nat → Nat → Nat → Prop} {rd rd' : Option Nat} {df df' : List Deferred} {g : Gh} {bl : List (Nat × List AV)} {ow : List Nat} {w : World}
    (h : Mem ⟨P, B, w0, nt, M, ron, I0, pin, rd, df⟩ g bl ow w) : Mem ⟨P, B, w0, nt, M, ron, I0, pin, rd', df'⟩ g bl ow w :=
  ⟨h.below, h.base, h.cell, h.mfr, h.ofr, h.minj, h.oinj, h.disj, h.blk, h.key, h.own, h.inew, h.iold, h.pin⟩
theorem foldl_set_size : ∀ (l : List (Nat × Value)) (a : Array Value), (l.foldl (fun t p => t.setIfInBounds p.1 p.2) a).size = a.size
  | [], _ => rfl
  | p :: l, a => by rw [List.foldl_cons, foldl_set_size l]; simp
theorem afoldl_set_size {l : Array (Nat × Value)} {a : Array Value} : (l.foldl (fun t (p, v) => t.setIfInBounds p v) a).size = a.size := by
  rw [← Array.foldl_toList]; exact foldl_set_size _ _
theorem BelowM.trans' {B : Nat} {M : Nat → Prop} {a b c : World} (h : BelowM B M a b) (k : BelowM B M b c) : BelowM B M a c :=
  ⟨k.os.trans h.os, k.tape.trans h.tape, k.output.trans h.output, Nat.le_trans h.size k.size, fun j hj hM => (k.block j hj hM).trans (h.block j hj hM)⟩
theorem BelowM.grown {B : Nat} {M : Nat → Prop} {w w' : World} {row : Option Nat} (hg : w.grownBy w' row) (hB : B ≤ w.heap.size) (hr : ∀ r, row = some r → B ≤ r ∨ M r) : BelowM B M w w' :=
  ⟨hg.os, hg.tape, hg.output, hg.size, fun k hk hM => hg.block k (Nat.lt_of_lt_of_le hk hB) fun e => (hr k e.symm).elim (fun h => by omega) hM⟩
/-- One object that is no cells becomes another one, in both worlds. -/
theorem BelowM.put {B : Nat} {M : Nat → Prop} {w0 w : World} (h : BelowM B M w0 w) {l : Nat} (o : Obj) (h0 : l < w0.heap.size) : BelowM B M (w0.putObj l o) (w.putObj l o) :=
  ⟨h.os, h.tape, h.output, by simpa using h.size, fun k hk hM => by
    by_cases e : k = l
    · subst e
      rw [World.putObj_heap_same h0, World.putObj_heap_same (Nat.lt_of_lt_of_le h0 h.size)]
    · rw [World.putObj_heap_other e, World.putObj_heap_other e]; exact h.block k hk hM⟩
theorem BelowM.back {B : Nat} {M : Nat → Prop} {w0 w : World} {l : Nat} {o o' : Obj} (h : BelowM B M (w0.putObj l o) w) (h0 : w0.heap[l]? = some o') : BelowM B M w0 (w.putObj l o') :=
  ⟨h.os, h.tape, h.output, by simpa using h.size, fun k hk hM => by
    have hl : l < w0.heap.size := (Array.getElem?_eq_some_iff.1 h0).1
    by_cases e : k = l
    · subst e
      rw [World.putObj_heap_same (Nat.lt_of_lt_of_le hl (by simpa using h.size)), h0]
    · rw [World.putObj_heap_other e, h.block k hk hM, World.putObj_heap_other e]⟩

/-- The call's own blocks. -/
def Ob (g : Gh) (b : Nat) : Prop := (∃ n, g.m n = some b) ∨ ∃ n, g.ow n ∧ g.om n = some b
abbrev E0 (P : Program) (w0 : World) (nt : Nat) (I0 : Nat → Nat → Prop) (rd : Option Nat) (df : List Deferred) : En := ⟨P, w0.heap.size, w0, nt, fun _ => False, [], I0, fun _ _ _ => False, rd, df⟩
section
variable {P : Program} {w0 : World} {nt : Nat} {I0 : Nat → Nat → Prop} {rd : Option Nat} {df : List Deferred} {g : Gh} {bl : List (Nat × List AV)} {ow : List Nat} {w : World}
theorem ob_new (h : Mem (E0 P w0 nt I0 rd df) g bl ow w) {b : Nat} (hb : Ob g b) : w0.heap.size ≤ b ∧ b < w.heap.size := by
  rcases hb with ⟨n, hn⟩ | ⟨n, h1, h2⟩
  · have h3 := (h.mfr n b hn).1
    simp only [List.not_mem_nil, false_or, or_false] at h3
    exact ⟨h3, (h.mfr n b hn).2⟩
  · have h3 := (h.ofr n b h1 h2).1
    simp only [or_false] at h3
    exact ⟨h3, (h.ofr n b h1 h2).2⟩
theorem Mem.reroot (h : Mem (E0 P w0 nt I0 rd df) g bl ow w) {pin : Nat → Nat → Nat → Prop} (hp : ∀ n b T, pin n b T → g.m n = some b ∧ g.mt n = T) (rd' : Option Nat) (df' : List Deferred) :
    Mem ⟨P, w.heap.size, w, nt, Ob g, [], g.I, pin, rd', df'⟩ g bl ow w :=
  { below := BelowM.refl _ _ _, base := Nat.le_refl _, cell := h.cell, mfr := fun n b hn => ⟨.inr (.inr (.inl ⟨n, hn⟩)), (h.mfr n b hn).2⟩, ofr := fun n b h1 h2 => ⟨.inr (.inr ⟨n, h1, h2⟩), (h.ofr n b h1 h2).2⟩,
    minj := h.minj, oinj := h.oinj, disj := h.disj, blk := h.blk, key := h.key, own := h.own, inew := fun _ _ h => .inl h, iold := fun _ _ h => h, pin := hp }
/-- Back to the call's beginning. -/
theorem Mem.unroot {g' : Gh} {bl' : List (Nat × List AV)} {ow' : List Nat} {w' w1 : World} {pin : Nat → Nat → Nat → Prop} {rd' : Option Nat} {df' : List Deferred} (h : Mem (E0 P w0 nt I0 rd df) g bl ow w)
    (h' : Mem ⟨P, w.heap.size, w1, nt, Ob g, [], g.I, pin, rd', df'⟩ g' bl' ow' w') (h1 : BelowM w0.heap.size (fun _ => False) w0 w1) (rd2 : Option Nat) (df2 : List Deferred) : Mem (E0 P w0 nt I0 rd2 df2) g' bl' ow' w' := by
  have hw := h.base
  have hO : ∀ k, (w.heap.size ≤ k ∨ Ob g k) → w0.heap.size ≤ k := fun k hk => hk.elim (fun h2 => Nat.le_trans hw h2) (fun h2 => (ob_new h h2).1)
  exact { below := ⟨h'.below.os.trans h1.os, h'.below.tape.trans h1.tape, h'.below.output.trans h1.output, Nat.le_trans h1.size h'.below.size, fun k hk _ => (h'.below.block k (Nat.lt_of_lt_of_le hk hw) (fun hOb => by have := hO k (.inr hOb); simp only at hk; omega)).trans (h1.block k hk (fun h => h))⟩
          base := Nat.le_trans hw h'.base, cell := h'.cell, mfr := fun n b hn => ⟨.inr (.inl (hO b (by have := (h'.mfr n b hn).1; simpa using this))), (h'.mfr n b hn).2⟩
          ofr := fun n b k1 k2 => ⟨.inl (hO b (by have := (h'.ofr n b k1 k2).1; simpa using this)), (h'.ofr n b k1 k2).2⟩, minj := h'.minj, oinj := h'.oinj, disj := h'.disj, blk := h'.blk, key := h'.key, own := h'.own
          inew := fun b o hI => by
            rcases h'.inew b o hI with h2 | h2
            · exact h.inew b o h2
            · exact .inr (.inl (hO b (by simpa using h2)))
          iold := fun b o hI => h'.iold b o (h.iold b o hI), pin := fun _ _ _ h => h.elim }
end

/-! ### What a body must achieve, whatever follows -/
def WK (E : En) (c : Code) (K : Exit → Act → World → Prop) (s : St) : Prop := ∀ g a w, Inv E g s a w → c.wpIn (fo E.rd) 0 E.P K a w
def seqK (E : En) (y : Code) (K : Exit → Act → World → Prop) : Exit → St → Prop
  | .normal, s => WK E y K s
  | e, s => ∀ g a w, Inv E g s a w → K e a w
section
variable {E : En} {x y c : Code} {K : Exit → Act → World → Prop} {s : St}
theorem WK_seq (h : W E x (seqK E y K) s) : WK E (.seq x y) K s := fun g a w hi => wpIn_seq (wpIn_mono (h g a w hi) fun e a' w' hq => by
  obtain ⟨g', s', h1, h2⟩ := hq
  cases e with
  | normal => exact h1 g' a' w' h2
  | _ => exact h1 g' a' w' h2)
theorem WK_seqL (h : WK E x (Exit.then (fun a w => y.wpIn (fo E.rd) 0 E.P K a w) K) s) : WK E (.seq x y) K s := fun g a w hi => wpIn_seq (h g a w hi)
theorem WK_block {id : Nat} (h : WK E c (Exit.inBlock id K) s) : WK E (.block id c) K s := fun g a w hi => wpIn_block (h g a w hi)
theorem WK_weak {s' : St} (hw : Weak E s s') (h : WK E c K s') : WK E c K s := fun g a w hi => let ⟨g', hi'⟩ := hw g a w hi; h g' a w hi'
end
/-- A function's result, as its contract says it. -/
def callP (I0 : Nat → Nat → Prop) (w0 : World) (R : AV → Prop) : Ending → World → Prop := fun e w' => ∃ y r g', e = .returned y ∧ R r ∧ rep g' w' r y ∧ Ret I0 w0 g' w'
abbrev markK (P : Program) (fn : Func) (I0 : Nat → Nat → Prop) (w0 : World) (R : AV → Prop) : Exit → Act → World → Prop := bodyPostM (fo none) 0 P fn (callP I0 w0 R)
theorem ret_of {P : Program} {w0 : World} {nt : Nat} {I0 : Nat → Nat → Prop} {rd : Option Nat} {df : List Deferred} {g : Gh} {s : St} {a : Act} {w : World} {fn : Func} {xs : List AV} {R : AV → Prop} (hi : Inv (E0 P w0 nt I0 rd df) g s a w) (h1 : resA P s fn.results.toList xs) (h2 : R (oneA xs)) (h3 : refs [] s.ow (oneA xs) = true) :
    ∃ v, (results fn a.tmps).run P w = .ok v w ∧ callP I0 w0 R (.returned v) w := by
  obtain ⟨y, k1, k2⟩ := run_results hi h1
  let g2 : Gh := { g with m := fun _ => none }
  refine ⟨y, k1, y, oneA xs, g2, rfl, h2, rep_refs (g := g) (g' := g2) rfl (fun n b hn => by simp at hn) rfl (fun n _ h => ⟨h, rfl⟩) h3 k2, ?_⟩
  exact ⟨⟨hi.mem.below.os, hi.mem.below.tape, hi.mem.below.output, hi.mem.below.size, hi.mem.below.block⟩, hi.mem.iold, fun b o h => (hi.mem.inew b o h).imp id (fun h => h.resolve_right (fun h => h)), hi.mem.cell, fun n b h1 h2 => ⟨(hi.mem.ofr n b h1 h2).1.resolve_right (fun h => h), (hi.mem.ofr n b h1 h2).2⟩, hi.mem.oinj⟩
/-- A return ahead of any loop. -/
theorem mark_ret {P : Program} {w0 : World} {nt : Nat} {I0 : Nat → Nat → Prop} {fn : Func} {rs : Array ResultVar} {R : AV → Prop} {s : St} (hrs : fn.results = rs) (h : retQ (E0 P w0 nt I0 none []) rs.toList R .ret s) : ∀ g a w, Inv (E0 P w0 nt I0 none []) g s a w → markK P fn I0 w0 R .ret a w := by
  subst hrs
  intro g a w hi
  obtain ⟨s1, hw, xs, h1, h2, h3⟩ := h
  obtain ⟨g1, hi1⟩ := hw g a w hi
  have hd := hi1.de
  show LeavesInM _ _ _ _ _ _ a.defers .returning w
  rw [hd]
  exact ret_of hi1 h1 h2 h3
abbrev markD (D : Nat) : List Deferred := [{ target := .collected D, args := #[] }]
/-- The rest of a function, behind its loop. -/
theorem rest_wp {P : Program} {w0 : World} {nt : Nat} {I0 : Nat → Nat → Prop} {fn : Func} {rs : Array ResultVar} {R : AV → Prop} {g : Gh} {tm : List (Nat × AV)} {bl : List (Nat × List AV)} {ow : List Nat} {tmps : Array Value} {w : World} {c : Code} {D : Nat} {rd : Option Nat} {df : List Deferred} (hrs : fn.results = rs)
    (hm : Mem (E0 P w0 nt I0 rd df) g bl ow w) (ht : ∀ t, rep g w (look tm t) (tmps.getD t undef)) (hs : tmps.size = nt) (hD : w.heap[D]? = some (.deferred (some []))) (hB : w0.heap.size ≤ D) (hO : ¬ Ob g D)
    (hW : ∀ (B : Nat) (w1 : World) (M : Nat → Prop) (I1 : Nat → Nat → Prop) (df : List Deferred), W ⟨P, B, w1, nt, M, [], I1, fun _ _ _ => False, none, df⟩ c (retQ ⟨P, B, w1, nt, M, [], I1, fun _ _ _ => False, none, df⟩ rs.toList R) ⟨tm, bl, ow⟩) :
    c.wpIn (fo none) 0 P (markK P fn I0 w0 R) { tmps := tmps, defers := markD D } w := by
  subst hrs
  have hlt : D < w.heap.size := (Array.getElem?_eq_some_iff.1 hD).1
  have hmem := hm.reroot (pin := fun _ _ _ => False) (fun _ _ _ h => h.elim) none (markD D)
  refine wpIn_mono (hW w.heap.size w (Ob g) g.I (markD D) g _ w ⟨hmem, ht, rfl, hs⟩) fun e a' w' hq => ?_
  obtain ⟨g', s', h1, h2⟩ := hq
  have fin : (∃ s1, Weak ⟨P, w.heap.size, w, nt, Ob g, [], g.I, fun _ _ _ => False, none, markD D⟩ s' s1 ∧ ∃ xs, resA P s1 fn.results.toList xs ∧ R (oneA xs) ∧ refs [] s1.ow (oneA xs) = true) → LeavesInM (fo none) 0 P fn a'.tmps (callP I0 w0 R) a'.defers .returning w' := by
    rintro ⟨s1, hw, xs, k1, k2, k3⟩
    obtain ⟨g1, hi1⟩ := hw g' a' w' h2
    have hD' : w'.heap[D]? = some (.deferred (some [])) := (hi1.mem.below.block D hlt hO).trans hD
    have hlt' : D < w'.heap.size := (Array.getElem?_eq_some_iff.1 hD').1
    have hde := hi1.de
    simp only at hde
    rw [hde]
    refine ⟨by simp, .inl ⟨D, w'.putObj D (.deferred none), rfl, run_takeDeferred hD', ?_⟩⟩
    have m0 := hm.unroot hi1.mem (hm.below) none (markD D)
    have hg := grownBy_putObj' w' D (.deferred none)
    obtain ⟨m1, go⟩ := m0.carry (rd' := none) (df' := markD D) hg (fun r e => by cases e; exact ⟨_, hD', rfl⟩) (m0.below.trans' (BelowM.grown hg m0.base (fun r e => by cases e; exact .inl hB)))
    exact ret_of (df := markD D) ⟨m1, fun t => rep_goes go (hi1.tm t), hde, hi1.sz⟩ k1 k2 k3
  cases e with
  | normal => exact fin h1
  | ret => exact fin h1
  | _ => exact h1.elim
theorem callOk_of_WK {P : Program} {f nt : Nat} {fn : Func} {rs : Array ResultVar} {c : Code} {args : List AV} {tm : List (Nat × AV)} {R : AV → Prop} (hf : P.funcs[f]? = some fn) (hnt : fn.ntmps = nt) (hrs : fn.results = rs) (hb : fn.body = some c) (hn : Nat.ble args.length nt = true)
    (htm : ((args.zipIdx 0).map fun p => (p.2, p.1)) = tm) (h : ∀ (w0 : World) (I0 : Nat → Nat → Prop) (fn : Func), fn.results = rs → WK (E0 P w0 nt I0 none []) c (markK P fn I0 w0 R) ⟨tm, [], []⟩) : CallOk P f args R := by
  subst hnt; subst htm
  intro I w vals hI hargs
  have hn' := Nat.le_of_ble_eq_true hn
  let g : Gh := ⟨I, fun _ => none, fun _ => none, fun _ => False, fun _ => 0⟩
  have hlen := dreps_length hargs
  have hargs' : reps g w args vals.toList := reps_of_dreps hargs
  refine callsIn_wide.1 (callsIn_of_wp_marks (F := fo none) (n := 0) hf hb trivial ?_ rfl)
  refine h w I fn hrs g _ w ⟨⟨BelowM.refl _ _ _, Nat.le_refl _, hI, fun n b h => by simp [g] at h, fun n b h => by simp [g] at h, fun n n' b h => by simp [g] at h, fun n n' b h => by simp [g] at h, fun n n' b h => by simp [g] at h,
    fun n cs h => by simp at h, fun n b h => by simp [g] at h, fun n h => by simp [g] at h, fun b o h => .inl h, fun b o h => h, fun n b T h => h.elim⟩, fun t => ?_, rfl, ?_⟩
  · simp only [look_zip, Nat.zero_le, if_true, Nat.sub_zero]
    rcases Nat.lt_or_ge t args.length with h1 | h1
    · obtain ⟨y, hy, hr⟩ := reps_get hargs' (List.getElem?_eq_getElem h1)
      have : t < vals.size := by simpa [← hlen] using h1
      have hy' : vals[t] = y := by simpa [this] using hy
      simp only [List.getD_eq_getElem?_getD, List.getElem?_eq_getElem h1, Option.getD_some]
      simp only [Array.getD_eq_getD_getElem?, Array.getElem?_append_left this, Array.getElem?_eq_getElem this, Option.getD_some, hy']
      exact hr
    · simp only [List.getD_eq_getElem?_getD, List.getElem?_eq_none h1, Option.getD_none, rep]
  · have : vals.size = args.length := by simpa using hlen
    simp; omega

/-! ### The loop -/
theorem wpIn_any {rd : Option Nat} {n : Nat} {P : Program} {c : Code} {Q : Exit → Act → World → Prop} {a : Act} {w : World} (h : c.wpIn (fo rd) 0 P Q a w) : c.wpIn (fo rd) n P Q a w :=
  fun b k cs h1 h2 _ => h b k cs h1 h2 (fun d hd => by simp at hd)
/-- Entry temporaries that stand for numbers and for known blocks. -/
def TmPin (p : Nat → Nat → Nat → Prop) (tmps : Array Value) : List (Nat × AV) → Prop
  | [] => True
  | (t, v) :: r => (match v with
    | .v x => tmps.getD t undef = x
    | .ptr n off => ∃ b T, p n b T ∧ tmps.getD t undef = .pointer (some ⟨b, off, none⟩)
    | .top => True
    | _ => False) ∧ TmPin p tmps r
theorem tmPin_rep {P : Program} {B : Nat} {w0 : World} {nt : Nat} {M : Nat → Prop} {ron : List Nat} {I0 : Nat → Nat → Prop} {p : Nat → Nat → Nat → Prop} {rd : Option Nat} {df : List Deferred} {g : Gh} {bl : List (Nat × List AV)} {ow : List Nat} {w : World} (hm : Mem ⟨P, B, w0, nt, M, ron, I0, p, rd, df⟩ g bl ow w) {tmps : Array Value} :
    ∀ {tm : List (Nat × AV)}, TmPin p tmps tm → ∀ t, rep g w (look tm t) (tmps.getD t undef)
  | [], _, t => by simp [look, rep]
  | (k, v) :: r, h, t => by
    simp only [TmPin] at h
    simp only [look]
    cases hb : Nat.beq k t
    · exact tmPin_rep hm h.2 t
    · have := Nat.eq_of_beq_eq_true hb
      subst this
      simp only [cond_true]
      have h1 := h.1
      cases v <;> simp only at h1
      case top => simp [rep]
      case v x => simp only [rep]; exact h1
      case ptr n off =>
        obtain ⟨b, T, h2, h3⟩ := h1
        simp only [rep]
        exact ⟨b, (hm.pin n b T h2).1, h3⟩
/-- A round's frame. -/
abbrev Er (P : Program) (B : Nat) (w0 : World) (nt : Nat) (M : Nat → Prop) (I0 : Nat → Nat → Prop) (pn : List Nat) (p : Nat → Nat → Nat → Prop) (l : Nat) : En := ⟨P, B, w0, nt, M, [], I0, fun n b T => n ∈ pn ∧ p n b T, some l, []⟩
/-- A round comes to its end: what the blocks hold from then on. -/
def roundE (E : En) (bl : List (Nat × List AV)) (ow : List Nat) : Exit → St → Prop
  | .normal, s => ∃ tm, Weak E s ⟨tm, bl, ow⟩
  | _, _ => False
theorem range_wp {P : Program} {w0 : World} {nt : Nat} {I0 : Nat → Nat → Prop} {g : Gh} {s : St} {a : Act} {w : World} (hi : Inv (E0 P w0 nt I0 none []) g s a w) (how : s.ow = [])
    {α : Type} {f : Operand} {ps : Array Tmp} {assign body : Code} {gf : Nat} {lb : Array Value} (hf : a.eval f = .func (.func gf) #[] lb) [hfn : FnOk P gf] {encs : α → Array Value} {S Sp : List α → Prop} {N : Nat}
    (hseq : SeqStopsK Fence.wide 4 P gf lb encs (fun A C => ∀ b o, g.I b o → C.cell? ⟨b, o, none⟩ = A.cell? ⟨b, o, none⟩) S Sp N w) (hps : ∀ x, (encs x).size = ps.size)
    (pn : List Nat) (tmI : List (Nat × AV)) (hT : TmPin (fun n b T => n ∈ pn ∧ g.m n = some b ∧ g.mt n = T) a.tmps tmI) (blI : List α → List (Nat × List AV)) (owI : List α → List Nat) (h0 : ∀ (B : Nat) (w1 : World), Weak ⟨P, B, w1, nt, Ob g, [], g.I, fun n b T => n ∈ pn ∧ g.m n = some b ∧ g.mt n = T, none, []⟩ s ⟨tmI, blI [], owI []⟩)
    (ptm : α → List (Nat × AV)) (hptm : ∀ (x : α) (g' : Gh) (W : World), (∀ t, rep g' W (look tmI t) (a.tmps.getD t undef)) → ∀ t, rep g' W (look (ptm x ++ tmI) t) (((ps.zip (encs x)).foldl (fun t (p, v) => t.setIfInBounds p v) a.tmps).getD t undef))
    (hround : ∀ (pre : List α) (x : α), pre.length < N → ∀ (B : Nat) (w1 w2 : World) (M : Nat → Prop) (I1 : Nat → Nat → Prop) (p : Nat → Nat → Nat → Prop) (l : Nat),
      W (Er P B w1 nt M I1 pn p l) assign (fun e s1 => e = .normal ∧ W (Er P B w2 nt M I1 pn p l) body (roundE (Er P B w2 nt M I1 pn p l) (blI (pre ++ [x])) (owI (pre ++ [x]))) s1) ⟨ptm x ++ tmI, blI pre, owI pre⟩)
    {K : Exit → Act → World → Prop}
    (hdone : ∀ (xs : List α) (g' : Gh) (W : World) (D : Nat), S xs → Mem (E0 P w0 nt I0 none []) g' (blI xs) (owI xs) W → (∀ t, rep g' W (look tmI t) (a.tmps.getD t undef)) → a.tmps.size = nt → W.heap[D]? = some (.deferred (some [])) → w0.heap.size ≤ D → ¬ Ob g' D → K .normal { tmps := a.tmps, defers := markD D } W) :
    (Code.rangeFunc f ps assign body).wpIn (fo none) 0 P K a w := by
  obtain ⟨gfn, f1, f2, f3⟩ := hfn.ok
  have f2' : gfn.name ≠ "runtime.NumGoroutine" := by simpa using f2
  have f3' : gfn.body ≠ none := fun e => by rw [e] at f3; simp at f3
  have eg : ∀ args w, (callFunc gf args).run P w = .ok (.enter gf args) w := fun args w => by simp [callFunc, f1, f2', f3']
  have hde : a.defers = [] := hi.de
  have hsz := hi.sz
  have hbase := hi.mem.base
  refine wpIn_rangeFunc ?_
  intro fn _
  show ∃ (l : Nat) (mark : List Deferred) (w₁ : World) (d : Deferred) (w₁' : World) (f' : FuncId) (args : Array Value) (w₂ : World), (Instr.enterLoop fn a.tmps ps assign body none).run P w = .ok (l, mark) w₁ ∧ _
  obtain ⟨rec, hrec⟩ : ∃ rec : LoopState → Option Code → Loop, rec = fun st pe => { state := st, pending := pe, fn, tmps := a.tmps, params := ps, assign, body, defers := w.heap.size } := ⟨_, rfl⟩
  obtain ⟨W1, hW1⟩ : ∃ W1, (w.alloc (.deferred (some []))).alloc (.loop (rec .ready none)) = W1 := ⟨_, rfl⟩
  have hsz1 : W1.heap.size = w.heap.size + 2 := by rw [← hW1]; simp
  have hL1 : W1.heap[w.heap.size + 1]? = some (.loop (rec .ready none)) := by
    rw [← hW1]; have := World.alloc_heap_new (w.alloc (.deferred (some []))) (.loop (rec .ready none)); rwa [World.size_alloc] at this
  have hK1 : W1.heap[w.heap.size]? = some (.deferred (some [])) := by
    rw [← hW1]; exact (Below.heap_alloc _ _ _ (by simp)).trans (World.alloc_heap_new w _)
  have hgr : w.grownBy W1 none := by
    rw [← hW1]
    exact ⟨rfl, rfl, rfl, by simp; omega, fun k hk _ => (Below.heap_alloc _ _ k (by simp; omega)).trans (Below.heap_alloc _ _ k hk)⟩
  -- the state, rooted at the world in which the loop begins
  obtain ⟨m1, go1⟩ := hi.mem.carry (rd' := none) (df' := []) hgr (fun r e => by cases e) (hi.mem.below.trans' (BelowM.grown hgr hbase (fun r e => by cases e)))
  let p0 : Nat → Nat → Nat → Prop := fun n b T => n ∈ pn ∧ g.m n = some b ∧ g.mt n = T
  have m2 := m1.reroot (pin := p0) (fun n b T h => h.2) none []
  let E1 : En := ⟨P, W1.heap.size, W1, nt, Ob g, [], g.I, p0, none, []⟩
  have hlO : ∀ k, w.heap.size ≤ k → ¬ Ob g k := fun k hk hO => by have := (ob_new hi.mem hO).2; omega
  have hIO : ∀ b o, g.I b o → b < W1.heap.size ∧ ¬ Ob g b := fun b o hI => by
    refine ⟨?_, fun hO => ?_⟩
    · have := cell_lt (m1.cell b o hI); exact this
    · rcases hO with ⟨n, hn⟩ | ⟨n, h1, _⟩
      · obtain ⟨cs, hk⟩ := hi.mem.key n b hn
        obtain ⟨b', _, k1, _, _, k4⟩ := hi.mem.blk n cs hk
        rw [hn] at k1
        cases k1
        exact k4 o hI
      · have := hi.mem.own n h1
        rw [how] at this
        cases this
  let I : List α → World → Prop := fun pre W => ∃ g', Mem E1 g' (blI pre) (owI pre) W
  have hIat : ∀ pre W, I pre W → W.heap[w.heap.size + 1]? = some (.loop (rec .ready none)) ∧ W.heap[w.heap.size]? = some (.deferred (some [])) := fun pre W ⟨g', hm⟩ =>
    ⟨(hm.below.block _ (by show _ < W1.heap.size; omega) (hlO _ (by omega))).trans hL1, (hm.below.block _ (by show _ < W1.heap.size; omega) (hlO _ (by omega))).trans hK1⟩
  have hIW : I [] W1 := by
    obtain ⟨g', hi'⟩ := h0 W1.heap.size W1 g a W1 ⟨m2, fun t => rep_goes go1 (hi.tm t), hde, hsz⟩
    exact ⟨g', hi'.mem⟩
  have hlW : w.heap.size + 1 < W1.heap.size := by omega
  refine ⟨w.heap.size + 1, [{ target := .collected w.heap.size, args := #[] }], W1, { target := .fn (.func gf) lb, args := #[.func (.yield (w.heap.size + 1)) #[] #[]] }, W1, gf, #[.func (.yield (w.heap.size + 1)) #[] #[]] ++ lb, W1, ?_, ?_, fun _ _ => trivial, ?_, fun h => by simp at h, ?_⟩
  · rw [← hW1, hrec]; exact run_enterLoop_outer _ _ _ _ _
  · simp only [resolve, hf]
    simp [go_sem]
  · simp [invoke, go_sem, eg]
  refine callsIn_wide.2 (callsIn_wide.1 ((hseq (w.heap.size + 1) I (fun _ _ => False) W1 ?_ ?_ (fun _ _ _ _ h _ _ => h) ?_ hIW).mono ?_))
  · rw [← hW1]
    exact ((Below.refl _ w).alloc (Nat.le_refl _) _).alloc (by simp) _
  · rintro pre A C row ⟨g', hm⟩ hg hr
    exact ⟨g', (hm.carry hg (fun r e => let ⟨_, o, ho, hw⟩ := hr r e; ⟨o, ho, Obj.not_cells_of_walk hw⟩) (hm.below.trans' (BelowM.grown hg hm.base (fun r e => .inl (hr r e).1)))).1⟩
  · -- one round
    rintro pre x W ⟨g', hm⟩ hlen
    have hl := (hIat pre W ⟨g', hm⟩).1
    have hy := run_yield (P := P) (args := encs x) hl (by rw [hrec]; exact hps x)
    rw [hrec] at hy
    refine ⟨fn, _, assign, body, hy, roundIn_of_wpIn trivial ?_⟩
    clear hy
    let p1 : Nat → Nat → Nat → Prop := fun n b T => g.m n = some b ∧ g.mt n = T
    obtain ⟨busy, hbusy⟩ : ∃ o : Obj, o = .loop { rec .ready none with state := .busy } := ⟨_, rfl⟩
    have hw := hround pre x hlen W1.heap.size W1 (W1.putObj (w.heap.size + 1) busy) (Ob g) g.I p1 (w.heap.size + 1)
    have htm := tmPin_rep hm hT
    have hm0 : Mem (Er P W1.heap.size W1 nt (Ob g) g.I pn p1 (w.heap.size + 1)) g' (blI pre) (owI pre) W := hm.re
    refine wpIn_any (rd := some (w.heap.size + 1)) (wpIn_mono (hw g' _ W ⟨hm0, hptm x g' W htm, rfl, afoldl_set_size.trans hsz⟩) fun e a1 w1 hq => ?_)
    obtain ⟨g1, s1, ⟨rfl, hB⟩, hi1⟩ := hq
    have hl1 : w1.heap[w.heap.size + 1]? = some (.loop (rec .ready none)) := (hi1.mem.below.block _ hlW (hlO _ (by omega))).trans hL1
    have hbr := run_beginRound (P := P) hl1 (by rw [hrec])
    rw [← hbusy] at hbr
    have hgr1 := grownBy_putObj' w1 (w.heap.size + 1) busy
    obtain ⟨m5, go5⟩ := hi1.mem.carry (rd' := some (w.heap.size + 1)) (df' := []) hgr1 (fun r e => by cases e; exact ⟨_, hl1, rfl⟩) (hi1.mem.below.put busy hlW)
    refine ⟨_, hbr, wpIn_any (rd := some (w.heap.size + 1)) (wpIn_mono (hB g1 a1 _ ⟨m5, fun t => rep_goes go5 (hi1.tm t), hi1.de, hi1.sz⟩) fun e a3 w3 hq => ?_)⟩
    obtain ⟨g3, s3, h5, hi3⟩ := hq
    cases e with
    | normal =>
      obtain ⟨tm3, hwk⟩ := h5
      obtain ⟨g4, hi4⟩ := hwk g3 a3 w3 hi3
      have hl3 : w3.heap[w.heap.size + 1]? = some (.loop { rec .ready none with state := .busy }) := by
        rw [hi4.mem.below.block _ hlW (hlO _ (by omega)), World.putObj_heap_same hlW, hbusy]
      have hend := run_endRound (P := P) none hl3
      have hrr : (Obj.loop { ({ rec .ready none with state := .busy } : Loop) with state := if (none : Option Code).isNone then .ready else .done, pending := none }) = .loop (rec .ready none) := by rw [hrec]; rfl
      rw [hrr] at hend
      have hgr3 := grownBy_putObj' w3 (w.heap.size + 1) (.loop (rec .ready none))
      obtain ⟨m6, _⟩ := hi4.mem.carry (rd' := none) (df' := []) hgr3 (fun r e => by cases e; exact ⟨_, hl3, rfl⟩) (hi4.mem.below.back hL1)
      refine ⟨_, _, hend, .inl ⟨rfl, ⟨g4, m6⟩, fun b o hI => ?_⟩⟩
      obtain ⟨k1, k2⟩ := hIO b o hI
      exact World.cell?_of_block (a := ⟨b, o, none⟩) ((m6.below.block b k1 k2).trans (hm.below.block b k1 k2).symm)
    | _ => exact h5.elim
  · -- behind the iterator
    rintro e W2 ⟨⟨v, rfl⟩, (⟨xs, hS, hI⟩ | ⟨_, _, hf⟩)⟩
    · obtain ⟨hl, hk⟩ := hIat xs W2 hI
      obtain ⟨g', hm⟩ := hI
      have hend := run_endLoop (P := P) hl (by rw [hrec]; simp)
      obtain ⟨ex, hex⟩ : ∃ o : Obj, o = .loop { rec .ready none with state := .exhausted } := ⟨_, rfl⟩
      rw [← hex] at hend
      have hpd : (rec .ready none).pending = none := by rw [hrec]
      rw [hpd] at hend
      refine ⟨none, _, hend, ?_⟩
      have m7 := m1.unroot hm m1.below none []
      have hgr7 := grownBy_putObj' W2 (w.heap.size + 1) ex
      obtain ⟨m8, go8⟩ := m7.carry (rd' := none) (df' := []) hgr7 (fun r e => by cases e; exact ⟨_, hl, rfl⟩) (m7.below.trans' (BelowM.grown hgr7 m7.base (fun r e => by cases e; exact .inl (by omega))))
      have := hdone xs g' _ w.heap.size hS m8 (fun t => rep_goes go8 (tmPin_rep hm hT t)) hsz ((World.putObj_heap_other (by omega)).trans hk) hbase ?_
      · show K .normal { tmps := a.tmps, defers := [{ target := .collected w.heap.size, args := #[] }] ++ a.defers } _
        rw [hde]; exact this
      · intro hO
        have hc : W1.heap.size ≤ w.heap.size ∨ Ob g w.heap.size := by
          rcases hO with ⟨n, hn⟩ | ⟨n, h1, h2⟩
          · have := (hm.mfr n _ hn).1; simpa [E1] using this
          · have := (hm.ofr n _ h1 h2).1; simpa [E1] using this
        rcases hc with h9 | h9
        · omega
        · exact hlO _ (Nat.le_refl _) h9
    · exact hf.elim
end Go.Eng

namespace Go.Eng
open Go Go.RowKit

theorem Oper.wpIn_monoQ {F : Fence} {n : Nat} {P : Program} {o : Oper} {a : Act} {w : World} {K K' : Act → World → Prop} {Q Q' : Exit → Act → World → Prop} (h : ∀ a w, K a w → K' a w) (hq : ∀ c a w, Q (.panic c) a w → Q' (.panic c) a w) (ho : LetsOut Q → LetsOut Q')
    (hh : o.wpIn F n P a w K Q) : o.wpIn F n P a w K' Q' := by
  unfold Oper.wpIn at *
  refine ⟨hh.1, ?_⟩
  have hh := hh.2
  generalize (o.semAt F.round a.eval).run P w = r at *
  cases r with
  | ok x w' =>
    cases x <;> simp only [Oper.uponIn] at hh ⊢ <;>
      first
        | exact h _ _ hh
        | exact ⟨hh.1, CallsIn.mono hh.2 (fun e w'' he => by cases e <;> first | exact h _ _ he | exact hq _ _ _ he | exact ho he)⟩
        | exact ⟨hh.1, RowsIn.mono hh.2 (fun _ _ he => h _ _ he)⟩
        | exact ⟨hh.1, RoundIn.mono hh.2 (fun e w'' he => by cases e <;> first | exact h _ _ he | exact hq _ _ _ he | exact ho he)⟩
  | halt x w' => cases x <;> simp only [Oper.uponIn] at hh ⊢ <;> first | exact hh | exact hq _ _ _ hh

/-- A list of operations in two parts. -/
theorem wpListIn_app {F : Fence} {n : Nat} {P : Program} {ops : Array Oper} {Q : Exit → Act → World → Prop} {l2 : List Oper} : ∀ {l1 : List Oper} {a : Act} {w : World},
    wpListIn F n P ops (Exit.then (wpListIn F n P ops Q l2) Q) l1 a w → wpListIn F n P ops Q (l1 ++ l2) a w
  | [], _, _, h => h
  | o :: l1, a, w, h => by
    rw [List.cons_append]
    unfold wpListIn at h ⊢
    split
    · rename_i hw
      rw [if_pos hw] at h
      exact Oper.wpIn_monoQ (fun a w h => wpListIn_app h) (fun _ _ _ h => h) (fun ⟨a, w, h⟩ => ⟨a, w, h⟩) h
    · rename_i hw
      rw [if_neg hw] at h
      exact ⟨h.1, wpListIn_app h.2⟩
theorem wpListIn_mono {F : Fence} {n : Nat} {P : Program} {ops : Array Oper} {Q Q' : Exit → Act → World → Prop} (hQ : ∀ e a w, Q e a w → Q' e a w) : ∀ {l : List Oper} {a : Act} {w : World}, wpListIn F n P ops Q l a w → wpListIn F n P ops Q' l a w
  | [], _, _, h => hQ _ _ _ h
  | o :: l, a, w, h => by
    unfold wpListIn at h ⊢
    split
    · rename_i hw
      rw [if_pos hw] at h
      exact Oper.wpIn_monoQ (fun a w h => wpListIn_mono hQ h) (fun _ _ _ h => hQ _ _ _ h) (fun ⟨a, w, h⟩ => ⟨a, w, hQ _ _ _ h⟩) h
    · rename_i hw
      rw [if_neg hw] at h
      exact ⟨h.1, wpListIn_mono hQ h.2⟩

def WLK (E : En) (ops : Array Oper) (l : List Oper) (K : Exit → Act → World → Prop) (s : St) : Prop := ∀ g a w, Inv E g s a w → wpListIn (fo E.rd) 0 E.P ops K l a w
def WR (E : En) (c : Code) (K : Exit → Act → World → Prop) (m : Nat) (s : St) : Prop := ∀ g a w, Inv E g s a w → Code.roundsIn (fo E.rd) 0 E.P c K m a w
def kQ (E : En) (K : Exit → Act → World → Prop) : Exit → St → Prop := fun e s => ∀ g a w, Inv E g s a w → K e a w
section
variable {E : En} {x y c : Code} {K : Exit → Act → World → Prop} {s : St} {ops : Array Oper} {l : List Oper}
theorem WK_of (h : W E c (kQ E K) s) : WK E c K s := fun g a w hi => wpIn_mono (h g a w hi) fun _ a' w' ⟨g', _, h1, h2⟩ => h1 g' a' w' h2
theorem WLK_of (h : WL E ops l (kQ E K) s) : WLK E ops l K s := fun g a w hi => wpListIn_mono (fun _ a' w' ⟨g', _, h1, h2⟩ => h1 g' a' w' h2) (h g a w hi)
theorem WK_region {id : Nat} {l : List Oper} (h : WLK E l.toArray l K s) : WK E (.region id l.toArray false) K s := fun g a w hi => wpIn_region_list (by simpa using h g a w hi)
theorem WLK_nil (h : kQ E K .normal s) : WLK E ops [] K s := h
/-- The first n operations by the engine. -/
theorem WLK_cut (n : Nat) (h : WL E ops (l.take n) (fun e s' => e = .normal ∧ WLK E ops (l.drop n) K s') s) : WLK E ops l K s := fun g a w hi => by
  rw [← List.take_append_drop n l]
  refine wpListIn_app (wpListIn_mono (fun e a' w' ⟨g', s', h1, h2⟩ => ?_) (h g a w hi))
  obtain ⟨rfl, h1⟩ := h1
  exact h1 g' a' w' h2
/-- Code ahead by the engine. -/
theorem WK_seqN (h : W E x (fun e s' => e = .normal ∧ WK E y K s') s) : WK E (.seq x y) K s := fun g a w hi => wpIn_seq (wpIn_mono (h g a w hi) fun e a' w' ⟨g', s', h1, h2⟩ => by
  obtain ⟨rfl, h1⟩ := h1
  exact h1 g' a' w' h2)
theorem WK_rounds (m : Nat) (h : WR E c K m s) : WK E (.loop c) K s := fun g a w hi => wpIn_loop_rounds m (h g a w hi)
theorem WR_succ {m : Nat} (h : WK E c (Exit.then (Code.roundsIn (fo E.rd) 0 E.P c K m) K) s) : WR E c K (m + 1) s := fun g a w hi => h g a w hi
end

/-- A frame rooted in a later world of the same call: objects that are no cells lie there as told. -/
structure Rt (w0 : World) (I0 : Nat → Nat → Prop) (w1 : World) (M : Nat → Prop) (I1 : Nat → Nat → Prop) (os : List (Nat × Obj)) : Prop where
  below : BelowM w0.heap.size (fun _ => False) w0 w1
  Mn : ∀ k, M k → w0.heap.size ≤ k
  old : ∀ b o, I0 b o → I1 b o
  new : ∀ b o, I1 b o → I0 b o ∨ w0.heap.size ≤ b
  obs : ∀ p ∈ os, w1.heap[p.1]? = some p.2 ∧ p.2.isCells = false ∧ w0.heap.size ≤ p.1 ∧ ¬ M p.1
abbrev Ek (P : Program) (w1 : World) (nt : Nat) (M : Nat → Prop) (I1 : Nat → Nat → Prop) : En := ⟨P, w1.heap.size, w1, nt, M, [], I1, fun _ _ _ => False, none, []⟩
theorem Rt.start (w0 : World) (I0 : Nat → Nat → Prop) : Rt w0 I0 w0 (fun _ => False) I0 [] := ⟨BelowM.refl _ _ _, fun _ h => h.elim, fun _ _ h => h, fun _ _ h => .inl h, fun _ h => by cases h⟩
section
variable {P : Program} {nt : Nat} {w0 w1 : World} {I0 I1 : Nat → Nat → Prop} {M : Nat → Prop} {os : List (Nat × Obj)} {K : Exit → Act → World → Prop} {c : Code}
theorem Rt.inv (hR : Rt w0 I0 w1 M I1 os) {g : Gh} {s : St} {a : Act} {w : World} (hi : Inv (Ek P w1 nt M I1) g s a w) : Inv (E0 P w0 nt I0 none []) g s a w := by
  have hm := hi.mem
  have hsz := hR.below.size
  have hk : ∀ k, (w1.heap.size ≤ k ∨ M k) → w0.heap.size ≤ k := fun k h => h.elim (fun h => Nat.le_trans hsz h) (hR.Mn k)
  refine ⟨{ below := ⟨hm.below.os.trans hR.below.os, hm.below.tape.trans hR.below.tape, hm.below.output.trans hR.below.output, Nat.le_trans hsz hm.below.size, fun k hk0 _ => ?_⟩
            base := Nat.le_trans hsz hm.base, cell := hm.cell, mfr := fun n b hn => ⟨.inr (.inl (hk b (by have := (hm.mfr n b hn).1; simpa using this))), (hm.mfr n b hn).2⟩
            ofr := fun n b h1 h2 => ⟨.inl (hk b (by have := (hm.ofr n b h1 h2).1; simpa using this)), (hm.ofr n b h1 h2).2⟩, minj := hm.minj, oinj := hm.oinj, disj := hm.disj, blk := hm.blk, key := hm.key, own := hm.own
            inew := fun b o h => by
              rcases hm.inew b o h with h1 | h1
              · exact (hR.new b o h1).imp id .inl
              · exact .inr (.inl (hk b (by simpa using h1)))
            iold := fun b o h => hm.iold b o (hR.old b o h), pin := fun _ _ _ h => h.elim }, hi.tm, hi.de, hi.sz⟩
  have hk1 : k < w0.heap.size := hk0
  have h1 : ¬ M k := fun h => by have := hR.Mn k h; omega
  exact (hm.below.block k (by show k < w1.heap.size; omega) h1).trans (hR.below.block k hk0 (fun h => h))
theorem Rt.here (hR : Rt w0 I0 w1 M I1 os) {g : Gh} {s : St} {a : Act} {w : World} (hi : Inv (Ek P w1 nt M I1) g s a w) : ∀ p ∈ os, w.heap[p.1]? = some p.2 := fun p hp => by
  obtain ⟨h1, h2, h3, h4⟩ := hR.obs p hp
  exact (hi.mem.below.block p.1 (Array.getElem?_eq_some_iff.1 h1).1 h4).trans h1
/-- Back to the call's beginning. -/
theorem WK_unk (hR : Rt w0 I0 w1 M I1 os) {s : St} (h : WK (E0 P w0 nt I0 none []) c K s) : WK (Ek P w1 nt M I1) c K s := fun g a w hi => h g a w (hR.inv hi)
/-- The world turns at objects that are no cells: the state stands, rooted anew. -/
theorem Rt.turn (hR : Rt w0 I0 w1 M I1 os) {g : Gh} {s : St} {a : Act} {w w' : World} (hi : Inv (Ek P w1 nt M I1) g s a w) {row : Option Nat} (hg : w.grownBy w' row) (hr : ∀ r, row = some r → ∃ ob, (r, ob) ∈ os) {os' : List (Nat × Obj)}
    (ho : ∀ p ∈ os', w'.heap[p.1]? = some p.2 ∧ p.2.isCells = false ∧ ((∃ ob, (p.1, ob) ∈ os) ∨ w.heap.size ≤ p.1)) : Rt w0 I0 w' (Ob g) g.I os' ∧ Inv (Ek P w' nt (Ob g) g.I) g s a w' ∧ Goes g w g w' := by
  have hm := hi.mem
  have hsz := hR.below.size
  have hb := hR.inv hi
  have hrow : ∀ r, row = some r → ∃ o : Obj, w.heap[r]? = some o ∧ o.isCells = false := fun r e => by
    obtain ⟨ob, h⟩ := hr r e
    exact ⟨ob, hR.here hi _ h, (hR.obs _ h).2.1⟩
  have hw0 : ∀ r, row = some r → w0.heap.size ≤ r := fun r e => let ⟨ob, h⟩ := hr r e; (hR.obs _ h).2.2.1
  have hOb : ∀ k, Ob g k → (w1.heap.size ≤ k ∨ M k) ∧ k < w.heap.size := fun k h => by
    rcases h with ⟨n, hn⟩ | ⟨n, h1, h2⟩
    · exact ⟨by have := (hm.mfr n k hn).1; simpa using this, (hm.mfr n k hn).2⟩
    · exact ⟨by have := (hm.ofr n k h1 h2).1; simpa using this, (hm.ofr n k h1 h2).2⟩
  have hk : ∀ k, (w1.heap.size ≤ k ∨ M k) → w0.heap.size ≤ k := fun k h => h.elim (fun h => Nat.le_trans hsz h) (hR.Mn k)
  obtain ⟨m1, go1⟩ := hm.carry (w0' := w') (rd' := none) (df' := []) hg hrow (BelowM.refl _ _ _)
  refine ⟨⟨?_, fun k h => hk k (hOb k h).1, fun b o h => hm.iold b o (hR.old b o h), fun b o h => ?_, fun p hp => ?_⟩, ⟨?_, fun t => rep_goes go1 (hi.tm t), hi.de, hi.sz⟩, go1⟩
  · exact hb.mem.below.trans' (BelowM.grown hg hb.mem.base (fun r e => .inl (hw0 r e)))
  · rcases hm.inew b o h with h1 | h1
    · exact hR.new b o h1
    · exact .inr (hk b (by simpa using h1))
  · obtain ⟨h1, h2, h3⟩ := ho p hp
    refine ⟨h1, h2, ?_, fun hO => ?_⟩
    · rcases h3 with ⟨ob, h⟩ | h
      · exact (hR.obs _ h).2.2.1
      · exact Nat.le_trans hb.mem.base h
    · obtain ⟨h4, h5⟩ := hOb p.1 hO
      rcases h3 with ⟨ob, h⟩ | h
      · obtain ⟨k1, _, _, k4⟩ := hR.obs _ h
        have := (Array.getElem?_eq_some_iff.1 k1).1
        rcases h4 with h4 | h4
        · simp only at this; omega
        · exact k4 h4
      · omega
  · exact { below := BelowM.refl _ _ _, base := Nat.le_refl _, cell := m1.cell, mfr := fun n b hn => ⟨.inr (.inr (.inl ⟨n, hn⟩)), (m1.mfr n b hn).2⟩, ofr := fun n b h1 h2 => ⟨.inr (.inr ⟨n, h1, h2⟩), (m1.ofr n b h1 h2).2⟩,
            minj := m1.minj, oinj := m1.oinj, disj := m1.disj, blk := m1.blk, key := m1.key, own := m1.own, inew := fun _ _ h => .inl h, iold := fun _ _ h => h, pin := fun _ _ _ h => h.elim }
/-- ONE OPERATION ON SUCH OBJECTS. -/
theorem WLK_obj {ops : Array Oper} {o : Oper} {rest : List Oper} {tm : List (Nat × AV)} {bl : List (Nat × List AV)} {ow : List Nat} (hR : Rt w0 I0 w1 M I1 os) (hg : o.guard = none) (hd : dstB nt o = true)
    (h : ∀ (ρ : Operand → Value) (w : World), (∀ x v, ev tm x = .v v → ρ x = v) → (∀ p ∈ os, w.heap[p.1]? = some p.2) → ∃ (y : Value) (w' : World) (row : Option Nat) (os' : List (Nat × Obj)), ((execOp ρ o).run P w = .ok (.value y) w' ∨ ((execOp ρ o).run P w = .ok .skip w' ∧ y = undef)) ∧ w.grownBy w' row ∧ (∀ r, row = some r → ∃ ob, (r, ob) ∈ os) ∧
      (∀ p ∈ os', w'.heap[p.1]? = some p.2 ∧ p.2.isCells = false ∧ ((∃ ob, (p.1, ob) ∈ os) ∨ w.heap.size ≤ p.1)) ∧
      ∀ (M' : Nat → Prop) (I' : Nat → Nat → Prop), Rt w0 I0 w' M' I' os' → WLK (Ek P w' nt M' I') ops rest K ((⟨tm, bl, ow⟩ : St).app o.dst (.v y) [] [])) : WLK (Ek P w1 nt M I1) ops (o :: rest) K ⟨tm, bl, ow⟩ := by
  intro g a w hi
  obtain ⟨y, w', row, os', hrun, k1, k2, k3, k4⟩ := h a.eval w (fun x v hx => by
    have h1 := rep_ev hi.tm x
    rw [hx] at h1
    simpa only [rep] using h1) (hR.here hi)
  obtain ⟨hR', hi', go⟩ := hR.turn (os' := os') hi k1 k2 k3
  unfold wpListIn
  have : Region.wanted o (yielded ops a.tmps) = true := by simp [Region.wanted, hg]
  rw [this]
  refine wp_of_uponQ (K := fun y' w'' => y' = y ∧ w'' = w') ?_ fun y' w'' ⟨e1, e2⟩ => ?_
  · show UponQ P _ _
    rcases hrun with hrun | ⟨hrun, hu⟩
    · rw [hrun]; exact ⟨rfl, rfl⟩
    · rw [hrun]; exact ⟨hu.symm, rfl⟩
  · subst e1; subst e2
    exact k4 _ _ hR' _ _ _ (hi'.app (nb := []) (no := []) (dstB_spec hd) (Goes.refl _ _) hi'.mem (by simp [rep]))
end

/-! ### Maps with integer keys -/
theorem grownBy_put_drew {w w1 : World} (h : w1 = w ∨ w1 = w.drew) (l : Nat) (o : Obj) : w.grownBy (w1.putObj l o) (some l) := by
  rcases h with rfl | rfl
  · exact grownBy_putObj' _ l o
  · have h := grownBy_putObj' w.drew l o
    exact ⟨h.os, h.tape, h.output, h.size, h.block⟩
theorem heap_dr {w w1 : World} (h : w1 = w ∨ w1 = w.drew) : w1.heap = w.heap := by rcases h with rfl | rfl <;> rfl
theorem findNow_none {q : IntKind} {a : Int} : ∀ (es : List MapEntry) (i : Nat), (∀ x ∈ es, ∃ b : Int, x.key = .int q b ∧ a ≠ b) → Instr.findNow (.int q) (.int q a) es i = some none
  | [], _, _ => rfl
  | x :: es, i, h => by
    obtain ⟨b, h1, h2⟩ := h x (by simp)
    have e : (a == b) = false := by simpa using h2
    simp only [Instr.findNow, h1, Instr.sameNow, if_true, e]
    exact findNow_none es (i + 1) (fun y hy => h y (by simp [hy]))
theorem run_mapUpdate_new {P : Program} {w : World} {t k e : TypeId} {q : IntKind} {bm clock : Nat} {es : Array MapEntry} {a : Int} {v : Value} (ht : P.underlying t = some (.map k e)) (hk : P.underlying k = some (.int q)) (hb : w.heap[bm]? = some (.map es clock)) (hn : ∀ x ∈ es.toList, ∃ b : Int, x.key = .int q b ∧ a ≠ b) :
    (Instr.mapUpdate t (.map (some bm)) (.int q a) v).run P w = .ok () (w.putObj bm (.map (es.push { key := .int q a, val := v, born := clock }) (clock + 1))) := by
  have h1 : ∀ k', (Instr.checkKey false (k' + 1) k (.int q a)).run P w = .ok () w := fun k' => by simp [Instr.checkKey, run_underlying hk]
  have h2 := h1 9999
  simp only [Instr.mapUpdate, Sem.run_bind, run_underlying ht, Result.andThen_ok, MapKept.run_getObj_map hb, h2, Instr.findKey, run_underlying hk, findNow_none es.toList 0 hn, Sem.run_pure]
  simp only [setObj, Sem.run, hb]
  rfl
theorem run_rangeG {P : Program} {w : World} {t k e : TypeId} {bm clock : Nat} {es : Array MapEntry} (ht : P.underlying t = some (.map k e)) (hb : w.heap[bm]? = some (.map es clock)) : (Instr.range t (.map (some bm))).run P w = .ok (.pointer (some ⟨w.heap.size, 0, none⟩)) (w.alloc (.mapIter (some bm) clock #[] clock)) := run_range_map w t k e bm es clock ht hb
theorem run_nextG {P : Program} (w : World) (ty : TypeId) (bi bm since c0 : Nat) (seen : Array Nat) (es : Array MapEntry) (clock : Nat) (hi : w.heap[bi]? = some (.mapIter (some bm) since seen c0)) (hb : w.heap[bm]? = some (.map es clock)) (hold : ∀ x ∈ es.toList, x.born < since) (hsc : since ≤ c0) :
    ((leftOf es seen).size = 0 ∧ (Instr.next (.pointer (some ⟨bi, 0, none⟩)) false ty).run P w = .ok (.tuple #[.bool false]) w) ∨
    ∃ e ∈ (leftOf es seen).toList, ∃ w1 : World, (w1 = w ∨ w1 = w.drew) ∧ (Instr.next (.pointer (some ⟨bi, 0, none⟩)) false ty).run P w = .ok (.tuple #[.bool true, e.key, e.val]) (w1.putObj bi (.mapIter (some bm) since (seen.push e.born) clock)) := by
  simp only [Instr.next, getObj, Sem.run_bind, Sem.run, hi, hb, Result.andThen, next_test_false seen es since c0 hold hsc, Bool.false_eq_true, if_false]
  unfold leftOf
  have hmem : ∀ x ∈ (Array.filter (fun e => !seen.contains e.born) es).toList, x.born < since := fun x hx => hold x (by simp at hx ⊢; exact hx.1)
  generalize Array.filter (fun e => !seen.contains e.born) es = L at hmem ⊢
  have e1 : L.filter (fun x => decide (x.born < since)) = L := Array.filter_eq_self.2 (fun x hx => by simpa using hmem x (by simpa using hx))
  have e2 : L.filter (fun x => decide (x.born ≥ since)) = #[] := by
    rw [Array.filter_eq_empty_iff]
    intro x hx
    have := hmem x (by simpa using hx)
    simp
    omega
  simp only [e1, e2, Array.append_empty]
  by_cases h0 : L.size = 0
  · left
    have : L = #[] := Array.eq_empty_of_size_eq_zero h0
    subst this
    refine ⟨rfl, ?_⟩
    simp [choose, Sem.run, Question.forced]
  · right
    have hne : L.isEmpty = false := by simp [Array.isEmpty, h0]
    simp only [hne, Bool.false_eq_true, if_false, Array.empty_append, Array.size_map]
    have hch : ∃ (j : Nat) (w1 : World), j < L.size ∧ (w1 = w ∨ w1 = w.drew) ∧ (choose (Question.mapNext L.size)).run P w = .ok j w1 := by
      by_cases hf : L.size ≤ 1
      · exact ⟨0, w, by omega, .inl rfl, by simp [choose, Sem.run, Question.forced, hf]⟩
      · exact ⟨_, w.drew, Nat.mod_lt _ (by omega), .inr rfl, by
          simp only [choose, Sem.run, Question.forced, decide_eq_true_eq, hf, if_false, Question.cut]
          rfl⟩
    obtain ⟨j, w1, hj, hal, hrun⟩ := hch
    refine ⟨L[j], by simp, w1, hal, ?_⟩
    have hi1 : w1.heap[bi]? = some (.mapIter (some bm) since seen c0) := by rw [heap_dr hal]; exact hi
    simp only [hrun, Array.getElem?_map, Array.getElem?_eq_getElem hj, Option.map_some, setObj, Sem.run_bind, Sem.run, hi1, Result.andThen]
    rfl
theorem run_entryG {P : Program} {w : World} {bi bm since : Nat} {seen : Array Nat} {es : Array MapEntry} {clock : Nat} {e : MapEntry} (hi : w.heap[bi]? = some (.mapIter (some bm) since (seen.push e.born) clock)) (hb : w.heap[bm]? = some (.map es clock)) (he : e ∈ es.toList) (hn : (es.toList.map (·.born)).Nodup) :
    (Instr.entry (.pointer (some ⟨bi, 0, none⟩))).run P w = .ok (.tuple #[e.key, e.val]) w := by
  have hf : es.find? (·.born == e.born) = some e := by rw [← Array.find?_toList]; exact find_born e es.toList hn he
  simp only [Instr.entry, getObj, Sem.run_bind, Sem.run, hi, hb, Result.andThen, Array.back?_push, bne_self_eq_false, Bool.false_eq_true, if_false, hf]
  rfl
/-! ### Loops whose rounds turn such objects -/
def nextO (P : Program) (w0 : World) (nt : Nat) (I0 : Nat → Nat → Prop) {ι : Type} (J : ι → Prop) (μ : ι → Nat) (X : ι → St) (osf : ι → List (Nat × Obj)) (i : ι) (K : Exit → Act → World → Prop) : Exit → Act → World → Prop
  | .normal, a, w => ∃ j, J j ∧ μ j < μ i ∧ ∃ w1 M I1 g, Rt w0 I0 w1 M I1 (osf j) ∧ Inv (Ek P w1 nt M I1) g (X j) a w
  | e, a, w => K e a w
section
variable {P : Program} {nt : Nat} {w0 w1 : World} {I0 I1 : Nat → Nat → Prop} {M : Nat → Prop} {K : Exit → Act → World → Prop} {c : Code} {ι : Type} {J : ι → Prop} {μ : ι → Nat} {X : ι → St} {osf : ι → List (Nat × Obj)}
theorem WK_loopO (J : ι → Prop) (μ : ι → Nat) (X : ι → St) (osf : ι → List (Nat × Obj)) (i0 : ι) {s : St} (hR : Rt w0 I0 w1 M I1 (osf i0)) (hJ : J i0) (h0 : Weak (Ek P w1 nt M I1) s (X i0))
    (round : ∀ i, J i → ∀ w1 M I1, Rt w0 I0 w1 M I1 (osf i) → WK (Ek P w1 nt M I1) c (nextO P w0 nt I0 J μ X osf i K) (X i)) : WK (Ek P w1 nt M I1) (.loop c) K s := by
  refine WK_weak h0 (WK_rounds (μ i0 + 1) ?_)
  have key : ∀ m i, μ i ≤ m → J i → ∀ w1 M I1, Rt w0 I0 w1 M I1 (osf i) → WR (Ek P w1 nt M I1) c K (m + 1) (X i) := by
    intro m
    induction m with
    | zero =>
      intro i hi hj w1 M I1 hR
      refine WR_succ fun g a w hI => wpIn_mono (round i hj w1 M I1 hR g a w hI) fun e a' w' hq => ?_
      cases e with
      | normal => obtain ⟨j, _, hlt, _⟩ := hq; omega
      | _ => exact hq
    | succ m ih =>
      intro i hi hj w1 M I1 hR
      refine WR_succ fun g a w hI => wpIn_mono (round i hj w1 M I1 hR g a w hI) fun e a' w' hq => ?_
      cases e with
      | normal =>
        obtain ⟨j, hj, hlt, w1, M, I1, g, hR', hI'⟩ := hq
        exact ih j (by omega) hj w1 M I1 hR' g a' w' hI'
      | _ => exact hq
  exact key _ i0 (Nat.le_refl _) hJ w1 M I1 hR
theorem kQ_next {i : ι} {s : St} {os : List (Nat × Obj)} (j : ι) (hJ : J j) (hlt : μ j < μ i) (hR : Rt w0 I0 w1 M I1 os) (ho : os = osf j) (hw : Weak (Ek P w1 nt M I1) s (X j)) : kQ (Ek P w1 nt M I1) (nextO P w0 nt I0 J μ X osf i K) .normal s := fun g a w hi => by
  subst ho
  obtain ⟨g', hi'⟩ := hw g a w hi
  exact ⟨j, hJ, hlt, w1, M, I1, g', hR, hi'⟩
end
section
variable {P : Program} {nt : Nat} {w1 : World} {I1 : Nat → Nat → Prop} {M : Nat → Prop} {K : Exit → Act → World → Prop} {c : Code} {s : St} {id : Nat}
theorem kQ_then (h : WK (Ek P w1 nt M I1) c K s) : kQ (Ek P w1 nt M I1) (Exit.then (fun a w => c.wpIn (fo none) 0 P K a w) K) .normal s := h
theorem kQ_blk (h : kQ (Ek P w1 nt M I1) K .normal s) : kQ (Ek P w1 nt M I1) (Exit.inBlock id K) .normal s := h
theorem kQ_exit (h : kQ (Ek P w1 nt M I1) K .normal s) : kQ (Ek P w1 nt M I1) (Exit.inBlock id K) (.exit id) s := fun g a w hi => by
  simp only [Exit.inBlock, if_true]
  exact h g a w hi
theorem kQ_nextE {w0 : World} {I0 : Nat → Nat → Prop} {ι : Type} {J : ι → Prop} {μ : ι → Nat} {X : ι → St} {osf : ι → List (Nat × Obj)} {i : ι} {id : Nat} (h : kQ (Ek P w1 nt M I1) K (.exit id) s) : kQ (Ek P w1 nt M I1) (nextO P w0 nt I0 J μ X osf i K) (.exit id) s := h
end
section
variable {E : En} {bl : List (Nat × List AV)} {tm : List (Nat × AV)} {d : Option Tmp} {ty : TypeId} {pos : String} {af : Array Edge} {gd : Option (Nat × Bool)}
theorem QV_extractV {x : Operand} {xs : Array Value} {i : Nat} {v : Value} (hx : ev tm x = .v (.tuple xs)) (h : xs[i]? = some v) : QV E bl tm ⟨d, .extract x i, ty, pos, af, gd⟩ (.v v) [] [] :=
  QV_pure fun g w ρ hop => by
    have h1 := hop x (by simp [Op.operands])
    rw [hx] at h1
    simp only [rep] at h1
    exact ⟨v, by simp [execOp, h1, Instr.extract, h], by simp [rep]⟩
end
theorem grownBy_refl (w : World) : w.grownBy w none := ⟨rfl, rfl, rfl, Nat.le_refl _, fun _ _ _ => rfl⟩
theorem kQ_pass {P : Program} {nt : Nat} {w1 : World} {I1 : Nat → Nat → Prop} {M : Nat → Prop} {K : Exit → Act → World → Prop} {s : St} {id id' : Nat} (hid : Nat.beq id' id = false) (h : kQ (Ek P w1 nt M I1) K (.exit id') s) : kQ (Ek P w1 nt M I1) (Exit.inBlock id K) (.exit id') s := fun g a w hi => by
  have : id' ≠ id := fun e => by rw [e] at hid; simp at hid
  simp only [Exit.inBlock, this, if_false]
  exact h g a w hi
theorem kQ_thenE {P : Program} {nt : Nat} {w1 : World} {I1 : Nat → Nat → Prop} {M : Nat → Prop} {K : Exit → Act → World → Prop} {s : St} {id : Nat} {Y : Act → World → Prop} (h : kQ (Ek P w1 nt M I1) K (.exit id) s) : kQ (Ek P w1 nt M I1) (Exit.then Y K) (.exit id) s := h
end Go.Eng

namespace Go.Eng
open Go Go.RowKit

/-- A new block whose cells are never written again. -/
theorem Mem.newData {E : En} {g : Gh} {bl : List (Nat × List AV)} {ow : List Nat} {w : World} (h : Mem E g bl ow w) (T : Nat) (arr : Array Value) (cs : List AV) (hr : dreps g.I w cs arr.toList) :
    ∃ g', Goes g w g' (w.alloc (.cells arr T)) ∧ Mem E g' bl ow (w.alloc (.cells arr T)) ∧ dcells g'.I (w.alloc (.cells arr T)) w.heap.size 0 cs := by
  let g' : Gh := { g with I := fun b o => g.I b o ∨ (b = w.heap.size ∧ o < arr.size) }
  have hIlt : ∀ b o, g.I b o → b < w.heap.size := fun b o hb => cell_lt (h.cell b o hb)
  have keeps : Keeps g.I w (w.alloc (.cells arr T)) := fun b o hb => World.cell?_of_block (a := ⟨b, o, none⟩) (alloc_heap w _ b (hIlt b o hb))
  have goes : Goes g w g' (w.alloc (.cells arr T)) := by
    refine ⟨fun _ _ h => .inl h, keeps, fun k b hk => hk, fun _ _ _ => rfl, fun k T' e' rows' y hy => ?_⟩
    exact ownRep_goes (g := g) (g' := g') (fun _ _ h => .inl h) keeps (fun _ h => ⟨h, rfl⟩) (fun k b h1 h2 => alloc_heap w _ b (h.ofr k b h1 h2).2)
      (fun k b o h1 h2 h3 => h3.resolve_right fun h4 => by have := (h.ofr k b h1 h2).2; omega) hy
  refine ⟨g', goes, ?_, dcells_of_list (dreps_mono goes.I keeps hr) fun j z hj => ?_⟩
  · refine { below := ⟨h.below.os, h.below.tape, h.below.output, Nat.le_trans h.below.size (by rw [alloc_size]; omega), fun k hk hM => (alloc_heap w _ k (Nat.lt_of_lt_of_le hk h.base)).trans (h.below.block k hk hM)⟩,
             base := by rw [alloc_size]; have := h.base; omega, cell := ?_, mfr := ?_, ofr := ?_, minj := h.minj, oinj := h.oinj, disj := h.disj, blk := ?_, key := h.key, own := h.own, inew := ?_, iold := fun b o hb => .inl (h.iold b o hb), pin := h.pin }
    · intro b o hb
      rcases hb with hb | ⟨rfl, ho⟩
      · rw [keeps b o hb]; exact h.cell b o hb
      · rw [cell_of_heap (alloc_new w _)]; simp [ho]
    · intro k b hk
      have := h.mfr k b hk; rw [alloc_size]; exact ⟨this.1, by omega⟩
    · intro k b h1 h2
      have := h.ofr k b h1 h2; rw [alloc_size]; exact ⟨this.1, by omega⟩
    · intro k cs' hk
      obtain ⟨b, arr', h1, h2, h3, h4⟩ := h.blk k cs' hk
      have hb := (h.mfr k b h1).2
      exact ⟨b, arr', h1, (alloc_heap w _ b hb).trans h2, reps_goes goes h3, fun o ho => by
        rcases ho with ho | ⟨rfl, _⟩
        · exact h4 o ho
        · omega⟩
    · intro b o hb
      rcases hb with hb | ⟨rfl, _⟩
      · exact h.inew b o hb
      · exact .inr (.inl h.base)
  · rw [Nat.zero_add, cell_of_heap (alloc_new w _)]
    have hlt := (List.getElem?_eq_some_iff.1 hj).1
    exact ⟨by simpa using hj, .inr ⟨rfl, by simpa using hlt⟩⟩
section
variable {E : En} {bl : List (Nat × List AV)} {tm : List (Nat × AV)} {d : Option Tmp} {ty : TypeId} {pos : String} {af : Array Edge} {gd : Option (Nat × Bool)}
/-- A call that hands back a closure over its slice. -/
theorem q_seqOf {x : Operand} {ts : Array TypeId} {f f1 T e : Nat} {rows : List (List AV)} [hf : FnOk E.P f] (hC : ∀ (a : Option Addr) (len cap : Nat) (w : World), Calls E.P f #[.slice a len cap] w fun e w' => e = .returned (.func (.func f1) #[] #[.pointer (some ⟨w.heap.size, 0, none⟩)]) ∧ w' = w.alloc (.cells #[.slice a len cap] T))
    (hx : ev tm x = .sl e rows) : QV E bl tm ⟨d, .call ⟨.value (.func f), #[x], ts⟩, ty, pos, af, gd⟩ (.fn (.func f1) [] [.eptr [.sl e rows]]) [] [] := by
  intro g w ρ bl' ow' hm _ _ _ hop
  have h1 := hop (.func f) (by simp [Op.operands, Call.operands])
  have h2 := hop x (by simp [Op.operands, Call.operands])
  rw [hx] at h2
  simp only [rep, ev] at h1 h2
  have h2' := h2
  simp only [drep] at h2
  obtain ⟨A, c, hy, _, _⟩ := h2
  obtain ⟨fn, f1', f2, f3⟩ := hf.ok
  have f2' : fn.name ≠ "runtime.NumGoroutine" := by simpa using f2
  have f3' : fn.body ≠ none := fun e => by rw [e] at f3; simp at f3
  have hrun : (execOp ρ ⟨d, .call ⟨.value (.func f), #[x], ts⟩, ty, pos, af, gd⟩).run E.P w = .ok (.enter f #[ρ x]) w := by
    simp [execOp, resolve, Deferred.ofValue, h1, invoke, callFunc, f1', f2', f3']
  rw [hrun]
  show Calls E.P f #[ρ x] w _
  rw [hy]
  refine (hC A rows.length c w).mono ?_
  rintro e' w' ⟨rfl, rfl⟩
  refine ⟨_, rfl, ?_⟩
  rw [hy] at h2'
  obtain ⟨g', k1, k2, k3⟩ := hm.newData T #[.slice A rows.length c] [.sl e rows] (by simp only [dreps]; exact ⟨_, _, rfl, h2', rfl⟩)
  refine ⟨g', k1, by simpa using k2, ?_⟩
  simp only [rep, reps]
  exact ⟨#[], _, rfl, by simp, _, _, rfl, ⟨_, _, rfl, k3⟩, rfl⟩
end
theorem pin_of {E : En} {g : Gh} {s : St} {a : Act} {w : World} (hi : Inv E g s a w) {pn : List Nat} {t n off : Nat} (h : look s.tm t = .ptr n off) (hn : n ∈ pn) : ∃ b T, (n ∈ pn ∧ g.m n = some b ∧ g.mt n = T) ∧ a.tmps.getD t undef = .pointer (some ⟨b, off, none⟩) := by
  have := hi.tm t
  rw [h] at this
  simp only [rep] at this
  obtain ⟨b, h1, h2⟩ := this
  exact ⟨b, _, ⟨hn, h1, rfl⟩, h2⟩
theorem fn_of {E : En} {g : Gh} {s : St} {a : Act} {w : World} (hi : Inv E g s a w) {t f1 : Nat} {cs : List AV} (h : look s.tm t = .fn (.func f1) [] [.eptr cs]) : ∃ b o, a.eval (.tmp t) = .func (.func f1) #[] #[.pointer (some ⟨b, o, none⟩)] ∧ dcells g.I w b o cs := by
  have := hi.tm t
  rw [h] at this
  simp only [rep, reps] at this
  obtain ⟨A, B, h1, hA, y, zs, hB, ⟨b, o, rfl, hd⟩, rfl⟩ := this
  obtain rfl : A = #[] := by cases A; simp_all
  obtain rfl : B = #[.pointer (some ⟨b, o, none⟩)] := by cases B; simp_all
  exact ⟨b, o, h1, hd⟩
end Go.Eng

namespace Go.Eng
open Go

theorem stepR_scope {P : Program} {b : Frame} {a : Act} {k : List Item} {cs : List Frame} {w : World} {c : Code} : step P (lone (b.atR a (.code (.scope c) :: k)) cs w) = .next (lone (b.atR a (.code c :: .inScope c :: k)) cs w) :=
  step_lone_go (by simp [stepG, stepG.exec, Frame.atR])
theorem stepR_inScope {P : Program} {b : Frame} {a : Act} {k : List Item} {cs : List Frame} {w : World} {c : Code} : step P (lone (b.atR a (.inScope c :: k)) cs w) = .next (lone (b.atR a k) cs w) :=
  step_lone_go (by simp [stepG, stepG.exec, Frame.atR])
end Go.Eng

namespace Go.Eng
open Go Go.RowKit

theorem callP_of {P : Program} {w0 : World} {nt : Nat} {I0 : Nat → Nat → Prop} {rd : Option Nat} {df : List Deferred} {g : Gh} {s : St} {a : Act} {w : World} {y : Value} {r : AV} {R : AV → Prop} (hi : Inv (E0 P w0 nt I0 rd df) g s a w) (hr : rep g w r y) (h2 : R r) (h3 : refs [] s.ow r = true) : callP I0 w0 R (.returned y) w := by
  let g2 : Gh := { g with m := fun _ => none }
  refine ⟨y, r, g2, rfl, h2, rep_refs (g := g) (g' := g2) rfl (fun n b hn => by simp at hn) rfl (fun n _ h => ⟨h, rfl⟩) h3 hr, ?_⟩
  exact ⟨⟨hi.mem.below.os, hi.mem.below.tape, hi.mem.below.output, hi.mem.below.size, hi.mem.below.block⟩, hi.mem.iold, fun b o h => (hi.mem.inew b o h).imp id (fun h => h.resolve_right (fun h => h)), hi.mem.cell, fun n b h1 h2 => ⟨(hi.mem.ofr n b h1 h2).1.resolve_right (fun h => h), (hi.mem.ofr n b h1 h2).2⟩, hi.mem.oinj⟩
def gh0 (I : Nat → Nat → Prop) : Gh := ⟨I, fun _ => none, fun _ => none, fun _ => False, fun _ => 0⟩
/-- A function's contract in the raw, captured variables among its arguments. -/
theorem callsIn_of_WK {P : Program} {f nt n : Nat} {fn : Func} {rs : Array ResultVar} {c : Code} {args : List AV} {tm : List (Nat × AV)} {Rr : Ending → World → Prop} (hf : P.funcs[f]? = some fn) (hnt : fn.ntmps = nt) (hrs : fn.results = rs) (hb : fn.body = some c) (hn : Nat.ble args.length nt = true)
    (htm : ((args.zipIdx 0).map fun p => (p.2, p.1)) = tm) {I : Nat → Nat → Prop} {w : World} {vals : Array Value} (hI : ∀ b o, I b o → (w.cell? ⟨b, o, none⟩).isSome = true) (hargs : reps (gh0 I) w args vals.toList)
    (h : ∀ fn : Func, fn.results = rs → WK (E0 P w nt I none []) c (bodyPostM (fo none) 0 P fn Rr) ⟨tm, [], []⟩) : CallsIn Fence.wide n P f vals w Rr := by
  subst hnt; subst htm
  have hn' := Nat.le_of_ble_eq_true hn
  have hlen := reps_length hargs
  refine callsIn_wide.2 (callsIn_wide.1 (callsIn_of_wp_marks (F := fo none) (n := 0) hf hb trivial ?_ rfl))
  refine h fn hrs (gh0 I) _ w ⟨⟨BelowM.refl _ _ _, Nat.le_refl _, hI, fun n b h => by simp [gh0] at h, fun n b h => by simp [gh0] at h, fun n n' b h => by simp [gh0] at h, fun n n' b h => by simp [gh0] at h, fun n n' b h => by simp [gh0] at h,
    fun n cs h => by simp at h, fun n b h => by simp [gh0] at h, fun n h => by simp [gh0] at h, fun b o h => .inl h, fun b o h => h, fun n b T h => h.elim⟩, fun t => ?_, rfl, ?_⟩
  · simp only [look_zip, Nat.zero_le, if_true, Nat.sub_zero]
    rcases Nat.lt_or_ge t args.length with h1 | h1
    · obtain ⟨y, hy, hr⟩ := reps_get hargs (List.getElem?_eq_getElem h1)
      have : t < vals.size := by simpa [← hlen] using h1
      have hy' : vals[t] = y := by simpa [this] using hy
      simp only [List.getD_eq_getElem?_getD, List.getElem?_eq_getElem h1, Option.getD_some]
      simp only [Array.getD_eq_getD_getElem?, Array.getElem?_append_left this, Array.getElem?_eq_getElem this, Option.getD_some, hy']
      exact hr
    · simp only [List.getD_eq_getElem?_getD, List.getElem?_eq_none h1, Option.getD_none, rep]
  · have : vals.size = args.length := by simpa using hlen
    simp; omega
/-- The end of a function without results. -/
theorem leaves_none {P : Program} {fn : Func} (hrs : fn.results = #[]) {Rr : Ending → World → Prop} {a : Act} {w : World} (hd : a.defers = []) (h : Rr (.returned (.tuple #[])) w) : LeavesInM (fo none) 0 P fn a.tmps Rr a.defers .returning w := by
  rw [hd]
  show ∃ v, (results fn a.tmps).run P w = .ok v w ∧ Rr (.returned v) w
  exact ⟨_, results_none hrs _ _ _, h⟩
theorem look_raw {g : Gh} {w : World} {tmps : Array Value} : ∀ {rtm : List (Nat × Value)}, (∀ p ∈ rtm, tmps.getD p.1 undef = p.2) → ∀ t, rep g w (look (rtm.map fun p => (p.1, .v p.2)) t) (tmps.getD t undef)
  | [], _, t => by simp [look, rep]
  | p :: r, h, t => by
    simp only [List.map_cons, look]
    cases hb : Nat.beq p.1 t
    · exact look_raw (fun q hq => h q (by simp [hq])) t
    · have := Nat.eq_of_beq_eq_true hb
      simp only [cond_true, rep]
      rw [← this]; exact h p (by simp)
/-- The iterator hands out its item; the round stops it; whatever the world is then, plain numbers stand. -/
theorem WLK_yield {P : Program} {nt : Nat} {w0 w1 : World} {I0 I1 : Nat → Nat → Prop} {M : Nat → Prop} {os : List (Nat × Obj)} {K : Exit → Act → World → Prop} {ops : Array Oper} {rest : List Oper} {tm : List (Nat × AV)} {bl : List (Nat × List AV)} {ow : List Nat} {d dg j l m : Nat} {b : Bool} {x y : Operand} {ts : Array TypeId} {ty : TypeId} {pos : String} {af : Array Edge} {r : AV} {Post : World → Prop}
    (hR : Rt w0 I0 w1 M I1 os) (hj : (ops[j]?).bind (·.dst) = some dg) (hg : look tm dg = .v (.bool b)) (hx : ev tm x = .v (.func (.yield l) #[] #[])) (hy : ev tm y = r) (hrefs : refs [] ow r = true) (hd : Nat.blt d nt = true) (rtm : List (Nat × Value)) (hrtm : ∀ p ∈ rtm, look tm p.1 = .v p.2)
    (hY : ∀ v W1, callP I0 w0 (fun r' => r' = r) (.returned v) W1 → YieldAt Fence.wide m P l #[v] W1 fun e W' => e = .returned (.bool false) ∧ Post W')
    (hk : ∀ W', Post W' → WLK (Ek P W' nt (fun _ => False) (fun _ _ => False)) ops rest K ⟨(d, .v (.bool false)) :: rtm.map (fun p => (p.1, .v p.2)), [], []⟩) :
    WLK (Ek P w1 nt M I1) ops (⟨some d, .call ⟨.value x, #[y], ts⟩, ty, pos, af, some (j, b)⟩ :: rest) K ⟨tm, bl, ow⟩ := by
  intro g a w hi
  unfold wpListIn
  have h1 := hi.tm dg
  rw [hg] at h1
  simp only [rep] at h1
  have hw : Region.wanted ⟨some d, .call ⟨.value x, #[y], ts⟩, ty, pos, af, some (j, b)⟩ (yielded ops a.tmps) = true := by simp [Region.wanted, yielded_of hj h1]
  rw [hw]
  have hxv := rep_ev hi.tm x
  rw [hx] at hxv
  simp only [rep] at hxv
  have hyv := rep_ev hi.tm y
  rw [hy] at hyv
  obtain ⟨fn, tmps, assign, body, e1, e2⟩ := hY (a.eval y) w (callP_of (hR.inv hi) hyv rfl hrefs)
  refine ⟨fun _ _ => trivial, ?_⟩
  rw [Oper.semAt_eq _ _ _ (fun c hc => by cases hc)]
  have hrun : (execOp a.eval ⟨some d, .call ⟨.value x, #[y], ts⟩, ty, pos, af, some (j, b)⟩).run P w = .ok (.round l fn tmps assign body) w := by
    simp [execOp, resolve, Deferred.ofValue, hxv, invoke, e1]
  rw [hrun, Oper.uponIn_round]
  refine ⟨fun h => by simp at h, trivial, fun c cs _ => ?_⟩
  obtain ⟨e, w', ⟨rfl, hP⟩, hc⟩ := e2.2 c cs (by simp [Fence.room, Fence.wide])
  refine ⟨.returned (.bool false), w', ?_, hc⟩
  refine hk w' hP (gh0 fun _ _ => False) _ w' ⟨⟨BelowM.refl _ _ _, Nat.le_refl _, fun _ _ h => h.elim, fun n b h => by simp [gh0] at h, fun n b h => by simp [gh0] at h, fun n n' b h => by simp [gh0] at h, fun n n' b h => by simp [gh0] at h, fun n n' b h => by simp [gh0] at h,
    fun n cs h => by simp at h, fun n b h => by simp [gh0] at h, fun n h => by simp [gh0] at h, fun b o h => .inl h, fun b o h => h, fun n b T h => h.elim⟩, ?_, hi.de, by simp [Act.put, hi.sz]⟩
  refine look_put (E := Ek P w1 nt M I1) (s := ⟨rtm.map (fun p => (p.1, .v p.2)), [], []⟩) (d := some d) (v := .v (.bool false)) (y := .bool false) [] [] (fun k hk => by cases hk; exact Nat.le_of_ble_eq_true hd) hi.sz (look_raw fun p hp => ?_) (by simp [rep])
  have := hi.tm p.1
  rw [hrtm p hp] at this
  simpa only [rep] using this

/-- THE LOOP's SIDE: its first round returns. -/
theorem range_first {P : Program} {w0 : World} {nt : Nat} {I0 : Nat → Nat → Prop} {g : Gh} {s : St} {a : Act} {w : World} (hi : Inv (E0 P w0 nt I0 none []) g s a w) (how : s.ow = [])
    {f : Operand} {p : Tmp} {assign body : Code} {gf : Nat} {lb : Array Value} (hf : a.eval f = .func (.func gf) #[] lb) [hfn : FnOk P gf] {r r1 : AV} (k : Nat) (os : List Nat) {os1 : List Nat} (hos : ownsIn os r = true) (hr1 : ren k r = r1) (hos1 : os.map (k + ·) = os1) (hp : p < nt)
    (hseq : ∀ (l : Nat) (W1 : World) (Post : World → Prop), (∀ b o, g.I b o → (W1.cell? ⟨b, o, none⟩).isSome = true) → (∀ b o, g.I b o → W1.cell? ⟨b, o, none⟩ = w.cell? ⟨b, o, none⟩) → (∀ A C, Post A → BelowM A.heap.size (fun _ => False) A C → Post C) →
      (∀ v W2, callP g.I W1 (fun r' => r' = r) (.returned v) W2 → YieldAt Fence.wide 3 P l #[v] W2 fun e W' => e = .returned (.bool false) ∧ Post W') → CallsIn Fence.wide 4 P gf (#[.func (.yield l) #[] #[]] ++ lb) W1 fun e W' => (∃ v, e = .returned v) ∧ Post W')
    (pn : List Nat) (tmI : List (Nat × AV)) (hT : TmPin (fun n b T => n ∈ pn ∧ g.m n = some b ∧ g.mt n = T) a.tmps tmI) (blF : List (Nat × List AV)) (owF : List Nat)
    (hround : ∀ (B : Nat) (w1 w2 : World) (M : Nat → Prop) (I1 : Nat → Nat → Prop) (q : Nat → Nat → Nat → Prop) (l : Nat),
      W (Er P B w1 nt M I1 pn q l) assign (fun e s1 => e = .normal ∧ W (Er P B w2 nt M I1 pn q l) body (fun e s2 => e = .ret ∧ ∃ tm, Weak (Er P B w2 nt M I1 pn q l) s2 ⟨tm, blF, owF⟩) s1) ⟨(p, r1) :: tmI, s.bl, os1⟩)
    {fn : Func} {rs : Array ResultVar} {R : AV → Prop} {K : Exit → Act → World → Prop} (hK : ∀ a w, markK P fn I0 w0 R .ret a w → K .ret a w) (hrs : fn.results = rs) (hres : ∃ xs, resA P ⟨tmI, blF, owF⟩ rs.toList xs ∧ R (oneA xs) ∧ refs [] owF (oneA xs) = true) :
    (Code.rangeFunc f #[p] assign body).wpIn (fo none) 0 P K a w := by
  subst hrs; subst hr1; subst hos1
  obtain ⟨gfn, f1, f2, f3⟩ := hfn.ok
  have f2' : gfn.name ≠ "runtime.NumGoroutine" := by simpa using f2
  have f3' : gfn.body ≠ none := fun e => by rw [e] at f3; simp at f3
  have eg : ∀ args w, (callFunc gf args).run P w = .ok (.enter gf args) w := fun args w => by simp [callFunc, f1, f2', f3']
  have hde : a.defers = [] := hi.de
  have hsz := hi.sz
  have hbase : w0.heap.size ≤ w.heap.size := hi.mem.base
  refine wpIn_rangeFunc ?_
  intro fn' _
  show ∃ (l : Nat) (mark : List Deferred) (w₁ : World) (d : Deferred) (w₁' : World) (f' : FuncId) (args : Array Value) (w₂ : World), (Instr.enterLoop fn' a.tmps #[p] assign body none).run P w = .ok (l, mark) w₁ ∧ _
  obtain ⟨rec, hrec⟩ : ∃ rec : LoopState → Option Code → Loop, rec = fun st pe => { state := st, pending := pe, fn := fn', tmps := a.tmps, params := #[p], assign, body, defers := w.heap.size } := ⟨_, rfl⟩
  obtain ⟨W1, hW1⟩ : ∃ W1, (w.alloc (.deferred (some []))).alloc (.loop (rec .ready none)) = W1 := ⟨_, rfl⟩
  have hsz1 : W1.heap.size = w.heap.size + 2 := by rw [← hW1]; simp
  have hL1 : W1.heap[w.heap.size + 1]? = some (.loop (rec .ready none)) := by
    rw [← hW1]; have := World.alloc_heap_new (w.alloc (.deferred (some []))) (.loop (rec .ready none)); rwa [World.size_alloc] at this
  have hK1 : W1.heap[w.heap.size]? = some (.deferred (some [])) := by
    rw [← hW1]; exact (Below.heap_alloc _ _ _ (by simp)).trans (World.alloc_heap_new w _)
  have hgr : w.grownBy W1 none := by
    rw [← hW1]
    exact ⟨rfl, rfl, rfl, by simp; omega, fun k hk _ => (Below.heap_alloc _ _ k (by simp; omega)).trans (Below.heap_alloc _ _ k hk)⟩
  obtain ⟨m1, go1⟩ := hi.mem.carry (rd' := none) (df' := []) hgr (fun r e => by cases e) (hi.mem.below.trans' (BelowM.grown hgr hbase (fun r e => by cases e)))
  let p0 : Nat → Nat → Nat → Prop := fun n b T => n ∈ pn ∧ g.m n = some b ∧ g.mt n = T
  have m2 := m1.reroot (pin := p0) (fun n b T h => h.2) none []
  let E1 : En := ⟨P, W1.heap.size, W1, nt, Ob g, [], g.I, p0, none, []⟩
  have hlO : ∀ k, w.heap.size ≤ k → ¬ Ob g k := fun k hk hO => by have := (ob_new hi.mem hO).2; omega
  have hlW : w.heap.size + 1 < W1.heap.size := by omega
  obtain ⟨busy, hbusy⟩ : ∃ o : Obj, o = .loop { rec .ready none with state := .busy } := ⟨_, rfl⟩
  obtain ⟨dn, hdn⟩ : ∃ o : Obj, o = .loop { rec .ready none with state := .done, pending := some .ret } := ⟨_, rfl⟩
  obtain ⟨Wb, hWb⟩ : ∃ W, W1.putObj (w.heap.size + 1) busy = W := ⟨_, rfl⟩
  obtain ⟨Wd, hWd⟩ : ∃ W, Wb.putObj (w.heap.size + 1) dn = W := ⟨_, rfl⟩
  have hszb : Wb.heap.size = W1.heap.size := by rw [← hWb]; simp
  have hszd : Wd.heap.size = W1.heap.size := by rw [← hWd]; simp [hszb]
  have hLd : Wd.heap[w.heap.size + 1]? = some dn := by rw [← hWd]; exact World.putObj_heap_same (by omega)
  have hKd : Wd.heap[w.heap.size]? = some (.deferred (some [])) := by
    rw [← hWd, World.putObj_heap_other (by omega), ← hWb, World.putObj_heap_other (by omega)]; exact hK1
  have hbd : BelowM w0.heap.size (fun _ => False) w0 Wd := by
    have h1 := m1.below
    have h2 := h1.trans' (BelowM.grown (grownBy_putObj' W1 (w.heap.size + 1) busy) m1.base (fun r e => by cases e; exact .inl (by show w0.heap.size ≤ _; omega)))
    rw [hWb] at h2
    have h3 := h2.trans' (BelowM.grown (grownBy_putObj' Wb (w.heap.size + 1) dn) (by rw [hszb]; exact m1.base) (fun r e => by cases e; exact .inl (by show w0.heap.size ≤ _; omega)))
    rw [hWd] at h3
    exact h3
  let Post : World → Prop := fun A => ∃ g', Mem ⟨P, W1.heap.size, Wd, nt, Ob g, [], g.I, p0, none, []⟩ g' blF owF A
  refine ⟨w.heap.size + 1, [{ target := .collected w.heap.size, args := #[] }], W1, { target := .fn (.func gf) lb, args := #[.func (.yield (w.heap.size + 1)) #[] #[]] }, W1, gf, #[.func (.yield (w.heap.size + 1)) #[] #[]] ++ lb, W1, ?_, ?_, fun _ _ => trivial, ?_, fun h => by simp at h, ?_⟩
  · rw [← hW1, hrec]; exact run_enterLoop_outer _ _ _ _ _
  · simp only [resolve, hf]
    simp [go_sem]
  · simp [invoke, go_sem, eg]
  refine callsIn_wide.2 (callsIn_wide.1 ((hseq (w.heap.size + 1) W1 Post m1.cell (fun b o hI => go1.keeps b o hI) ?_ ?_).mono ?_))
  · rintro A C ⟨g', hm⟩ hb
    exact ⟨g', (hm.later hb).2⟩
  · -- the round
    rintro v W2 ⟨y, r', gC, hy, rfl, hr, hret⟩
    cases hy
    obtain ⟨gc, go2, m3, h7, h8⟩ := m2.called hret k os (fun n _ => by rw [how]; simp)
    have hl2 : W2.heap[w.heap.size + 1]? = some (.loop (rec .ready none)) := (hret.below.block _ hlW (fun h => h)).trans hL1
    have hyl := run_yield (P := P) (args := #[v]) hl2 (by rw [hrec]; rfl)
    rw [hrec] at hyl
    refine ⟨fn', _, assign, body, hyl, roundIn_of_wpIn trivial ?_⟩
    clear hyl
    let p1 : Nat → Nat → Nat → Prop := fun n b T => g.m n = some b ∧ g.mt n = T
    have hw := hround W1.heap.size W1 Wb (Ob g) g.I p1 (w.heap.size + 1)
    have htm := tmPin_rep m3 hT
    have hm0 : Mem (Er P W1.heap.size W1 nt (Ob g) g.I pn p1 (w.heap.size + 1)) gc s.bl (os.map (k + ·)) W2 := by
      have := m3.re (rd' := some (w.heap.size + 1)) (df' := [])
      rw [how, List.append_nil] at this
      exact this
    have hitem : rep gc W2 (ren k r') v := rep_ren h7 h8 hos hr
    have htm1 : ∀ t, rep gc W2 (look ((p, ren k r') :: tmI) t) (((#[p].zip #[v]).foldl (fun (t : Array Value) (p, v) => t.setIfInBounds p v) a.tmps).getD t undef) := by
      have e : ((#[p].zip #[v]).foldl (fun (t : Array Value) (p, v) => t.setIfInBounds p v) a.tmps) = a.tmps.setIfInBounds p v := by simp [Array.zip]
      rw [e]
      exact look_put (E := E1) (s := ⟨tmI, [], []⟩) (d := some p) (a := { tmps := a.tmps, defers := [] }) [] [] (fun k hk => by cases hk; exact hp) hsz htm hitem
    refine wpIn_any (rd := some (w.heap.size + 1)) (wpIn_mono (hw gc _ W2 ⟨hm0, htm1, rfl, afoldl_set_size.trans hsz⟩) fun e a1 w1 hq => ?_)
    obtain ⟨g1, s1, ⟨rfl, hB⟩, hi1⟩ := hq
    have hl1 : w1.heap[w.heap.size + 1]? = some (.loop (rec .ready none)) := (hi1.mem.below.block _ hlW (hlO _ (by omega))).trans hL1
    have hbr := run_beginRound (P := P) hl1 (by rw [hrec])
    rw [← hbusy] at hbr
    have hgr1 := grownBy_putObj' w1 (w.heap.size + 1) busy
    have hbp := hi1.mem.below.put busy hlW
    rw [hWb] at hbp
    obtain ⟨m5, go5⟩ := hi1.mem.carry (rd' := some (w.heap.size + 1)) (df' := []) hgr1 (fun r e => by cases e; exact ⟨_, hl1, rfl⟩) hbp
    refine ⟨_, hbr, wpIn_any (rd := some (w.heap.size + 1)) (wpIn_mono (hB g1 a1 _ ⟨m5, fun t => rep_goes go5 (hi1.tm t), hi1.de, hi1.sz⟩) fun e a3 w3 hq => ?_)⟩
    obtain ⟨g3, s3, ⟨rfl, tm3, hwk⟩, hi3⟩ := hq
    obtain ⟨g4, hi4⟩ := hwk g3 a3 w3 hi3
    have hlWb : w.heap.size + 1 < Wb.heap.size := by rw [hszb]; exact hlW
    have hl3 : w3.heap[w.heap.size + 1]? = some (.loop { rec .ready none with state := .busy }) := by
      rw [hi4.mem.below.block _ hlW (hlO _ (by omega)), ← hWb, World.putObj_heap_same hlW, hbusy]
    have hend := run_endRound (P := P) (some .ret) hl3
    have hrr : (Obj.loop { ({ rec .ready none with state := .busy } : Loop) with state := if (some Code.ret).isNone then .ready else .done, pending := some .ret }) = dn := by rw [hdn]; rfl
    rw [hrr] at hend
    have hgr3 := grownBy_putObj' w3 (w.heap.size + 1) dn
    have hbp3 := hi4.mem.below.put dn hlWb
    rw [hWd] at hbp3
    obtain ⟨m6, _⟩ := hi4.mem.carry (rd' := none) (df' := []) hgr3 (fun r e => by cases e; exact ⟨_, hl3, rfl⟩) hbp3
    exact ⟨_, _, hend, rfl, ⟨g4, m6⟩⟩
  · -- behind the iterator
    rintro e W3 ⟨⟨v, rfl⟩, g', hm⟩
    have hl3 : W3.heap[w.heap.size + 1]? = some dn := (hm.below.block _ hlW (hlO _ (by omega))).trans hLd
    have hk3 : W3.heap[w.heap.size]? = some (.deferred (some [])) := (hm.below.block _ (by show w.heap.size < W1.heap.size; omega) (hlO _ (Nat.le_refl _))).trans hKd
    rw [hdn] at hl3
    have hend := run_endLoop (P := P) hl3 (by simp)
    obtain ⟨ex, hex⟩ : ∃ o : Obj, o = .loop { ({ rec .ready none with state := .done, pending := some .ret } : Loop) with state := .exhausted } := ⟨_, rfl⟩
    rw [← hex] at hend
    refine ⟨some .ret, _, hend, ?_⟩
    have htm := tmPin_rep hm hT
    have m7 := m1.unroot hm hbd none []
    have hgr7 := grownBy_putObj' W3 (w.heap.size + 1) ex
    obtain ⟨m8, go8⟩ := m7.carry (rd' := none) (df' := []) hgr7 (fun r e => by cases e; exact ⟨_, hl3, rfl⟩) (m7.below.trans' (BelowM.grown hgr7 m7.base (fun r e => by cases e; exact .inl (by show w0.heap.size ≤ _; omega))))
    have hk4 : (W3.putObj (w.heap.size + 1) ex).heap[w.heap.size]? = some (.deferred (some [])) := (World.putObj_heap_other (by omega)).trans hk3
    have hgr9 := grownBy_putObj' (W3.putObj (w.heap.size + 1) ex) w.heap.size (.deferred none)
    obtain ⟨m9, go9⟩ := m8.carry (rd' := none) (df' := [{ target := .collected w.heap.size, args := #[] }]) hgr9 (fun r e => by cases e; exact ⟨_, hk4, rfl⟩) (m8.below.trans' (BelowM.grown hgr9 m8.base (fun r e => by cases e; exact .inl (by show w0.heap.size ≤ _; omega))))
    obtain ⟨xs, k1, k2, k3⟩ := hres
    refine wpIn_ret (hK _ _ ?_)
    show LeavesInM _ _ _ _ _ _ ([{ target := .collected w.heap.size, args := #[] }] ++ a.defers) .returning _
    rw [hde]
    refine ⟨by simp, .inl ⟨w.heap.size, (W3.putObj (w.heap.size + 1) ex).putObj w.heap.size (.deferred none), rfl, run_takeDeferred hk4, ?_⟩⟩
    exact ret_of (df := [{ target := .collected w.heap.size, args := #[] }]) (s := ⟨tmI, blF, owF⟩) (a := { tmps := a.tmps, defers := [{ target := .collected w.heap.size, args := #[] }] }) ⟨m9, fun t => rep_goes go9 (rep_goes go8 (htm t)), rfl, hsz⟩ k1 k2 k3
/-- A label's scope to which nobody jumps. -/
def noGo (K : Exit → Act → World → Prop) : Exit → Act → World → Prop
  | .goto _, _, _ => False
  | e, a, w => K e a w
theorem WK_scope {E : En} {c : Code} {K : Exit → Act → World → Prop} {s : St} (h : WK E c (noGo K) s) : WK E (.scope c) K s := by
  intro g a w hi b k cs hro hb hr
  have hx : ∀ id, exitTo id (.inScope c :: k) = exitTo id k := fun id => by simp [exitTo]
  have f0 : ∀ (a : Act) (w : World) (k' : List Item), (lone (b.atR a (.inScope c :: k')) cs w).fenced E.P (fo E.rd) := fun _ _ _ => fenced_calm hb hr rfl
  have f1 : (lone (b.atR a (.code (.scope c) :: k)) cs w).fenced E.P (fo E.rd) := fenced_calm hb hr rfl
  obtain ⟨e, a₁, w₁, hq, harr⟩ := h g a w hi b (.inScope c :: k) cs hro hb hr
  cases e with
  | normal => exact ⟨.normal, a₁, w₁, hq, .head f1 stepR_scope (StepsIn.trans harr (.one (f0 _ _ _) stepR_inScope))⟩
  | exit id => exact ⟨.exit id, a₁, w₁, hq, fun k' hk => .head f1 stepR_scope (harr.1 k' (by rw [hx]; exact hk)), fun h1 hk => let ⟨k₁, h2, h3⟩ := harr.2 h1 (by rw [hx]; exact hk); ⟨k₁, h2, .head f1 stepR_scope h3⟩⟩
  | goto l' => exact hq.elim
  | ret => exact ⟨_, a₁, w₁, hq, .of_steps (.one f1 stepR_scope) harr⟩
  | panic ch => exact ⟨_, a₁, w₁, hq, .of_steps (.one f1 stepR_scope) harr⟩
  | outgrown => exact ⟨_, a₁, w₁, hq, .of_steps (.one f1 stepR_scope) harr⟩
end Go.Eng
