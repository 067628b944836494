/- My walking engine, part 9: abstract values of Go, and the rules of a walk over them. No program in sight. -/
import Derived.Test.YtpcahgedkmgllaaGreatZ4
namespace Go.Eng
open Go

def inL : List Nat → Nat → Bool
  | [], _ => false
  | k :: r, i => bif Nat.beq k i then true else inL r i
def pickB (ls : List Nat) (i : Nat) (bl : List (Nat × List AV)) : List (Nat × List AV) := bif inL ls i then [] else bl
def HS (E : En) (ops : Array Oper) (bl : List (Nat × List AV)) (ls : List Nat) : Nat → List Oper → St → (St → Prop) → Prop
  | _, [], s, K => K s
  | k, o :: rest, s, K =>
    (∃ v, QV E (pickB ls k bl) s.tm o v [] [] ∧ dstB E.nt o = true ∧
      (o.guard = none ∨ ∃ j d b, o.guard = some (j, b) ∧ (ops[j]?).bind (·.dst) = some d ∧ look s.tm d = .v (.bool b)) ∧ HS E ops bl ls (k + 1) rest (s.app o.dst v [] []) K) ∨
    (∃ j d b, o.guard = some (j, !b) ∧ (ops[j]?).bind (·.dst) = some d ∧ look s.tm d = .v (.bool b) ∧ dstB E.nt o = true ∧ HS E ops bl ls (k + 1) rest (s.app o.dst (.v undef) [] []) K)
def SV (E : En) (tm : List (Nat × AV)) (bl : List (Nat × List AV)) (o : Oper) (bl1 : List (Nat × List AV)) : Prop :=
  o.dst = none ∧ o.guard = none ∧ ∀ (L : Lg E.P) (g : Gh) (ρ : Operand → Value) (ow : List Nat) (x : CW), MemV E g bl ow x → (∀ y ∈ o.op.operands, rep g x.w (ev tm y) (ρ y)) →
    OpV L o ρ x fun _ x' => ∃ g', Goes g x.w g' x'.w ∧ MemV E g' bl1 ow x'
structure StepS (E : En) (ops : Array Oper) (bl : List (Nat × List AV)) (s : St) (o : Oper) (t : Tr) : Prop where
  d : t.d = o.dst
  dst : dstB E.nt o = true
  nb : t.nb = []
  no : t.no = []
  run : (QV E bl s.tm o t.v [] [] ∧ (o.guard = none ∨ ∃ j d b, o.guard = some (j, b) ∧ (ops[j]?).bind (·.dst) = some d ∧ look s.tm d = .v (.bool b))) ∨
    (t.v = .v undef ∧ ∃ j d b, o.guard = some (j, !b) ∧ (ops[j]?).bind (·.dst) = some d ∧ look s.tm d = .v (.bool b))
theorem HS_trace {E : En} {ops : Array Oper} {bl : List (Nat × List AV)} {ls : List Nat} {K : St → Prop} : ∀ (l : List Oper) (k : Nat) (s : St), HS E ops bl ls k l s K →
    ∃ T : List Tr, T.length = l.length ∧ K (stS (fun _ => true) T 0 s) ∧ (∀ t ∈ T, t.nb = [] ∧ t.no = []) ∧
      (∀ i o t, l[i]? = some o → T[i]? = some t → StepS E ops (pickB ls (k + i) bl) (stS (fun j => decide (j < i)) T 0 s) o t)
  | [], k, s, h => ⟨[], rfl, h, fun t ht => by simp at ht, fun i o t hi => by simp at hi⟩
  | o :: rest, k, s, h => by
    have shift : ∀ (L : Nat → Bool) (T : List Tr) (i : Nat) (s : St), stS L T (i + 1) s = stS (fun j => L (j + 1)) T i s := by
      intro L T
      induction T with
      | nil => intro i s; rfl
      | cons t T ih => intro i s; simp only [stS]; exact ih (i + 1) _
    have zero : ∀ (T : List Tr) (i : Nat) (s : St), stS (fun _ => false) T i s = s := by
      intro T
      induction T with
      | nil => intro i s; rfl
      | cons t T ih => intro i s; simp only [stS, cond_false]; exact ih _ s
    have go : ∀ (t : Tr), StepS E ops (pickB ls k bl) s o t → HS E ops bl ls (k + 1) rest (s.app t.d t.v [] []) K →
        ∃ T : List Tr, T.length = (o :: rest).length ∧ K (stS (fun _ => true) T 0 s) ∧ (∀ t ∈ T, t.nb = [] ∧ t.no = []) ∧
      (∀ i o' t, (o :: rest)[i]? = some o' → T[i]? = some t → StepS E ops (pickB ls (k + i) bl) (stS (fun j => decide (j < i)) T 0 s) o' t) := by
      intro t hs hk
      obtain ⟨T, h1, h2, h0, h3⟩ := HS_trace rest (k + 1) _ hk
      refine ⟨t :: T, by simp [h1], ?_, ?_, fun i o' t' hi ht => ?_⟩
      · simp only [stS, cond_true]; rw [shift, hs.nb, hs.no]; exact h2
      · intro t' ht'
        rcases List.mem_cons.1 ht' with rfl | ht'
        · exact ⟨hs.nb, hs.no⟩
        · exact h0 t' ht'
      · cases i with
        | zero =>
          simp only [List.getElem?_cons_zero, Option.some.injEq] at hi ht
          subst hi; subst ht
          have e : stS (fun j => decide (j < 0)) (t :: T) 0 s = s := by
            simp only [stS, Nat.not_lt_zero, decide_false, cond_false]; exact zero _ _ _
          rw [e]; exact hs
        | succ i =>
          have := h3 i o' t' (by simpa using hi) (by simpa using ht)
          simp only [stS, Nat.zero_lt_succ, decide_true, cond_true]
          rw [shift, hs.nb, hs.no, show k + (i + 1) = k + 1 + i by omega]
          simpa [Nat.add_lt_add_iff_right] using this
    rcases h with ⟨v, h1, h2, h4, h5⟩ | ⟨j, d, b, h1, h2, h3, h4, h5⟩
    · exact go ⟨o.dst, v, [], []⟩ ⟨rfl, h2, rfl, rfl, .inl ⟨h1, h4⟩⟩ h5
    · exact go ⟨o.dst, .v undef, [], []⟩ ⟨rfl, h4, rfl, rfl, .inr ⟨rfl, j, d, b, h1, h2, h3⟩⟩ h5
theorem stS_bl {L : Nat → Bool} : ∀ (T : List Tr) (i : Nat) (s : St), (∀ t ∈ T, t.nb = [] ∧ t.no = []) → (stS L T i s).bl = s.bl ∧ (stS L T i s).ow = s.ow
  | [], _, s, _ => ⟨rfl, rfl⟩
  | t :: T, i, s, h => by
    simp only [stS]
    obtain ⟨h1, h2⟩ := stS_bl (L := L) T (i + 1) (bif L i then s.app t.d t.v t.nb t.no else s) fun t' ht' => h t' (by simp [ht'])
    obtain ⟨e1, e2⟩ := h t (by simp)
    rw [h1, h2]
    cases L i
    · exact ⟨rfl, rfl⟩
    · simp only [cond_true, St.app, e1, e2]; exact ⟨rfl, rfl⟩
section
variable {E : En} {ops : Array Oper} {bl0 : List (Nat × List AV)} {ls : List Nat} {k : Nat} {rest : List Oper} {K : St → Prop} {tm : List (Nat × AV)} {bl bl1 : List (Nat × List AV)} {ow : List Nat} {d : Nat} {op : Op} {ty : TypeId} {pos : String} {af : Array Edge} {gd : Option (Nat × Bool)} {v : AV} {Q : Exit → St → Prop}
theorem HS_nil {s : St} (h : K s) : HS E ops bl0 ls k [] s K := h
theorem hs0 (h : QV E (pickB ls k bl0) tm ⟨some d, op, ty, pos, af, gd⟩ v [] []) (hg : GY ops tm gd) (hd : Nat.blt d E.nt = true) (hk : HS E ops bl0 ls (k + 1) rest ⟨(d, v) :: tm, bl, ow⟩ K) : HS E ops bl0 ls k (⟨some d, op, ty, pos, af, gd⟩ :: rest) ⟨tm, bl, ow⟩ K := by
  refine .inl ⟨v, h, hd, ?_, hk⟩
  cases gd with
  | none => exact .inl rfl
  | some p => obtain ⟨j, b⟩ := p; obtain ⟨d', h1, h2⟩ := hg; exact .inr ⟨j, d', b, rfl, h1, h2⟩
theorem SV_store {t : Nat} {x y : Operand} {n o sz : Nat} {ag : Bool} {cs : List AV} [ht : TyOk E.P t ag sz] (hx : ev tm x = .ptr n o) (hy : ev tm y = v) (hb : lookB bl n = some cs) (hro : n ∉ E.ron)
    (hc : isC v = true) (hall : (acells v).all isCell = true) (hl : (acells v).length = sz) (hfit : o + sz ≤ cs.length) : SV E tm bl ⟨none, .store t x y, ty, pos, af, none⟩ (setB bl n (splice cs o (acells v))) := by
  refine ⟨rfl, rfl, fun L g ρ ow x0 hm hop w r0 => ?_⟩
  have hg0 := hm.goes r0
  replace hm := hm.rely r0
  have h1 := rep_goes hg0 (hop x (by simp [Op.operands]))
  have h2 := rep_goes hg0 (hop y (by simp [Op.operands]))
  rw [hx] at h1; rw [hy] at h2
  simp only [rep] at h1
  obtain ⟨b, h1, h1'⟩ := h1
  obtain ⟨b', arr, e1, e2, e3, e4⟩ := hm.mem.blk n cs (lookB_mem hb)
  have : b' = b := by rw [h1] at e1; exact (Option.some.inj e1).symm
  subst this
  have hcs := reps_cellsC h2 hc
  have hvl : (ρ y).cells.size = sz := by rw [cells_length h2 hc, hl]
  have hal := reps_length e3
  have hall' : ∀ u ∈ (ρ y).cells.toList, u.oneCell' = true := by
    have : ∀ (xs : List AV) (ys : List Value), reps g w xs ys → xs.all isCell = true → ∀ u ∈ ys, u.oneCell' = true := by
      intro xs
      induction xs with
      | nil => intro ys h _ u hu; simp only [reps] at h; subst h; simp at hu
      | cons x xs ih =>
        intro ys h ha u hu
        simp only [reps] at h
        obtain ⟨z, zs, rfl, k1, k2⟩ := h
        simp only [List.all_cons, Bool.and_eq_true] at ha
        rcases List.mem_cons.1 hu with rfl | hu
        · exact oneCell_of k1 ha.1
        · exact ih zs k2 ha.2 u hu
    exact this _ _ hcs hall
  have hst := run_storeCells_at E.P b' o (g.mt n) (ρ y).cells.toList 0 arr w e2 (by simp at hal ⊢; omega) hall'
  simp only [Nat.add_zero] at hst
  have hevs : ∀ e ∈ (execOp ρ ⟨none, .store t x y, ty, pos, af, none⟩).events E.P w #[], ∃ ad : Addr, e = ⟨.cell ad, true, false⟩ ∧ ad.block = b' := fun e he => by
    have hne : ¬ ((ρ y).cells.size ≠ sz) := by omega
    simp only [execOp, h1', Instr.storeAt, Instr.sureAddr, storeVar, Sem.events_bind, Sem.run_bind, Sem.run_pure, Sem.events_pure, Result.evThen_ok, Result.andThen_ok, ht.sz, events_sizeOf, if_neg hne, hst] at he
    exact (ev_storeCells b' o (g.mt n) (ρ y).cells.toList 0 arr w #[] e2 (by simp at hal ⊢; omega) hall' e he).resolve_left (by simp)
  have hrun : (execOp ρ ⟨none, .store t x y, ty, pos, af, none⟩).run E.P w = .ok .skip (w.setRow b' (arr.toList.take o ++ (ρ y).cells.toList ++ arr.toList.drop (o + (ρ y).cells.toList.length)).toArray) := by
    have hne : ¬ ((ρ y).cells.size ≠ sz) := by omega
    simp only [execOp, h1', Instr.storeAt, Instr.sureAddr, storeVar, Sem.run_bind, Sem.run_pure, Result.andThen_ok, ht.sz, if_neg hne, hst]
  have hrs := reps_splice (off := o) e3 hcs
  obtain ⟨k1, k2⟩ := hm.mem.setBlock (cs := splice cs o (acells v)) (arr := (arr.toList.take o ++ (ρ y).cells.toList ++ arr.toList.drop (o + (ρ y).cells.toList.length)).toArray) h1 hro e2 e4 (by simpa [List.append_assoc] using hrs) (by simp at hal ⊢; omega)
  obtain ⟨q1, q2⟩ := hm.wrote ((hm.vis.m n b' h1).2 hro) e2 k2 hevs
  rw [hrun]
  exact ⟨q1, g, hg0.trans k1, q2⟩
end
def scU : Nat → (Nat → Bool) → Nat
  | 0, _ => 0
  | m + 1, q => (bif q m then 1 else 0) + scU m q
theorem scU_le : ∀ (m : Nat) (q : Nat → Bool), scU m q ≤ m
  | 0, _ => Nat.le_refl _
  | m + 1, q => by
    have := scU_le m q
    simp only [scU]
    cases q m <;> simp <;> omega
theorem scU_congr {q r : Nat → Bool} : ∀ {m : Nat}, (∀ k, k < m → q k = r k) → scU m q = scU m r
  | 0, _ => rfl
  | m + 1, h => by
    simp only [scU]
    rw [h m (by omega), scU_congr fun k hk => h k (by omega)]
theorem scU_eq {q : Nat → Bool} {j : Nat} : ∀ {m : Nat}, j ≤ m → (∀ k, k < m → q k = decide (k < j)) → scU m q = j
  | 0, hj, _ => by simp [scU]; omega
  | m + 1, hj, h => by
    simp only [scU]
    rw [h m (by omega)]
    by_cases e : m < j
    · have e2 : j = m + 1 := by omega
      rw [scU_eq (j := m) (Nat.le_refl _) fun k hk => by rw [h k (by omega), decide_eq_true hk, decide_eq_true (by omega)]]
      rw [decide_eq_true e, e2]; simp; omega
    · rw [scU_eq (j := j) (by omega) fun k hk => h k (by omega), decide_eq_false e]; simp
def chainM (ops : Array Oper) (n m : Nat) : Bool :=
  let tab := depTab ops (n + m)
  (List.range m).all fun j => (List.range j).all fun k => (tab.getD (n + j) []).contains (n + k)

theorem W_drawM {E : En} {id : Nat} {l : List Oper} {Q : Exit → St → Prop} {s : St} (n m : Nat) (blc : List (Nat × List AV)) (bls : Nat → List (Nat × List AV)) (hm : E.P.follows .mixedOrders = true) (hB : headB l.toArray (n + m) = true) (hT : tailB l.toArray (n + m) = true) (hC : chainM l.toArray n m = true) (h0 : bls 0 = s.bl) (hc0 : ∀ j, j ≤ m → ∀ p ∈ blc, p ∈ bls j)
    (h : HS E l.toArray blc [] 0 (l.take n) s (fun s' => (∀ j, j < m → ∃ o, l[n + j]? = some o ∧ SV E s'.tm (bls j) o (bls (j + 1))) ∧ WL E l.toArray (l.drop (n + m)) Q ⟨s'.tm, bls m, s'.ow⟩)) : W E (.region id l.toArray true) Q s := by
  intro L g0 a0 w00 hi0
  obtain ⟨T, hTl, hK, hT0, hstep⟩ := HS_trace _ _ _ h
  obtain ⟨hstores, hrest⟩ := hK
  obtain ⟨hn, hback, hord⟩ := headB_spec hB
  have hn' : n + m ≤ l.length := by simpa using hn
  have hTn : T.length = n := by rw [hTl]; simp; omega
  simp only [tailB, Bool.and_eq_true] at hT
  obtain ⟨hT1, hT2⟩ := hT
  have hopt : ∀ i, i < n → ∃ o t, l.toArray[i]? = some o ∧ (l.take n)[i]? = some o ∧ T[i]? = some t := fun i hi => by
    have h1 : i < l.length := by omega
    refine ⟨l[i], T[i]'(by omega), by simp [h1], by simp [hi, h1], by simp [hTn, hi]⟩
  let Lf : Array Bool → Nat → Bool := fun listed i => listed.getD i false
  have tailNot : ∀ listed, HeadInv .any l.toArray (n + m) listed → 0 < cnt (n + m) (Lf listed) → ∀ i ∈ Region.ready .any l.toArray listed, i < n + m := by
    intro listed inv hc i hi
    rcases Nat.lt_or_ge i (n + m) with h1 | h1
    · exact h1
    · exfalso
      have hlt : i < l.toArray.size := by
        obtain ⟨_, o, ho, _⟩ := mem_ready.1 hi
        exact (Array.getElem?_eq_some_iff.1 ho).1
      have hns : n + m < l.toArray.size := by omega
      have hb : Nat.blt (n + m) l.toArray.size = true := Nat.ble_eq_true_of_le hns
      rw [hb] at hT1
      simp only [cond_true, Bool.and_eq_true] at hT1
      obtain ⟨k, hk1, hk2, _⟩ := cnt_pos hc
      have hk3 : listed.getD k true = false := getD_in (by rw [inv.size]; omega) hk2
      exact tail_waits hT1.1 hT1.2 hns inv _ k rfl hk1 hk3 i h1 hi
  have progress : ∀ listed, HeadInv .any l.toArray (n + m) listed → 0 < cnt (n + m) (Lf listed) → Region.ready .any l.toArray listed ≠ [] := by
    intro listed inv hc he
    obtain ⟨k, hk1, hk2, hk3⟩ := cnt_pos hc
    have : k ∈ Region.ready .any l.toArray listed := by
      have hkl : k < l.toArray.size := by omega
      exact mem_ready.2 ⟨getD_in (by rw [inv.size]; omega) hk2, l.toArray[k], by simp, fun e he hb => hk3 _ (hback k l.toArray[k] hk1 (by simp) e he hb)⟩
    rw [he] at this
    cases this
  have hTd : ∀ j tr, T[j]? = some tr → j < n ∧ ∃ oj, l.toArray[j]? = some oj ∧ tr.d = oj.dst := fun j tr hj => by
    have hjn : j < n := by rw [← hTn]; exact (List.getElem?_eq_some_iff.1 hj).1
    obtain ⟨oj, t', h1, h2, h3⟩ := hopt j hjn
    exact ⟨hjn, oj, h1, (hstep j oj tr h2 hj).d⟩
  have main : ∀ (f : Nat) (listed : Array Bool) (g : Gh) (a : Act) (w : CW), cnt (n + m) (Lf listed) = f → HeadInv .any l.toArray (n + m) listed → Inv E g ⟨(stS (Lf listed) T 0 s).tm, bls (scU m fun j => Lf listed (n + j)), s.ow⟩ a w → wpAnyV L .any l.toArray (post E Q) (f + (l.toArray.size - (n + m))) listed a w := by
    intro f
    induction f with
    | zero =>
      intro listed g a w hc inv hinv
      have hall := cnt_zero hc
      have hst : stS (Lf listed) T 0 s = stS (fun _ => true) T 0 s := by
        have : ∀ (T : List Tr) (i : Nat) (s : St), (∀ j, j < T.length → Lf listed (i + j) = true) → stS (Lf listed) T i s = stS (fun _ => true) T i s := by
          intro T
          induction T with
          | nil => intro i s _; rfl
          | cons t T ih =>
            intro i s hL
            simp only [stS]
            rw [show Lf listed i = true by simpa using hL 0 (by simp)]
            exact ih (i + 1) _ fun j hj => by have := hL (j + 1) (by simp; omega); rwa [show i + (j + 1) = i + 1 + j by omega] at this
        exact this T 0 s fun j hj => by rw [Nat.zero_add]; exact hall j (by omega)
      rw [hst, scU_eq (j := m) (Nat.le_refl _) fun k hk => by rw [hall (n + k) (by omega), decide_eq_true hk]] at hinv
      have how := (stS_bl (L := fun _ => true) T 0 s hT0).2
      rw [← how] at hinv
      have hli : listed = ((List.range l.toArray.size).map fun i => Nat.blt i (n + m)).toArray := by
        apply Array.ext
        · simp [inv.size]
        · intro i h1 h2
          have h3 : i < l.toArray.size := by rw [← inv.size]; exact h1
          simp only [List.getElem_toArray, List.getElem_map, List.getElem_range]
          rcases Nat.lt_or_ge i (n + m) with h4 | h4
          · have h5 := hall i h4
            simp only [Lf, Array.getD_eq_getD_getElem?, Array.getElem?_eq_getElem h1, Option.getD_some] at h5
            rw [h5]
            exact (Nat.ble_eq_true_of_le h4).symm
          · have h5 := inv.tail i h4 h3
            simp only [Array.getD_eq_getD_getElem?, Array.getElem?_eq_getElem h1, Option.getD_some] at h5
            rw [h5]
            cases h6 : Nat.blt i (n + m)
            · rfl
            · have := Nat.le_of_ble_eq_true h6; omega
      have hdl : (l.drop (n + m)).length = l.toArray.size - (n + m) := by simp
      have := wpAnyV_of_seq (L := L) (md := .any) (Q' := post E Q) (l.drop (n + m)) (n + m) listed a w (fun j => by simp [List.getElem?_drop]) (by rw [hdl, hli]; exact hT2) (hrest L g a w hinv)
      rw [hdl] at this
      rw [Nat.zero_add]; exact this
    | succ f ih =>
      intro listed g a w hc inv hinv
      rw [show f + 1 + (l.toArray.size - (n + m)) = (f + (l.toArray.size - (n + m))) + 1 by omega]
      have hpos : 0 < cnt (n + m) (Lf listed) := by omega
      refine ⟨fun he => absurd he (progress listed inv hpos), fun i hi => ?_⟩
      have hin1 := tailNot listed inv hpos i hi
      obtain ⟨hun, o2, ho, hdeps⟩ := mem_ready.1 hi
      have hLi : Lf listed i = false := getD_both hun
      have closed : ∀ k ok, l.toArray[k]? = some ok → Lf listed k = true → ∀ e ∈ ok.after, Region.binds .any e = true → Lf listed e.on = true := fun k ok hk hl e he hb => inv.closed k ok hk hl e he hb
      have depI : ∀ j ∈ (depTab l.toArray (n + m)).getD i [], Lf listed j = true := depTab_closed closed (n + m) i fun o' ho' e he hb => by
        have : o' = o2 := Option.some.inj (ho'.symm.trans ho)
        subst this
        exact hdeps e he hb
      have depJ : ∀ j, i ∈ (depTab l.toArray (n + m)).getD j [] → Lf listed j = false := fun j hj => by
        cases hLj : Lf listed j
        · rfl
        · have := depTab_closed closed (n + m) j (fun o' ho' => closed j o' ho' hLj) i hj
          rw [hLi] at this; cases this
      have hLset : ∀ j, Lf (listed.setIfInBounds i true) j = (decide (j = i) || Lf listed j) := fun j => by
        by_cases e : j = i
        · subst e
          have hlt : j < listed.size := by rw [inv.size]; exact (Array.getElem?_eq_some_iff.1 ho).1
          simp [Lf, hlt]
        · simp only [e, decide_false, Bool.false_or, Lf]
          exact getD_set_ne false (Ne.symm e)
      have hcnt : cnt (n + m) (Lf (listed.setIfInBounds i true)) = f := by
        have := cnt_set (L := Lf listed) (L' := Lf (listed.setIfInBounds i true)) (i := i) hLi (by rw [hLset]; simp) (fun j hj => by rw [hLset]; simp [hj]) (n + m)
        rw [if_pos hin1] at this
        omega
      unfold wpOpV
      simp only [ho]
      by_cases hS : n ≤ i
      · -- a store
        obtain ⟨jS, rfl⟩ : ∃ jS, i = n + jS := ⟨i - n, by omega⟩
        have hjS : jS < m := by omega
        obtain ⟨oS, hoS, hSd, hSg, hSV⟩ := hstores jS hjS
        have : o2 = oS := by
          have h1 : l.toArray[n + jS]? = some oS := by simpa using hoS
          exact Option.some.inj (ho.symm.trans h1)
        subst this
        have chain : ∀ k k', k < k' → k' < m → n + k ∈ (depTab l.toArray (n + m)).getD (n + k') [] := fun k k' h1 h2 => by
          have := List.all_eq_true.1 (List.all_eq_true.1 hC k' (List.mem_range.2 h2)) k (List.mem_range.2 h1)
          simpa using this
        have sc0 : scU m (fun j => Lf listed (n + j)) = jS := scU_eq (by omega) fun k hk => by
          rcases Nat.lt_trichotomy k jS with h1 | h1 | h1
          · rw [depI (n + k) (chain k jS h1 hjS), decide_eq_true h1]
          · subst h1; rw [hLi]; simp
          · rw [depJ (n + k) (chain jS k h1 hk), decide_eq_false (by omega)]
        have sc1 : scU m (fun j => Lf (listed.setIfInBounds (n + jS) true) (n + j)) = jS + 1 := scU_eq (by omega) fun k hk => by
          show Lf (listed.setIfInBounds (n + jS) true) (n + k) = _
          rw [hLset]
          rcases Nat.lt_trichotomy k jS with h1 | h1 | h1
          · rw [depI (n + k) (chain k jS h1 hjS), decide_eq_true (show k < jS + 1 by omega)]; simp
          · subst h1; simp
          · rw [depJ (n + k) (chain jS k h1 hk), decide_eq_false (show ¬ k < jS + 1 by omega), decide_eq_false (show ¬ n + k = n + jS by omega)]; rfl
        rw [sc0] at hinv
        rw [show Region.wanted o2 (yielded l.toArray a.tmps) = true by simp [Region.wanted, hSg]]
        rw [if_pos rfl]
        have sameLook : ∀ u, u ∈ o2.looksAt l.toArray → look (stS (Lf listed) T 0 s).tm u = look (stS (fun _ => true) T 0 s).tm u := fun u hu =>
          look_stS T 0 s s rfl fun j tr hj hdu => by
            rw [Nat.zero_add]
            obtain ⟨hjn, oj, hoj, hjd⟩ := hTd j tr hj
            exact depI j ((hord (n + jS) o2 j oj u (by omega) (by omega) (by omega) ho hoj (hjd ▸ hdu) (.inl hu)).1 (by omega))
        refine OpV.mono (hSV L g a.eval s.ow w hinv.mem fun x hx => ?_) fun y w' hKy => ?_
        · have := rep_ev hinv.tm x
          rwa [ev_same (tm' := (stS (fun _ => true) T 0 s).tm) fun u hu => by subst hu; exact sameLook u (looksAt_op hx)] at this
        · obtain ⟨g', h1, h2⟩ := hKy
          have hi2 : Inv E g' ⟨(stS (Lf listed) T 0 s).tm, bls (jS + 1), s.ow⟩ a w' := ⟨h2, fun t => rep_goes h1 (hinv.tm t), hinv.de, hinv.sz⟩
          have htm : stS (Lf (listed.setIfInBounds (n + jS) true)) T 0 s = stS (Lf listed) T 0 s := by
            have : ∀ (T : List Tr) (k : Nat) (s : St), (∀ j, j < T.length → Lf (listed.setIfInBounds (n + jS) true) (k + j) = Lf listed (k + j)) → stS (Lf (listed.setIfInBounds (n + jS) true)) T k s = stS (Lf listed) T k s := by
              intro T
              induction T with
              | nil => intro k s _; rfl
              | cons t T ih =>
                intro k s hL
                simp only [stS]
                rw [show Lf (listed.setIfInBounds (n + jS) true) k = Lf listed k by simpa using hL 0 (by simp)]
                exact ih (k + 1) _ fun j hj => by have := hL (j + 1) (by simp; omega); rwa [show k + (j + 1) = k + 1 + j by omega] at this
            exact this T 0 s fun j hj => by
              rw [Nat.zero_add, hLset, decide_eq_false (by omega), Bool.false_or]
          have := ih (listed.setIfInBounds (n + jS) true) g' a w' hcnt (inv.set hi hin1) (by
            rw [htm, sc1]; exact hi2)
          rw [hSd]; exact this
      · have hin : i < n := by omega
        obtain ⟨o3, t, ho3, ho', ht⟩ := hopt i hin
        have : o3 = o2 := Option.some.inj (ho3.symm.trans ho)
        subst this
        obtain ⟨hd, hdst, hnb, hno, hrun⟩ := hstep i o3 t ho' ht
        have sameLook : ∀ u, u ∈ o3.looksAt l.toArray → look (stS (Lf listed) T 0 s).tm u = look (stS (fun j => decide (j < i)) T 0 s).tm u := fun u hu =>
          look_stS T 0 s s rfl fun j tr hj hdu => by
            rw [Nat.zero_add]
            obtain ⟨hjn, oj, hoj, hjd⟩ := hTd j tr hj
            rcases Nat.lt_trichotomy j i with h1 | h1 | h1
            · rw [decide_eq_true h1]
              exact depI j ((hord i o3 j oj u hin1 (by omega) (by omega) ho hoj (hjd ▸ hdu) (.inl hu)).1 h1)
            · subst h1; rw [hLi]; simp
            · rw [decide_eq_false (by omega)]
              exact depJ j ((hord i o3 j oj u hin1 (by omega) (by omega) ho hoj (hjd ▸ hdu) (.inl hu)).2 h1)
        have hdst' : ∀ k, t.d = some k → k < E.nt := fun k hk => dstB_spec hdst k (hd ▸ hk)
        have hLn : scU m (fun j => Lf (listed.setIfInBounds i true) (n + j)) = scU m (fun j => Lf listed (n + j)) := scU_congr fun k hk => by
          show Lf (listed.setIfInBounds i true) (n + k) = _
          rw [hLset, decide_eq_false (by omega), Bool.false_or]
        have next : ∀ (g' : Gh) (a' : Act) (w' : CW), Inv E g' ⟨((stS (Lf listed) T 0 s).app t.d t.v [] []).tm, bls (scU m fun j => Lf listed (n + j)), s.ow⟩ a' w' → wpAnyV L .any l.toArray (post E Q) (f + (l.toArray.size - (n + m))) (listed.setIfInBounds i true) a' w' := by
          intro g' a' w' hinv'
          refine ih _ g' a' w' hcnt (inv.set hi hin1) ⟨by rw [hLn]; exact hinv'.mem, fun u => ?_, hinv'.de, hinv'.sz⟩
          have hu := hinv'.tm u
          have heq : look (stS (Lf (listed.setIfInBounds i true)) T 0 s).tm u = look ((stS (Lf listed) T 0 s).app t.d t.v [] []).tm u := by
            by_cases hdu : t.d = some u
            · have h1 : look ((stS (Lf listed) T 0 s).app t.d t.v [] []).tm u = t.v := by simp [St.app, hdu, look]
              rw [h1]
              refine look_last T 0 i s t ht hdu rfl (by rw [Nat.zero_add, hLset]; simp) fun j tr hj hij hdj => ?_
              rw [Nat.zero_add, hLset]
              obtain ⟨hjn, oj, hoj, hjd⟩ := hTd j tr hj
              have := depJ j ((hord i o3 j oj u hin1 (by omega) (by omega) ho hoj (hjd ▸ hdj) (.inr (hd ▸ hdu))).2 hij)
              rw [this]
              simp; omega
            · have h1 : look ((stS (Lf listed) T 0 s).app t.d t.v [] []).tm u = look (stS (Lf listed) T 0 s).tm u := by
                simp only [St.app]
                cases hdd : t.d with
                | none => rfl
                | some k =>
                  have : k ≠ u := fun e => hdu (by rw [hdd, e])
                  simp only [look]
                  cases hb : Nat.beq k u
                  · rfl
                  · exact absurd (Nat.eq_of_beq_eq_true hb) this
              rw [h1]
              refine look_stS T 0 s s rfl fun j tr hj hdj => ?_
              rw [Nat.zero_add, hLset]
              have : j ≠ i := fun e => by subst e; rw [ht] at hj; cases hj; exact hdu hdj
              simp [this]
          rw [heq]; exact hu
        have hguard : ∀ {j d b}, o3.guard = some (j, b) → (l.toArray[j]?).bind (·.dst) = some d → ∀ c, look (stS (fun j => decide (j < i)) T 0 s).tm d = .v (.bool c) → yielded l.toArray a.tmps j = some c := fun {j d b} hg hj c hc' => by
          have h1 := hinv.tm d
          simp only at h1
          rw [sameLook d (looksAt_guard hg hj), hc'] at h1
          simp only [rep] at h1
          exact yielded_of hj h1
        have operandsOk : ∀ x ∈ o3.op.operands, rep g w.w (ev (stS (fun j => decide (j < i)) T 0 s).tm x) (a.eval x) := fun x hx => by
          have := rep_ev hinv.tm x
          rwa [ev_same (tm' := (stS (fun j => decide (j < i)) T 0 s).tm) fun u hu => by subst hu; exact sameLook u (looksAt_op hx)] at this
        rcases hrun with ⟨hq, hg⟩ | ⟨hv, j, dd, b, hg, hj, hb⟩
        · have hw : Region.wanted o3 (yielded l.toArray a.tmps) = true := by
            rcases hg with hg | ⟨j, dd, b, hg, hj, hb⟩
            · simp [Region.wanted, hg]
            · simp [Region.wanted, hg, hguard hg hj b hb]
          rw [hw]
          rw [if_pos rfl]
          have hsub : ∀ p ∈ pickB [] (0 + i) blc, p ∈ (bls (scU m fun j => Lf listed (n + j))) := fun p hp => hc0 _ (scU_le _ _) p (by simpa [pickB, inL] using hp)
          refine OpV.mono (hq L g a.eval (bls (scU m fun j => Lf listed (n + j))) s.ow w hinv.mem hsub (fun p hp => by simp at hp) (fun k hk => by simp at hk) operandsOk) fun y w' hKy => ?_
          obtain ⟨g', h1, h2, h3⟩ := hKy
          have := hinv.app (d := t.d) (nb := []) (no := []) hdst' h1 h2 h3
          rw [hd] at this
          exact next g' _ w' (by rw [hd]; exact this)
        · have hw : Region.wanted o3 (yielded l.toArray a.tmps) = false := by
            simp [Region.wanted, hg, hguard hg hj b hb]
          rw [hw]
          have := hinv.app (d := t.d) (v := t.v) (y := undef) (nb := []) (no := []) hdst' (Goes.refl g _) hinv.mem (by rw [hv]; simp [rep])
          rw [hd] at this
          exact next g _ w (by rw [hd]; exact this)
  refine wpV_region_any hm fun w₁ rw₁ => ?_
  have inv0 : HeadInv .any l.toArray (n + m) (Array.replicate l.toArray.size false) :=
    ⟨by simp, fun j oj _ hl => (by rw [getD_replicate_false] at hl; cases hl), fun t _ ht => getD_in (by simpa using ht) (getD_replicate_false _ _)⟩
  have hL0 : Lf (Array.replicate l.toArray.size false) = fun _ => false := by funext i; exact getD_replicate_false _ _
  have := main (n + m) (Array.replicate l.toArray.size false) g0 a0 ⟨w00.V, { w₁ with drawn := w₁.drawn + 1 }⟩ (by rw [hL0]; exact cnt_false (n + m)) inv0 ?_
  · rwa [show n + m + (l.toArray.size - (n + m)) = l.toArray.size by omega] at this
  · rw [hL0]
    have zero : ∀ (T : List Tr) (i : Nat) (s : St), stS (fun _ => false) T i s = s := by
      intro T
      induction T with
      | nil => intro i s; rfl
      | cons t T ih => intro i s; simp only [stS, cond_false]; exact ih _ s
    rw [zero, scU_eq (j := 0) (Nat.zero_le _) (fun k hk => by simp), h0]
    exact (hi0.rely rw₁).drew
theorem wdraw4 {E : En} {id : Nat} {l hd tl : List Oper} {o0 o1 o2 o3 : Oper} {Q : Exit → St → Prop} {tm : List (Nat × AV)} {bl : List (Nat × List AV)} {ow : List Nat} (n : Nat) (blc b1 b2 b3 b4 : List (Nat × List AV)) (hm : E.P.follows .mixedOrders = true) (hB : headB l.toArray (n + 4) = true) (hT : tailB l.toArray (n + 4) = true) (hC : chainM l.toArray n 4 = true) (hs : splitO n l = some (hd, o0 :: o1 :: o2 :: o3 :: tl))
    (hc : ∀ p ∈ blc, p ∈ bl ∧ p ∈ b1 ∧ p ∈ b2 ∧ p ∈ b3 ∧ p ∈ b4)
    (h : HS E l.toArray blc [] 0 hd ⟨tm, bl, ow⟩ (fun s' => SV E s'.tm bl o0 b1 ∧ SV E s'.tm b1 o1 b2 ∧ SV E s'.tm b2 o2 b3 ∧ SV E s'.tm b3 o3 b4 ∧ WL E l.toArray tl Q ⟨s'.tm, b4, s'.ow⟩)) : W E (.region id l.toArray true) Q ⟨tm, bl, ow⟩ := by
  obtain ⟨h1, h2⟩ := splitO_eq hs
  have hd4 : l.drop (n + 4) = tl := by
    have : (l.drop n).drop 4 = tl := by rw [h2]; rfl
    simpa [List.drop_drop] using this
  have hj : ∀ j, l[n + j]? = (o0 :: o1 :: o2 :: o3 :: tl)[j]? := fun j => by rw [← h2, List.getElem?_drop]
  refine W_drawM n 4 blc (fun j => match j with | 0 => bl | 1 => b1 | 2 => b2 | 3 => b3 | _ => b4) hm hB hT hC rfl (fun j hj p hp => ?_) ?_
  · obtain ⟨k0, k1, k2, k3, k4⟩ := hc p hp
    match j, hj with
    | 0, _ => exact k0
    | 1, _ => exact k1
    | 2, _ => exact k2
    | 3, _ => exact k3
    | 4, _ => exact k4
  · rw [h1]
    have mono : ∀ (hd : List Oper) (k : Nat) (s : St) (K K' : St → Prop), (∀ s, K s → K' s) → HS E l.toArray blc [] k hd s K → HS E l.toArray blc [] k hd s K' := by
      intro hd
      induction hd with
      | nil => intro k s K K' hK h; exact hK _ h
      | cons o hd ih =>
        intro k s K K' hK h
        rcases h with ⟨v, h1, h2, h4, h5⟩ | ⟨j, d, b, h1, h2, h3, h4, h5⟩
        · exact .inl ⟨v, h1, h2, h4, ih _ _ _ _ hK h5⟩
        · exact .inr ⟨j, d, b, h1, h2, h3, h4, ih _ _ _ _ hK h5⟩
    refine mono _ _ _ _ _ (fun s' ⟨s0, s1, s2, s3, hw⟩ => ⟨fun j hjm => ?_, by rw [hd4]; exact hw⟩) h
    match j, hjm with
    | 0, _ => exact ⟨o0, hj 0, s0⟩
    | 1, _ => exact ⟨o1, hj 1, s1⟩
    | 2, _ => exact ⟨o2, hj 2, s2⟩
    | 3, _ => exact ⟨o3, hj 3, s3⟩
theorem svst {E : En} {tm : List (Nat × AV)} {ty : TypeId} {pos : String} {af : Array Edge} {v : AV} {x y : Operand} {t nn o sz : Nat} {ag : Bool} {cs ds r : List AV} {bl bl' : List (Nat × List AV)} [ht : TyOk E.P t ag sz] (hx : ev tm x = .ptr nn o) (hy : evO tm y = some v) (hb : lookB bl nn = some cs) (hro : nn ∉ E.ron)
    (hc : isC v = true) (ha : acellsO v = some ds) (hall : ds.all isCell = true) (hl : Nat.beq ds.length sz = true) (hp : putO cs o ds = some r) (hs : setBO bl nn r = some bl') : SV E tm bl ⟨none, .store t x y, ty, pos, af, none⟩ bl' := by
  obtain ⟨h1, h2⟩ := putO_eq hp
  have e := acellsO_eq ha
  have e2 := Nat.eq_of_beq_eq_true hl
  have := SV_store (ty := ty) (pos := pos) (af := af) (t := t) (x := x) (y := y) hx (evO_ev hy) hb hro hc (by rw [e]; exact hall) (by rw [e]; exact e2) (by omega)
  rw [e, h2, setBO_eq hs] at this
  exact this
end Go.Eng
