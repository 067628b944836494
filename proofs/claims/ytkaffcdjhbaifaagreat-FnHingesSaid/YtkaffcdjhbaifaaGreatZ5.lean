/- My walking engine, part 5: abstract values of Go, and the rules of a walk over them. No program in sight. -/
import Derived.Test.YtkaffcdjhbaifaaGreatZ3
namespace Go.Eng
open Go
section
variable {E : En} {bl : List (Nat × List AV)} {tm : List (Nat × AV)} {d : Option Tmp} {ty : TypeId} {pos : String} {af : Array Edge} {gd : Option (Nat × Bool)} {op : Op} {v : AV}
theorem qv0 (h : QV E bl tm ⟨d, op, ty, pos, af, gd⟩ v [] [] := by first | exact q_move rfl | exact q_assign rfl | exact q_load rfl rfl rfl rfl | exact QV_fieldAddr rfl | exact QV_ar rfl rfl rfl (by omega) | exact QV_bin rfl rfl rfl | exact q_loadE rfl rfl | exact q_fieldAddrE rfl rfl | exact QV_not rfl) : QV E bl tm ⟨d, op, ty, pos, af, gd⟩ v [] [] := h
theorem qv1 (h : QV E bl tm ⟨d, op, ty, pos, af, gd⟩ v [] [] := by first | exact q_pick rfl rfl | exact QV_neg' rfl (by omega) | exact QV_neg rfl | exact q_lenM rfl rfl | exact QV_len rfl rfl | exact QV_lenNil rfl | exact QV_extract rfl rfl | exact q_field rfl rfl rfl rfl | exact QV_min rfl rfl | exact QV_max rfl rfl | exact q_build rfl | exact QV_nilCheck rfl trivial | exact QV_nilCheckF rfl | exact q_makeFunc rfl rfl) : QV E bl tm ⟨d, op, ty, pos, af, gd⟩ v [] [] := h
theorem q_callA {x : Operand} {xs : Array Operand} {ts : Array TypeId} {f : Nat} {ys : List AV} {r v : AV} [hf : FnOk E.P f] (h : CallOk E.P f ys (fun r' => r' = r)) (hx : ev tm x = .v (.func (.func f) #[] #[]) := by exact rfl) (ha : LeDs (xs.toList.map (ev tm)) ys := by (repeat' (first | exact LeDs.nil | refine LeDs.cons (by first | exact LeD.v | exact LeD.sl | exact LeD.own | exact LeD.nil | exact LeD.top) ?_ | refine LeDs.agg ?_ ?_)); first | done | fail "open") (ho : ownsIn [] r = true := by exact rfl) (hv : renO 0 r = some v := by exact rfl) :
    QV E bl tm ⟨d, .call ⟨.value x, xs, ts⟩, ty, pos, af, gd⟩ v [] [] := q_call h hx ha ho hv
theorem q_call1A {x : Operand} {xs : Array Operand} {ts : Array TypeId} {f : Nat} {ys : List AV} {r v : AV} (k n : Nat) [hf : FnOk E.P f] (h : CallOk E.P f ys (fun r' => r' = r)) (hx : ev tm x = .v (.func (.func f) #[] #[]) := by exact rfl) (ha : LeDs (xs.toList.map (ev tm)) ys := by (repeat' (first | exact LeDs.nil | refine LeDs.cons (by first | exact LeD.v | exact LeD.sl | exact LeD.own | exact LeD.nil | exact LeD.top) ?_ | refine LeDs.agg ?_ ?_)); first | done | fail "open") (ho : ownsIn [n] r = true := by exact rfl) (hv : renO k r = some v := by exact rfl) :
    QV E bl tm ⟨d, .call ⟨.value x, xs, ts⟩, ty, pos, af, gd⟩ v [] [k + n] := q_call1 k n h hx ha ho hv
theorem q_callSA {x : Operand} {xs : Array Operand} {ts : Array TypeId} {f : Nat} {ys : List AV} {r : AV} [hf : FnOk E.P f] (h : CallOk E.P f ys (fun r' => r' = r)) (hx : ev tm x = .v (.func (.func f) #[] #[]) := by exact rfl) (ha : LeS bl (xs.toList.map (ev tm)) ys := by (repeat' (first | exact LeS.nil | refine LeS.v ?_ | refine LeS.sl ?_ | refine LeS.own ?_ | refine LeS.arr rfl (by first | exact len_map | exact len_mks) (map_lens (fun _ => rfl)) (map_plainB (fun _ => rfl)) ?_ | refine LeS.nilS ?_ | refine LeS.agg ?_ ?_)); first | done | fail "open") (hp : pl r = true := by exact rfl) :
    QV E bl tm ⟨d, .call ⟨.value x, xs, ts⟩, ty, pos, af, gd⟩ r [] [] := QV_callS h hx ha hp
end
section
variable {ops : Array Oper} {tm : List (Nat × AV)} {gd : Option (Nat × Bool)}
theorem gy0 (h : GY ops tm gd := by first | exact trivial | exact ⟨_, rfl, rfl⟩) : GY ops tm gd := h
end
theorem wkA {E : En} {s s' : St} (h1 : Pick s.ow s.tm s'.tm := by repeat' (first | exact trivial | refine And.intro ?_ ?_ | exact Le.refl | exact Le.nilOwn rfl | exact Le.nilSl | exact Le.ownSl | exact Le.top)) (h2 : PickB s.ow s.bl s'.bl := by repeat' (first | exact trivial | refine And.intro ?_ ?_ | exact ⟨_, rfl, Les.refl _⟩ | exact ⟨_, rfl, by repeat' (first | exact Les.nil | exact Les.cons Le.refl (Les.refl _) | refine Les.cons (by first | exact Le.top | exact Le.refl | exact Le.ownSl | exact Le.nilSl) ?_)⟩)) (h3 : refsL (s'.bl.map (·.1)) s'.ow (s'.tm.map (·.2)) = true := by exact rfl) (h4 : RefsB (s'.bl.map (·.1)) s'.ow s'.bl := by repeat' (first | exact trivial | refine And.intro ?_ ?_ | exact rfl | exact refs_fill (fun _ => rfl) rfl | exact refs_map (fun _ => rfl))) (h5 : ∀ n b T, E.pin n b T → n ∈ s'.bl.map (·.1) := by exact (fun _ _ _ h => by first | exact h.elim | (obtain ⟨rfl, rfl, rfl⟩ := h; simp))) : Weak E s s' := weak_mk h1 h2 h3 h4 h5
theorem wkO {E : En} {s s' : St} (h1 : Pick s.ow s.tm s'.tm := by repeat' (first | exact trivial | refine And.intro ?_ ?_ | exact Le.refl | exact Le.nilOwn rfl | exact Le.nilSl | exact Le.ownSl | exact Le.top)) (h2 : PickB s.ow s.bl s'.bl := by repeat' (first | exact trivial | refine And.intro ?_ ?_ | exact ⟨_, rfl, Les.refl _⟩ | exact ⟨_, rfl, by repeat' (first | exact Les.nil | exact Les.cons Le.refl (Les.refl _) | refine Les.cons (by first | exact Le.top | exact Le.refl | exact Le.ownSl | exact Le.nilOwn rfl | exact Le.nilSl) ?_)⟩)) (h3 : refsL (s'.bl.map (·.1)) s'.ow (s'.tm.map (·.2)) = true := by exact rfl) (h4 : RefsB (s'.bl.map (·.1)) s'.ow s'.bl := by repeat' (first | exact trivial | refine And.intro ?_ ?_ | exact rfl | exact refs_fill (fun _ => rfl) rfl | exact refs_map (fun _ => rfl))) (h5 : ∀ n b T, E.pin n b T → n ∈ s'.bl.map (·.1) := by exact (fun _ _ _ h => by first | exact h.elim | (obtain ⟨rfl, rfl, rfl⟩ := h; simp))) : Weak E s s' := weak_mk h1 h2 h3 h4 h5
section
variable {E : En} {bl : List (Nat × List AV)} {tm : List (Nat × AV)} {d : Option Tmp} {ty : TypeId} {pos : String} {af : Array Edge} {gd : Option (Nat × Bool)} {op : Op} {v : AV} {nb : List (Nat × List AV)} {no : List Nat}
theorem qbx (h : QV E bl tm ⟨d, op, ty, pos, af, gd⟩ v nb no := by first | exact q_box rfl rfl rfl | exact q_alloc) : QV E bl tm ⟨d, op, ty, pos, af, gd⟩ v nb no := h
end
def okN : Code → Bool
  | .seq _ _ => true
  | .skip => true
  | .ret => true
  | .block _ _ => true
  | .exit _ => true
  | _ => false
def WN (E : En) (Q : Exit → St → Prop) (s : St) : Code → Prop
  | .seq x y => W E x (thenW E y Q) s
  | .skip => Q .normal s
  | .ret => Q .ret s
  | .block id c => W E c (inBlk id Q) s
  | .exit id => Q (.exit id) s
  | _ => False
theorem wN {E : En} {c : Code} {Q : Exit → St → Prop} {s : St} (ho : okN c = true) (h : WN E Q s c) : W E c Q s := by
  cases c with
  | seq x y => exact W_seq h
  | skip => exact W_skip h
  | ret => exact W_ret h
  | block id c => exact W_block h
  | exit id => exact W_exit h
  | _ => cases ho
end Go.Eng

namespace Go.Eng
open Go

def EV (E : En) (N : Nat) (tm : List (Nat × AV)) (o : Oper) (v : AV) (cs cs' : List AV) : Prop :=
  ∀ (g : Gh) (w : World) (ρ : Operand → Value) (bl' : List (Nat × List AV)) (ow' : List Nat), Mem E g ((N, cs) :: bl') ow' w → (∀ q ∈ bl', q.1 ≠ N) → (∀ x ∈ o.op.operands, rep g w (ev tm x) (ρ x)) →
    UponQ E.P (fun y w' => ∃ g', Goes g w g' w' ∧ Mem E g' ((N, cs') :: bl') ow' w' ∧ rep g' w' v y) ((execOp ρ o).run E.P w)
def csF (L : Nat → Bool) : List (Option (List AV)) → Nat → List AV → List AV
  | [], _, c => c
  | e :: es, i, c => csF L es (i + 1) (bif L i then e.getD c else c)
theorem csF_congr {L L' : Nat → Bool} : ∀ (es : List (Option (List AV))) (i : Nat) (c : List AV), (∀ j x, es[j]? = some (some x) → L (i + j) = L' (i + j)) → csF L es i c = csF L' es i c
  | [], _, _, _ => rfl
  | e :: es, i, c, h => by
    simp only [csF]
    have e1 : (bif L i then e.getD c else c) = (bif L' i then e.getD c else c) := by
      cases e with
      | none => cases L i <;> cases L' i <;> rfl
      | some x => have := h 0 x rfl; rw [Nat.add_zero] at this; rw [this]
    rw [e1]
    exact csF_congr es (i + 1) _ fun j x hj => by have := h (j + 1) x (by simpa using hj); rwa [show i + (j + 1) = i + 1 + j by omega] at this
theorem csF_last {L : Nat → Bool} {x : List AV} : ∀ (es : List (Option (List AV))) (i k : Nat) (c : List AV), es[k]? = some (some x) → L (i + k) = true → (∀ j y, k < j → es[j]? = some (some y) → L (i + j) = false) → csF L es i c = x
  | [], _, _, _, h, _, _ => by simp at h
  | e :: es, i, 0, c, h, hL, hn => by
    simp only [List.getElem?_cons_zero, Option.some.injEq] at h
    subst h
    rw [Nat.add_zero] at hL
    simp only [csF, hL, cond_true, Option.getD_some]
    have zero : ∀ (es : List (Option (List AV))) (i : Nat) (c : List AV), csF (fun _ => false) es i c = c := by
      intro es
      induction es with
      | nil => intro i c; rfl
      | cons e es ih => intro i c; simp only [csF, cond_false]; exact ih _ c
    rw [csF_congr (L' := fun _ => false) es (i + 1) x fun j y hj => by have := hn (j + 1) y (by omega) (by simpa using hj); rwa [show i + (j + 1) = i + 1 + j by omega] at this]
    exact zero _ _ _
  | e :: es, i, k + 1, c, h, hL, hn => by
    simp only [csF]
    exact csF_last es (i + 1) k _ (by simpa using h) (by rwa [show i + (k + 1) = i + 1 + k by omega] at hL) fun j y hkj hj => by have := hn (j + 1) y (by omega) (by simpa using hj); rwa [show i + (j + 1) = i + 1 + j by omega] at this
def inLs : List Nat → Nat → Bool
  | [], _ => false
  | k :: r, i => bif Nat.beq k i then true else inLs r i
theorem inLs_mem : ∀ {l : List Nat} {i : Nat}, inLs l i = true → i ∈ l
  | [], _, h => by simp [inLs] at h
  | k :: r, i, h => by
    simp only [inLs] at h
    cases hb : Nat.beq k i
    · rw [hb] at h; exact List.mem_cons_of_mem _ (inLs_mem h)
    · rw [Nat.eq_of_beq_eq_true hb]; exact List.mem_cons_self
def HC (E : En) (ops : Array Oper) (bl : List (Nat × List AV)) (N : Nat) (es : List Nat) : Nat → List Oper → St → List AV → (St → List AV → Prop) → Prop
  | _, [], s, c, K => K s c
  | k, o :: rest, s, c, K =>
    (∃ v nb no, QV E bl s.tm o v nb no ∧ dstB E.nt o = true ∧ (freshB nb no s = true ∧ namesB nb o = true) ∧
      (o.guard = none ∨ ∃ j d b, o.guard = some (j, b) ∧ (ops[j]?).bind (·.dst) = some d ∧ look s.tm d = .v (.bool b)) ∧ HC E ops bl N es (k + 1) rest (s.app o.dst v nb no) c K) ∨
    (∃ j d b, o.guard = some (j, !b) ∧ (ops[j]?).bind (·.dst) = some d ∧ look s.tm d = .v (.bool b) ∧ dstB E.nt o = true ∧ HC E ops bl N es (k + 1) rest (s.app o.dst (.v undef) [] []) c K) ∨
    (∃ v c', EV E N s.tm o v c c' ∧ dstB E.nt o = true ∧ o.guard = none ∧ inLs es k = true ∧ HC E ops bl N es (k + 1) rest (s.app o.dst v [] []) c' K)
structure StepC (E : En) (ops : Array Oper) (bl : List (Nat × List AV)) (N : Nat) (es : List Nat) (k : Nat) (s : St) (c : List AV) (o : Oper) (t : Tr) (e : Option (List AV)) : Prop where
  d : t.d = o.dst
  dst : dstB E.nt o = true
  fr : freshB t.nb t.no s = true ∧ ∀ p ∈ t.nb, o.dst = some p.1
  run : (e = none ∧ QV E bl s.tm o t.v t.nb t.no ∧ (o.guard = none ∨ ∃ j d b, o.guard = some (j, b) ∧ (ops[j]?).bind (·.dst) = some d ∧ look s.tm d = .v (.bool b))) ∨
    (e = none ∧ t.v = .v undef ∧ t.nb = [] ∧ t.no = [] ∧ ∃ j d b, o.guard = some (j, !b) ∧ (ops[j]?).bind (·.dst) = some d ∧ look s.tm d = .v (.bool b)) ∨
    (∃ c', e = some c' ∧ EV E N s.tm o t.v c c' ∧ o.guard = none ∧ inLs es k = true ∧ t.nb = [] ∧ t.no = [])
theorem HC_trace {E : En} {ops : Array Oper} {bl : List (Nat × List AV)} {N : Nat} {es : List Nat} {K : St → List AV → Prop} : ∀ (l : List Oper) (k : Nat) (s : St) (c : List AV), HC E ops bl N es k l s c K →
    ∃ (T : List Tr) (Es : List (Option (List AV))), T.length = l.length ∧ Es.length = l.length ∧ K (stS (fun _ => true) T 0 s) (csF (fun _ => true) Es 0 c) ∧
      (∀ i o t e, l[i]? = some o → T[i]? = some t → Es[i]? = some e → StepC E ops bl N es (k + i) (stS (fun j => decide (j < i)) T 0 s) (csF (fun j => decide (j < i)) Es 0 c) o t e)
  | [], k, s, c, h => ⟨[], [], rfl, rfl, h, fun i o t e hi => by simp at hi⟩
  | o :: rest, k, s, c, h => by
    have shift : ∀ (L : Nat → Bool) (T : List Tr) (i : Nat) (s : St), stS L T (i + 1) s = stS (fun j => L (j + 1)) T i s := by
      intro L T
      induction T with
      | nil => intro i s; rfl
      | cons t T ih => intro i s; simp only [stS]; exact ih (i + 1) _
    have shiftC : ∀ (L : Nat → Bool) (T : List (Option (List AV))) (i : Nat) (s : List AV), csF L T (i + 1) s = csF (fun j => L (j + 1)) T i s := by
      intro L T
      induction T with
      | nil => intro i s; rfl
      | cons t T ih => intro i s; simp only [csF]; exact ih (i + 1) _
    have zero : ∀ (T : List Tr) (i : Nat) (s : St), stS (fun _ => false) T i s = s := by
      intro T
      induction T with
      | nil => intro i s; rfl
      | cons t T ih => intro i s; simp only [stS, cond_false]; exact ih _ s
    have zeroC : ∀ (es : List (Option (List AV))) (i : Nat) (c : List AV), csF (fun _ => false) es i c = c := by
      intro es
      induction es with
      | nil => intro i c; rfl
      | cons e es ih => intro i c; simp only [csF, cond_false]; exact ih _ c
    have go : ∀ (t : Tr) (e : Option (List AV)), StepC E ops bl N es k s c o t e → HC E ops bl N es (k + 1) rest (s.app t.d t.v t.nb t.no) (e.getD c) K →
        ∃ (T : List Tr) (Es : List (Option (List AV))), T.length = (o :: rest).length ∧ Es.length = (o :: rest).length ∧ K (stS (fun _ => true) T 0 s) (csF (fun _ => true) Es 0 c) ∧
      (∀ i o' t e, (o :: rest)[i]? = some o' → T[i]? = some t → Es[i]? = some e → StepC E ops bl N es (k + i) (stS (fun j => decide (j < i)) T 0 s) (csF (fun j => decide (j < i)) Es 0 c) o' t e) := by
      intro t e hs hk
      obtain ⟨T, Es, h1, h1', h2, h3⟩ := HC_trace rest _ _ _ hk
      refine ⟨t :: T, e :: Es, by simp [h1], by simp [h1'], ?_, fun i o' t' e' hi ht he => ?_⟩
      · simp only [stS, csF, cond_true]; rw [shift, shiftC]; exact h2
      · cases i with
        | zero =>
          simp only [List.getElem?_cons_zero, Option.some.injEq] at hi ht he
          subst hi; subst ht; subst he
          have e1 : stS (fun j => decide (j < 0)) (t :: T) 0 s = s := by
            simp only [stS, Nat.not_lt_zero, decide_false, cond_false]; exact zero _ _ _
          have e2 : csF (fun j => decide (j < 0)) (e :: Es) 0 c = c := by
            simp only [csF, Nat.not_lt_zero, decide_false, cond_false]; exact zeroC _ _ _
          rw [e1, e2]; exact hs
        | succ i =>
          have := h3 i o' t' e' (by simpa using hi) (by simpa using ht) (by simpa using he)
          simp only [stS, csF, Nat.zero_lt_succ, decide_true, cond_true]
          rw [shift, shiftC, show k + (i + 1) = k + 1 + i by omega]
          simpa [Nat.add_lt_add_iff_right] using this
    rcases h with ⟨v, nb, no, h1, h2, h3, h4, h5⟩ | ⟨j, d, b, h1, h2, h3, h4, h5⟩ | ⟨v, c', h1, h2, h3, h4, h5⟩
    · exact go ⟨o.dst, v, nb, no⟩ none ⟨rfl, h2, ⟨h3.1, namesB_spec h3.2⟩, .inl ⟨rfl, h1, h4⟩⟩ h5
    · exact go ⟨o.dst, .v undef, [], []⟩ none ⟨rfl, h4, ⟨by simp [freshB], by simp⟩, .inr (.inl ⟨rfl, rfl, rfl, rfl, j, d, b, h1, h2, h3⟩)⟩ h5
    · exact go ⟨o.dst, v, [], []⟩ (some c') ⟨rfl, h2, ⟨by simp [freshB], by simp⟩, .inr (.inr ⟨c', rfl, h1, h3, h4, rfl, rfl⟩)⟩ h5
def effB (ops : Array Oper) (n : Nat) (es : List Nat) : Bool := es.all fun i => es.all fun j => bif Nat.blt j i then ((depTab ops n).getD i []).contains j else true

theorem W_drawC {E : En} {id : Nat} {l : List Oper} {Q : Exit → St → Prop} {s : St} {c : List AV} (n N : Nat) (es : List Nat) (hm : E.P.follows .mixedOrders = true) (hB : headB l.toArray n = true) (hT : tailB l.toArray n = true) (hE : effB l.toArray n es = true) (hN : l.all (fun o => match o.dst with | some d => !Nat.beq d N | none => true) = true) (hbN : s.bl.all (fun q => !Nat.beq q.1 N) = true)
    (h : HC E l.toArray s.bl N es 0 (l.take n) s c (fun s' c' => WL E l.toArray (l.drop n) Q ⟨s'.tm, (N, c') :: s'.bl, s'.ow⟩)) : W E (.region id l.toArray true) Q ⟨s.tm, (N, c) :: s.bl, s.ow⟩ := by
  intro g0 a0 w00 hi0
  obtain ⟨T, Es, hTl, hEl, hK, hstep⟩ := HC_trace _ _ _ _ h
  obtain ⟨hn, hback, hord⟩ := headB_spec hB
  have hn' : n ≤ l.length := by simpa using hn
  have hTn : T.length = n := by rw [hTl]; simp; omega
  have hEn : Es.length = n := by rw [hEl]; simp; omega
  have hdN : ∀ (i : Nat) (o : Oper), l.toArray[i]? = some o → o.dst ≠ some N := fun i o ho e => by
    have := List.all_eq_true.1 hN o (List.mem_of_getElem? (by simpa using ho))
    rw [e] at this
    simp at this
  simp only [tailB, Bool.and_eq_true] at hT
  obtain ⟨hT1, hT2⟩ := hT
  have hopt : ∀ i, i < n → ∃ o t, l.toArray[i]? = some o ∧ (l.take n)[i]? = some o ∧ T[i]? = some t := fun i hi => by
    have h1 : i < l.length := by omega
    refine ⟨l[i], T[i]'(by omega), by simp [h1], by simp [hi, h1], by simp [hTn, hi]⟩
  have hopE : ∀ i, i < n → ∃ e, Es[i]? = some e := fun i hi => ⟨Es[i]'(by omega), by simp [hEn, hi]⟩
  have inS : ∀ (i : Nat) (t : Tr), T[i]? = some t → ∀ (j : Nat) (t' : Tr), j < i → T[j]? = some t' → ∀ q ∈ t'.nb, q ∈ (stS (fun j => decide (j < i)) T 0 s).bl := fun i t _ j t' hj ht' q hq => (mem_bl_stS T 0 s).2 (.inr ⟨j, t', ht', by simpa using hj, hq⟩)
  have inS0 : ∀ (i : Nat) q, q ∈ s.bl → q ∈ (stS (fun j => decide (j < i)) T 0 s).bl := fun i q hq => (mem_bl_stS T 0 s).2 (.inl hq)
  have inO : ∀ (i : Nat) (t : Tr), T[i]? = some t → ∀ (j : Nat) (t' : Tr), j < i → T[j]? = some t' → ∀ k ∈ t'.no, k ∈ (stS (fun j => decide (j < i)) T 0 s).ow := fun i t _ j t' hj ht' k hk => (mem_ow_stS T 0 s).2 (.inr ⟨j, t', ht', by simpa using hj, hk⟩)
  let Lf : Array Bool → Nat → Bool := fun listed i => listed.getD i false
  have tailNot : ∀ listed, HeadInv .any l.toArray n listed → 0 < cnt n (Lf listed) → ∀ i ∈ Region.ready .any l.toArray listed, i < n := by
    intro listed inv hc i hi
    rcases Nat.lt_or_ge i n with h1 | h1
    · exact h1
    · exfalso
      have hlt : i < l.toArray.size := by
        obtain ⟨_, o, ho, _⟩ := mem_ready.1 hi
        exact (Array.getElem?_eq_some_iff.1 ho).1
      have hns : n < l.toArray.size := by omega
      have hb : Nat.blt n l.toArray.size = true := Nat.ble_eq_true_of_le hns
      rw [hb] at hT1
      simp only [cond_true, Bool.and_eq_true] at hT1
      obtain ⟨k, hk1, hk2, _⟩ := cnt_pos hc
      have hk3 : listed.getD k true = false := getD_in (by rw [inv.size]; omega) hk2
      exact tail_waits hT1.1 hT1.2 hns inv _ k rfl hk1 hk3 i h1 hi
  have progress : ∀ listed, HeadInv .any l.toArray n listed → 0 < cnt n (Lf listed) → Region.ready .any l.toArray listed ≠ [] := by
    intro listed inv hc he
    obtain ⟨k, hk1, hk2, hk3⟩ := cnt_pos hc
    have : k ∈ Region.ready .any l.toArray listed := by
      obtain ⟨o, t, h1, _, _⟩ := hopt k hk1
      exact mem_ready.2 ⟨getD_in (by rw [inv.size]; omega) hk2, o, h1, fun e he hb => hk3 _ (hback k o hk1 h1 e he hb)⟩
    rw [he] at this
    cases this
  have main : ∀ (f : Nat) (listed : Array Bool) (g : Gh) (a : Act) (w : World), cnt n (Lf listed) = f → HeadInv .any l.toArray n listed → Inv E g ⟨(stS (Lf listed) T 0 s).tm, (N, csF (Lf listed) Es 0 c) :: (stS (Lf listed) T 0 s).bl, (stS (Lf listed) T 0 s).ow⟩ a w → wpAnyIn (fo E.rd) 0 E.P .any l.toArray (post E Q) (f + (l.toArray.size - n)) listed a w := by
    intro f
    induction f with
    | zero =>
      intro listed g a w hc inv hinv
      have hall := cnt_zero hc
      have hst : stS (Lf listed) T 0 s = stS (fun _ => true) T 0 s := by
        have : ∀ (T : List Tr) (i : Nat) (s : St), (∀ j, j < T.length → Lf listed (i + j) = true) → stS (Lf listed) T i s = stS (fun _ => true) T i s := by
          intro T
          induction T with
          | nil => intro i s _; rfl
          | cons t T ih =>
            intro i s hL
            simp only [stS]
            rw [show Lf listed i = true by simpa using hL 0 (by simp)]
            exact ih (i + 1) _ fun j hj => by have := hL (j + 1) (by simp; omega); rwa [show i + (j + 1) = i + 1 + j by omega] at this
        exact this T 0 s fun j hj => by rw [Nat.zero_add]; exact hall j (by omega)
      have hcs : csF (Lf listed) Es 0 c = csF (fun _ => true) Es 0 c := csF_congr Es 0 c fun j x hj => by
        rw [Nat.zero_add]
        exact hall j (by rw [← hEn]; exact (List.getElem?_eq_some_iff.1 hj).1)
      rw [hst, hcs] at hinv
      have hli : listed = ((List.range l.toArray.size).map fun i => Nat.blt i n).toArray := by
        apply Array.ext
        · simp [inv.size]
        · intro i h1 h2
          have h3 : i < l.toArray.size := by rw [← inv.size]; exact h1
          simp only [List.getElem_toArray, List.getElem_map, List.getElem_range]
          rcases Nat.lt_or_ge i n with h4 | h4
          · have h5 := hall i h4
            simp only [Lf, Array.getD_eq_getD_getElem?, Array.getElem?_eq_getElem h1, Option.getD_some] at h5
            rw [h5]
            exact (Nat.ble_eq_true_of_le h4).symm
          · have h5 := inv.tail i h4 h3
            simp only [Array.getD_eq_getD_getElem?, Array.getElem?_eq_getElem h1, Option.getD_some] at h5
            rw [h5]
            cases h6 : Nat.blt i n
            · rfl
            · have := Nat.le_of_ble_eq_true h6; omega
      have hdl : (l.drop n).length = l.toArray.size - n := by simp
      have := wpAnyIn_of_seq (F := fo E.rd) (n := 0) (P := E.P) (md := .any) (Q' := post E Q) (l.drop n) n listed a w (fun j => by simp [List.getElem?_drop]) (by rw [hdl, hli]; exact hT2) (hK g a w hinv)
      rw [hdl] at this
      rw [Nat.zero_add]; exact this
    | succ f ih =>
      intro listed g a w hc inv hinv
      rw [show f + 1 + (l.toArray.size - n) = (f + (l.toArray.size - n)) + 1 by omega]
      have hpos : 0 < cnt n (Lf listed) := by omega
      refine ⟨fun he => absurd he (progress listed inv hpos), fun i hi => ?_⟩
      have hin := tailNot listed inv hpos i hi
      obtain ⟨o, t, ho, ho', ht⟩ := hopt i hin
      obtain ⟨hun, o2, ho2, hdeps⟩ := mem_ready.1 hi
      have : o2 = o := Option.some.inj (ho2.symm.trans ho)
      subst this
      have hLi : Lf listed i = false := getD_both hun
      obtain ⟨e0, he0⟩ := hopE i hin
      obtain ⟨hd, hdst, hfr, hrun⟩ := hstep i o2 t e0 ho' ht he0
      rw [Nat.zero_add] at hrun
      have closed : ∀ k ok, l.toArray[k]? = some ok → Lf listed k = true → ∀ e ∈ ok.after, Region.binds .any e = true → Lf listed e.on = true := fun k ok hk hl e he hb => inv.closed k ok hk hl e he hb
      have depI : ∀ j ∈ (depTab l.toArray n).getD i [], Lf listed j = true := depTab_closed closed n i fun o' ho' e he hb => by
        have : o' = o2 := Option.some.inj (ho'.symm.trans ho)
        subst this
        exact hdeps e he hb
      have depJ : ∀ j, i ∈ (depTab l.toArray n).getD j [] → Lf listed j = false := fun j hj => by
        cases hLj : Lf listed j
        · rfl
        · have := depTab_closed closed n j (fun o' ho' => closed j o' ho' hLj) i hj
          rw [hLi] at this; cases this
      have hTd : ∀ j tr, T[j]? = some tr → j < n ∧ ∃ oj, l.toArray[j]? = some oj ∧ tr.d = oj.dst := fun j tr hj => by
        have hjn : j < n := by rw [← hTn]; exact (List.getElem?_eq_some_iff.1 hj).1
        obtain ⟨oj, t', h1, h2, h3⟩ := hopt j hjn
        obtain ⟨ej, hej⟩ := hopE j hjn
        exact ⟨hjn, oj, h1, (hstep j oj tr ej h2 hj hej).d⟩
      have sameLook : ∀ u, u ∈ o2.looksAt l.toArray → look (stS (Lf listed) T 0 s).tm u = look (stS (fun j => decide (j < i)) T 0 s).tm u := fun u hu =>
        look_stS T 0 s s rfl fun j tr hj hdu => by
          rw [Nat.zero_add]
          obtain ⟨hjn, oj, hoj, hjd⟩ := hTd j tr hj
          rcases Nat.lt_trichotomy j i with h1 | h1 | h1
          · rw [decide_eq_true h1]
            exact depI j ((hord i o2 j oj u hin hjn (by omega) ho hoj (hjd ▸ hdu) (.inl hu)).1 h1)
          · subst h1; rw [hLi]; simp
          · rw [decide_eq_false (by omega)]
            exact depJ j ((hord i o2 j oj u hin hjn (by omega) ho hoj (hjd ▸ hdu) (.inl hu)).2 h1)
      have hLset : ∀ j, Lf (listed.setIfInBounds i true) j = (decide (j = i) || Lf listed j) := fun j => by
        by_cases e : j = i
        · subst e
          have hlt : j < listed.size := by rw [inv.size]; exact (Array.getElem?_eq_some_iff.1 ho).1
          simp [Lf, hlt]
        · simp only [e, decide_false, Bool.false_or, Lf]
          exact getD_set_ne false (Ne.symm e)
      have hcnt : cnt n (Lf (listed.setIfInBounds i true)) = f := by
        have := cnt_set (L := Lf listed) (L' := Lf (listed.setIfInBounds i true)) (i := i) hLi (by rw [hLset]; simp) (fun j hj => by rw [hLset]; simp [hj]) n
        rw [if_pos hin] at this
        omega
      -- what holds behind the step
      have next : ∀ (g' : Gh) (a' : Act) (w' : World) (c' : List AV), csF (Lf (listed.setIfInBounds i true)) Es 0 c = c' → Inv E g' ⟨((stS (Lf listed) T 0 s).app t.d t.v t.nb t.no).tm, (N, c') :: ((stS (Lf listed) T 0 s).app t.d t.v t.nb t.no).bl, ((stS (Lf listed) T 0 s).app t.d t.v t.nb t.no).ow⟩ a' w' → wpAnyIn (fo E.rd) 0 E.P .any l.toArray (post E Q) (f + (l.toArray.size - n)) (listed.setIfInBounds i true) a' w' := by
        intro g' a' w' c' hc' hinv'
        subst hc'
        refine ih _ g' a' w' hcnt (inv.set hi hin) ⟨hinv'.mem.same (fun p => ?_) (fun k hk => ?_), fun u => ?_, hinv'.de, hinv'.sz⟩
        · simp only [List.mem_cons]
          refine or_congr Iff.rfl ?_
          simp only [St.app, List.mem_append, mem_bl_stS, hLset, Nat.zero_add]
          constructor
          · rintro (hp | hp | ⟨j, tr, h1, h2, h3⟩)
            · exact .inr ⟨i, t, ht, by simp, hp⟩
            · exact .inl hp
            · exact .inr ⟨j, tr, h1, by simp [h2], h3⟩
          · rintro (hp | ⟨j, tr, h1, h2, h3⟩)
            · exact .inr (.inl hp)
            · by_cases e : j = i
              · subst e
                rw [ht] at h1; cases h1; exact .inl h3
              · exact .inr (.inr ⟨j, tr, h1, by simpa [e] using h2, h3⟩)
        · simp only [St.app, List.mem_append, mem_ow_stS, hLset, Nat.zero_add] at hk ⊢
          rcases hk with hp | hp | ⟨j, tr, h1, h2, h3⟩
          · exact .inr ⟨i, t, ht, by simp, hp⟩
          · exact .inl hp
          · exact .inr ⟨j, tr, h1, by simp [h2], h3⟩
        · have hu := hinv'.tm u
          have heq : look (stS (Lf (listed.setIfInBounds i true)) T 0 s).tm u = look ((stS (Lf listed) T 0 s).app t.d t.v t.nb t.no).tm u := by
            by_cases hdu : t.d = some u
            · have h1 : look ((stS (Lf listed) T 0 s).app t.d t.v t.nb t.no).tm u = t.v := by simp [St.app, hdu, look]
              rw [h1]
              refine look_last T 0 i s t ht hdu rfl (by rw [Nat.zero_add, hLset]; simp) fun j tr hj hij hdj => ?_
              rw [Nat.zero_add, hLset]
              obtain ⟨hjn, oj, hoj, hjd⟩ := hTd j tr hj
              have := depJ j ((hord i o2 j oj u hin hjn (by omega) ho hoj (hjd ▸ hdj) (.inr (hd ▸ hdu))).2 hij)
              rw [this]
              simp; omega
            · have h1 : look ((stS (Lf listed) T 0 s).app t.d t.v t.nb t.no).tm u = look (stS (Lf listed) T 0 s).tm u := by
                simp only [St.app]
                cases hdd : t.d with
                | none => rfl
                | some k =>
                  have : k ≠ u := fun e => hdu (by rw [hdd, e])
                  simp only [look]
                  cases hb : Nat.beq k u
                  · rfl
                  · exact absurd (Nat.eq_of_beq_eq_true hb) this
              rw [h1]
              refine look_stS T 0 s s rfl fun j tr hj hdj => ?_
              rw [Nat.zero_add, hLset]
              have : j ≠ i := fun e => by subst e; rw [ht] at hj; cases hj; exact hdu hdj
              simp [this]
          rw [heq]; exact hu
      have hdst' : ∀ k, t.d = some k → k < E.nt := fun k hk => dstB_spec hdst k (hd ▸ hk)
      unfold wpOpIn
      simp only [ho]
      have hguard : ∀ {j d b}, o2.guard = some (j, b) → (l.toArray[j]?).bind (·.dst) = some d → ∀ c, look (stS (fun j => decide (j < i)) T 0 s).tm d = .v (.bool c) → yielded l.toArray a.tmps j = some c := fun {j d b} hg hj c hc' => by
        have h1 := hinv.tm d
        rw [sameLook d (looksAt_guard hg hj), hc'] at h1
        simp only [rep] at h1
        exact yielded_of hj h1
      have csNone : e0 = none → csF (Lf (listed.setIfInBounds i true)) Es 0 c = csF (Lf listed) Es 0 c := fun he => csF_congr Es 0 c fun j x hj => by
        rw [Nat.zero_add, hLset]
        have : j ≠ i := fun e => by subst e; rw [he0, he] at hj; cases hj
        simp [this]
      have hmemN : ∀ q ∈ (stS (Lf listed) T 0 s).bl, q.1 ≠ N := fun q hq e => by
        rcases (mem_bl_stS T 0 s).1 hq with hq | ⟨j, tr, h1, h2, h3⟩
        · have := List.all_eq_true.1 hbN q hq
          rw [e] at this; simp at this
        · obtain ⟨hjn, oj, hoj, hjd⟩ := hTd j tr h1
          obtain ⟨oj', t', k1, k2, k3⟩ := hopt j hjn
          have : oj' = oj := Option.some.inj (k1.symm.trans hoj)
          subst this
          obtain ⟨ej, hej⟩ := hopE j hjn
          have := (hstep j oj' tr ej k2 h1 hej).fr.2 q h3
          exact hdN j oj' hoj (by rw [this, e])
      have oth : ∀ j tr, T[j]? = some tr → Lf listed j = true → j ≠ i := fun j tr _ hL e => by subst e; rw [hLi] at hL; cases hL
      have operandsOk : ∀ x ∈ o2.op.operands, rep g w (ev (stS (fun j => decide (j < i)) T 0 s).tm x) (a.eval x) := fun x hx => by
        have := rep_ev hinv.tm x
        rwa [ev_same (tm' := (stS (fun j => decide (j < i)) T 0 s).tm) fun u hu => by subst hu; exact sameLook u (looksAt_op hx)] at this
      rcases hrun with ⟨hen, hq, hg⟩ | ⟨hen, hv, hnb, hno, j, dd, b, hg, hj, hb⟩ | ⟨c', hen, hev, hgn, hin', hnb, hno⟩
      · have hw : Region.wanted o2 (yielded l.toArray a.tmps) = true := by
          rcases hg with hg | ⟨j, dd, b, hg, hj, hb⟩
          · simp [Region.wanted, hg]
          · simp [Region.wanted, hg, hguard hg hj b hb]
        rw [hw]
        rw [if_pos rfl]
        have hfresh : (∀ p ∈ t.nb, ∀ q ∈ (N, csF (Lf listed) Es 0 c) :: (stS (Lf listed) T 0 s).bl, p.1 ≠ q.1) ∧ ∀ k ∈ t.no, k ∉ (stS (Lf listed) T 0 s).ow := by
          obtain ⟨f1, f2⟩ := freshB_spec hfr.1
          · refine ⟨fun p hp q hq' => ?_, fun k hk hk' => ?_⟩
            · rcases List.mem_cons.1 hq' with rfl | hq'
              · exact fun e => hdN i o2 ho (by rw [hfr.2 p hp, e])
              rcases (mem_bl_stS T 0 s).1 hq' with hq' | ⟨j, tr, h1, h2, h3⟩
              · exact f1 p hp q (inS0 i q hq')
              · rw [Nat.zero_add] at h2
                rcases Nat.lt_trichotomy j i with h4 | h4 | h4
                · exact f1 p hp q (inS i t ht j tr h4 h1 q h3)
                · exact absurd h4 (oth j tr h1 h2)
                · obtain ⟨hjn, oj, hoj, hjd⟩ := hTd j tr h1
                  obtain ⟨oj', t', k1, k2, k3⟩ := hopt j hjn
                  have : oj' = oj := Option.some.inj (k1.symm.trans hoj)
                  subst this
                  obtain ⟨ej, hej⟩ := hopE j hjn
                  exact fun e => (freshB_spec (hstep j oj' tr ej k2 h1 hej).fr.1).1 q h3 p (inS j tr h1 i t h4 ht p hp) e.symm
            · rcases (mem_ow_stS T 0 s).1 hk' with hk' | ⟨j, tr, h1, h2, h3⟩
              · exact f2 k hk ((mem_ow_stS T 0 s).2 (.inl hk'))
              · rw [Nat.zero_add] at h2
                rcases Nat.lt_trichotomy j i with h4 | h4 | h4
                · exact f2 k hk (inO i t ht j tr h4 h1 k h3)
                · exact absurd h4 (oth j tr h1 h2)
                · obtain ⟨hjn, oj, hoj, hjd⟩ := hTd j tr h1
                  obtain ⟨oj', t', k1, k2, k3⟩ := hopt j hjn
                  obtain ⟨ej, hej⟩ := hopE j hjn
                  exact (freshB_spec (hstep j oj' tr ej k2 h1 hej).fr.1).2 k h3 (inO j tr h1 i t h4 ht k hk)
        refine wp_of_uponQ (hq g w a.eval ((N, csF (Lf listed) Es 0 c) :: (stS (Lf listed) T 0 s).bl) (stS (Lf listed) T 0 s).ow hinv.mem (fun p hp => List.mem_cons_of_mem _ ((mem_bl_stS T 0 s).2 (.inl hp))) hfresh.1 hfresh.2 operandsOk) fun y w' hKy => ?_
        obtain ⟨g', h1, h2, h3⟩ := hKy
        have := hinv.app (d := t.d) hdst' h1 h2 h3
        rw [hd] at this
        have hmm' : Mem E g' ((N, csF (Lf listed) Es 0 c) :: (t.nb ++ (stS (Lf listed) T 0 s).bl)) (t.no ++ (stS (Lf listed) T 0 s).ow) w' := h2.same (fun p => by
          simp only [List.mem_append, List.mem_cons]
          constructor
          · rintro (hp | hp | hp)
            · exact .inr (.inl hp)
            · exact .inl hp
            · exact .inr (.inr hp)
          · rintro (hp | hp | hp)
            · exact .inr (.inl hp)
            · exact .inl hp
            · exact .inr (.inr hp)) (fun k hk => hk)
        exact next g' _ w' _ (csNone hen) (by rw [hd]; exact ⟨hmm', this.tm, this.de, this.sz⟩)
      · have hw : Region.wanted o2 (yielded l.toArray a.tmps) = false := by
          simp [Region.wanted, hg, hguard hg hj b hb]
        rw [hw]
        have := hinv.app (d := t.d) (v := t.v) (y := undef) (nb := []) (no := []) hdst' (Goes.refl g w) hinv.mem (by rw [hv]; simp [rep])
        rw [hd] at this
        exact ⟨fun _ _ => trivial, next g _ w _ (csNone hen) (by rw [hd, hnb, hno]; exact this)⟩
      · have hw : Region.wanted o2 (yielded l.toArray a.tmps) = true := by simp [Region.wanted, hgn]
        rw [hw]
        rw [if_pos rfl]
        have hiE := inLs_mem hin'
        have effI : ∀ j x, Es[j]? = some (some x) → j ∈ es := fun j x hj => by
          have hjn : j < n := by rw [← hEn]; exact (List.getElem?_eq_some_iff.1 hj).1
          obtain ⟨oj, tj, k1, k2, k3⟩ := hopt j hjn
          rcases (hstep j oj tj _ k2 k3 hj).run with ⟨h, _⟩ | ⟨h, _⟩ | ⟨_, _, _, _, h, _⟩
          · cases h
          · cases h
          · rw [Nat.zero_add] at h; exact inLs_mem h
        have chain : ∀ j k, j ∈ es → k ∈ es → j < k → j ∈ (depTab l.toArray n).getD k [] := fun j k hj hk hlt => by
          have h1 := List.all_eq_true.1 (List.all_eq_true.1 hE k hk) j hj
          rw [show Nat.blt j k = true from Nat.ble_eq_true_of_le hlt] at h1
          simpa using h1
        have hcs : csF (Lf listed) Es 0 c = csF (fun j => decide (j < i)) Es 0 c := csF_congr Es 0 c fun j x hj => by
          rw [Nat.zero_add]
          rcases Nat.lt_trichotomy j i with h1 | h1 | h1
          · rw [decide_eq_true h1]; exact depI j (chain j i (effI j x hj) hiE h1)
          · subst h1; rw [hLi]; simp
          · rw [decide_eq_false (by omega)]; exact depJ j (chain i j hiE (effI j x hj) h1)
        have hmm : Mem E g ((N, csF (fun j => decide (j < i)) Es 0 c) :: (stS (Lf listed) T 0 s).bl) (stS (Lf listed) T 0 s).ow w := by rw [← hcs]; exact hinv.mem
        have hlast : csF (Lf (listed.setIfInBounds i true)) Es 0 c = c' := csF_last Es 0 i c (by rw [he0, hen]) (by rw [Nat.zero_add, hLset]; simp) fun j y hij hj => by
          rw [Nat.zero_add, hLset, depJ j (chain i j hiE (effI j y hj) hij)]
          simp; omega
        refine wp_of_uponQ (hev g w a.eval (stS (Lf listed) T 0 s).bl (stS (Lf listed) T 0 s).ow hmm hmemN operandsOk) fun y w' hKy => ?_
        obtain ⟨g', h1, h2, h3⟩ := hKy
        have hput := look_put (E := E) (g := g') (w := w') (a := a) (s := ⟨(stS (Lf listed) T 0 s).tm, (N, c') :: (stS (Lf listed) T 0 s).bl, (stS (Lf listed) T 0 s).ow⟩) (d := t.d) (v := t.v) (y := y) [] [] hdst' hinv.sz (fun t => rep_goes h1 (hinv.tm t)) h3
        rw [hd] at hput
        refine next g' _ w' _ hlast ?_
        rw [hd, hnb, hno]
        exact ⟨by simpa [St.app] using h2, by simpa [St.app] using hput, by cases o2.dst <;> simpa [Act.put] using hinv.de, by cases o2.dst <;> simpa [Act.put] using hinv.sz⟩
  refine wpIn_region_any hm ?_
  have inv0 : HeadInv .any l.toArray n (Array.replicate l.toArray.size false) :=
    ⟨by simp, fun j oj _ hl => (by rw [getD_replicate_false] at hl; cases hl), fun t _ ht => getD_in (by simpa using ht) (getD_replicate_false _ _)⟩
  have hL0 : Lf (Array.replicate l.toArray.size false) = fun _ => false := by funext i; exact getD_replicate_false _ _
  have := main n (Array.replicate l.toArray.size false) g0 a0 { w00 with drawn := w00.drawn + 1 } (by rw [hL0]; exact cnt_false n) inv0 ?_
  · rwa [show n + (l.toArray.size - n) = l.toArray.size by omega] at this
  · rw [hL0]
    have zero : ∀ (T : List Tr) (i : Nat) (s : St), stS (fun _ => false) T i s = s := by
      intro T
      induction T with
      | nil => intro i s; rfl
      | cons t T ih => intro i s; simp only [stS, cond_false]; exact ih _ s
    have zeroC : ∀ (es : List (Option (List AV))) (i : Nat) (c : List AV), csF (fun _ => false) es i c = c := by
      intro es
      induction es with
      | nil => intro i c; rfl
      | cons e es ih => intro i c; simp only [csF, cond_false]; exact ih _ c
    rw [zero, zeroC]
    exact hi0.drew
end Go.Eng

namespace Go.Eng
open Go

def pullB (N : Nat) : List (Nat × List AV) → Option (List AV × List (Nat × List AV))
  | [] => none
  | (k, c) :: r => bif Nat.beq k N then some (c, r) else match pullB N r with | some (c', r') => some (c', (k, c) :: r') | none => none
theorem pullB_mem {N : Nat} : ∀ {bl : List (Nat × List AV)} {c : List AV} {r : List (Nat × List AV)}, pullB N bl = some (c, r) → ∀ p, p ∈ bl ↔ p ∈ (N, c) :: r
  | [], _, _, h, _ => by simp [pullB] at h
  | (k, c0) :: bl, c, r, h, p => by
    simp only [pullB] at h
    cases hb : Nat.beq k N
    · rw [hb] at h
      simp only [cond_false] at h
      split at h
      · rename_i c' r' he
        simp only [Option.some.injEq, Prod.mk.injEq] at h
        obtain ⟨rfl, rfl⟩ := h
        have := pullB_mem he p
        simp only [List.mem_cons] at this ⊢
        constructor
        · rintro (h1 | h1)
          · exact .inr (.inl h1)
          · rcases this.1 h1 with h2 | h2
            · exact .inl h2
            · exact .inr (.inr h2)
        · rintro (h1 | h1 | h1)
          · exact .inr (this.2 (.inl h1))
          · exact .inl h1
          · exact .inr (this.2 (.inr h1))
      · cases h
    · rw [hb] at h
      simp only [cond_true, Option.some.injEq, Prod.mk.injEq] at h
      obtain ⟨rfl, rfl⟩ := h
      rw [Nat.eq_of_beq_eq_true hb]
theorem wdrawC {E : En} {id : Nat} {l hd tl : List Oper} {Q : Exit → St → Prop} {tm : List (Nat × AV)} {bl bl0 : List (Nat × List AV)} {ow : List Nat} {c : List AV} (n N : Nat) (es : List Nat) (hm : E.P.follows .mixedOrders = true) (hB : headB l.toArray n = true) (hT : tailB l.toArray n = true) (hE : effB l.toArray n es = true)
    (hN : l.all (fun o => match o.dst with | some d => !Nat.beq d N | none => true) = true) (hs : splitO n l = some (hd, tl)) (hp : pullB N bl = some (c, bl0)) (hbN : bl0.all (fun q => !Nat.beq q.1 N) = true)
    (h : HC E l.toArray bl0 N es 0 hd ⟨tm, bl0, ow⟩ c (fun s' c' => WL E l.toArray tl Q ⟨s'.tm, (N, c') :: s'.bl, s'.ow⟩)) : W E (.region id l.toArray true) Q ⟨tm, bl, ow⟩ := by
  obtain ⟨h1, h2⟩ := splitO_eq hs
  subst h1; subst h2
  intro g a w hi
  exact W_drawC (s := ⟨tm, bl0, ow⟩) n N es hm hB hT hE hN hbN h g a w ⟨hi.mem.same (pullB_mem hp) (fun k hk => hk), hi.tm, hi.de, hi.sz⟩
section
variable {E : En} {ops : Array Oper} {rest : List Oper} {N k : Nat} {es : List Nat} {K : St → List AV → Prop} {tm : List (Nat × AV)} {bl bl0 : List (Nat × List AV)} {ow : List Nat} {d : Nat} {op : Op} {ty : TypeId} {pos : String} {af : Array Edge} {gd : Option (Nat × Bool)} {v : AV} {c c' : List AV}
theorem HC_nil {s : St} (h : K s c) : HC E ops bl0 N es k [] s c K := h
theorem hc_gy {o : Oper} {s : St} {nb : List (Nat × List AV)} {no : List Nat} (h : QV E bl0 s.tm o v nb no) (hg : GY ops s.tm o.guard) (hd : dstB E.nt o = true) (hf : freshB nb no s = true) (hn : namesB nb o = true) (hk : HC E ops bl0 N es (k + 1) rest (s.app o.dst v nb no) c K) : HC E ops bl0 N es k (o :: rest) s c K := by
  refine .inl ⟨v, nb, no, h, hd, ⟨hf, hn⟩, ?_, hk⟩
  cases hgd : o.guard with
  | none => exact .inl rfl
  | some jb =>
    obtain ⟨j, b⟩ := jb
    rw [hgd] at hg
    obtain ⟨d, h1, h2⟩ := hg
    exact .inr ⟨j, d, b, rfl, h1, h2⟩
theorem hc0 (h : QV E bl0 tm ⟨some d, op, ty, pos, af, gd⟩ v [] []) (hg : GY ops tm gd) (hd : Nat.blt d E.nt = true) (hk : HC E ops bl0 N es (k + 1) rest ⟨(d, v) :: tm, bl, ow⟩ c K) : HC E ops bl0 N es k (⟨some d, op, ty, pos, af, gd⟩ :: rest) ⟨tm, bl, ow⟩ c K := hc_gy h hg hd (by simp [freshB]) (by simp [namesB]) hk
theorem hcn1 {n : Nat} (h : QV E bl0 tm ⟨some d, op, ty, pos, af, gd⟩ v [] [n]) (hg : GY ops tm gd) (hd : Nat.blt d E.nt = true) (hf : freshB [] [n] ⟨tm, bl, ow⟩ = true) (hk : HC E ops bl0 N es (k + 1) rest ⟨(d, v) :: tm, bl, n :: ow⟩ c K) : HC E ops bl0 N es k (⟨some d, op, ty, pos, af, gd⟩ :: rest) ⟨tm, bl, ow⟩ c K := hc_gy h hg hd hf (by simp [namesB]) hk
theorem hcn (hg : GN ops tm gd) (hd : Nat.blt d E.nt = true) (hk : HC E ops bl0 N es (k + 1) rest ⟨(d, .v undef) :: tm, bl, ow⟩ c K) : HC E ops bl0 N es k (⟨some d, op, ty, pos, af, gd⟩ :: rest) ⟨tm, bl, ow⟩ c K := by
  cases gd with
  | none => exact hg.elim
  | some jb =>
    obtain ⟨j, b⟩ := jb
    obtain ⟨d', h1, h2⟩ := hg
    exact .inr (.inl ⟨j, d', !b, by simp, h1, h2, hd, hk⟩)
theorem hcE (h : EV E N tm ⟨some d, op, ty, pos, af, none⟩ v c c') (hd : Nat.blt d E.nt = true) (he : inLs es k = true) (hk : HC E ops bl0 N es (k + 1) rest ⟨(d, v) :: tm, bl, ow⟩ c' K) : HC E ops bl0 N es k (⟨some d, op, ty, pos, af, none⟩ :: rest) ⟨tm, bl, ow⟩ c K :=
  .inr (.inr ⟨v, c', h, hd, rfl, he, hk⟩)
theorem setB_head {N : Nat} {c c' : List AV} {bl : List (Nat × List AV)} (h : ∀ q ∈ bl, q.1 ≠ N) : setB ((N, c) :: bl) N c' = (N, c') :: bl := by
  simp only [setB, List.map_cons, Nat.beq_refl, cond_true, List.cons.injEq, true_and]
  rw [List.map_congr_left (g := id)]
  · simp
  · intro q hq
    cases hb : Nat.beq q.1 N
    · rfl
    · exact absurd (Nat.eq_of_beq_eq_true hb) (h q hq)
theorem evPtr {x : Operand} {xs : Array Operand} {ts : Array TypeId} {f : Nat} {args : List AV} {z : AV} [hf : FnOk E.P f] (h : CallPtr E.P f args c (fun r cs => r = z ∧ cs = c')) (hx : ev tm x = .v (.func (.func f) #[] #[])) (ha : PtA N (xs.toList.map (ev tm)) args) (hcs : dtL c = true) (hcs' : dtL c' = true) (hz : dtL [z] = true) (hro : N ∉ E.ron) (hn7 : Nat.blt N 7000000 = true := by rfl) :
    EV E N tm ⟨some d, .call ⟨.value x, xs, ts⟩, ty, pos, af, none⟩ z c c' := by
  intro g w ρ bl' ow' hm hne hop
  have h1 := hop x (by simp [Op.operands, Call.operands])
  have h2 : reps g w (xs.toList.map (ev tm)) (xs.toList.map ρ) := reps_map _ fun y hy => hop y (by simp [Op.operands, Call.operands] at hy ⊢; exact .inr hy)
  rw [hx] at h1
  simp only [rep] at h1
  obtain ⟨fn, f1, f2, f3⟩ := hf.ok
  have f2' : fn.name ≠ "runtime.NumGoroutine" := by simpa using f2
  have f3' : fn.body ≠ none := fun e => by rw [e] at f3; simp at f3
  have hrun : (execOp ρ ⟨some d, .call ⟨.value x, xs, ts⟩, ty, pos, af, none⟩).run E.P w = .ok (.enter f (xs.map ρ)) w := by
    simp [execOp, resolve, Deferred.ofValue, h1, invoke, callFunc, f1, f2', f3']
  rw [hrun]
  obtain ⟨b, arr, m1, m2, m3, m4⟩ := hm.blk N c (by simp)
  refine (h g.I w b (g.mt N) (xs.map ρ) arr hm.cell m4 m2 (reps_dt (g := g) (g' := gP g.I b (g.mt N)) rfl hcs m3) (by rw [Array.toList_map]; exact reps_ptA m1 ha h2)).mono fun e' w' he => ?_
  obtain ⟨y, r, cs', arr', g', rfl, ⟨rfl, rfl⟩, k1, k2, k3, k4, k5⟩ := he
  obtain ⟨gc, p1, p2, p3, p4, _⟩ := hm.turned m1 hro k2 k3 k4 hcs' k5 0 [] (fun n hn => by simp at hn) hn7
  rw [setB_head hne] at p2
  refine ⟨y, rfl, gc, p1, by simpa using p2, ?_⟩
  have := reps_dt (g := g') (g' := gc) p3 (xs := [r]) (ys := [y]) hz (by simp only [reps]; exact ⟨y, [], rfl, k1, rfl⟩)
  simp only [reps] at this
  obtain ⟨_, _, e1, k6, _⟩ := this
  cases e1
  exact k6
end
end Go.Eng
