/- My walking engine, part 3: abstract values of Go, and the rules of a walk over them. No program in sight. -/
import Derived.Test.YtkaffcdjhbaifaaZ2
namespace Go.Eng
open Go

/-- THE CONTRACT: a pointer to a new variable, its cells read as R tells; nothing that was there has changed. -/
def CallMake (P : Program) (f : Nat) (args : List AV) (R : List AV → Prop) : Prop :=
  ∀ (I : Nat → Nat → Prop) (w : World) (vals : Array Value), (∀ b o, I b o → (w.cell? ⟨b, o, none⟩).isSome = true) → dreps I w args vals.toList →
    Calls P f vals w fun e w' => ∃ (b T : Nat) (arr : Array Value) (cs : List AV) (g' : Gh), e = .returned (.pointer (some ⟨b, 0, none⟩)) ∧ R cs ∧ dtL cs = true ∧ w.heap.size ≤ b ∧ w'.heap[b]? = some (.cells arr T (0, 0)) ∧ reps g' w' cs arr.toList ∧ (∀ o, ¬ g'.I b o) ∧ Ret I w g' w'
def makeQ (E : En) (rs : List ResultVar) (R : List AV → Prop) : Exit → St → Prop
  | .normal, s => ∃ n cs, resA E.P s rs [.ptr n 0] ∧ (n, cs) ∈ s.bl ∧ R cs ∧ dtL cs = true
  | .ret, s => ∃ n cs, resA E.P s rs [.ptr n 0] ∧ (n, cs) ∈ s.bl ∧ R cs ∧ dtL cs = true
  | _, _ => False
theorem callMake {P : Program} {f nt : Nat} {fn : Func} {rs : Array ResultVar} {c : Code} {args : List AV} {tm : List (Nat × AV)} {R : List AV → Prop} (hf : P.funcs[f]? = some fn) (hnt : fn.ntmps = nt) (hrs : fn.results = rs) (hb : fn.body = some c) (hn : Nat.ble args.length nt = true) (htm : iniO 0 args = some tm)
    (h : ∀ (B : Nat) (w0 : World) (I0 : Nat → Nat → Prop), W ⟨P, B, w0, nt, fun _ => False, [], I0, fun _ _ _ => False, none, []⟩ c (makeQ ⟨P, B, w0, nt, fun _ => False, [], I0, fun _ _ _ => False, none, []⟩ rs.toList R) ⟨tm, [], []⟩) : CallMake P f args R := by
  subst hnt; subst hrs
  intro I w vals hI hargs
  have htm' := iniO_eq htm
  let E : En := ⟨P, w.heap.size, w, fn.ntmps, fun _ => False, [], I, fun _ _ _ => False, none, []⟩
  let g : Gh := ⟨I, fun _ => none, fun _ => none, fun _ => False, fun _ => 0⟩
  have hlen := dreps_length hargs
  have hn' := Nat.le_of_ble_eq_true hn
  have hargs' : reps g w args vals.toList := reps_of_dreps hargs
  refine calls_of_wp hf hb ?_
  refine wp_W (h w.heap.size w I g _ w ⟨⟨BelowM.refl _ _ _, Nat.le_refl _, hI, fun n b h => by simp [g] at h, fun n b h => by simp [g] at h, fun n n' b h => by simp [g] at h, fun n n' b h => by simp [g] at h, fun n n' b h => by simp [g] at h,
    fun n cs h => by simp at h, fun n b h => by simp [g] at h, fun n h => by simp [g] at h, fun b o h => .inl h, fun b o h => h, fun n b T h => h.elim⟩, fun t => ?_, rfl, ?_⟩) fun e a' w' hq => ?_
  · rw [← htm']
    simp only [look_zip, Nat.zero_le, if_true, Nat.sub_zero]
    rcases Nat.lt_or_ge t args.length with h1 | h1
    · obtain ⟨y, hy, hr⟩ := reps_get hargs' (List.getElem?_eq_getElem h1)
      have : t < vals.size := by simpa [← hlen] using h1
      have hy' : vals[t] = y := by simpa [this] using hy
      simp only [List.getD_eq_getElem?_getD, List.getElem?_eq_getElem h1, Option.getD_some]
      simp only [Array.getD_eq_getD_getElem?, Array.getElem?_append_left this, Array.getElem?_eq_getElem this, Option.getD_some, hy']
      exact hr
    · simp only [List.getD_eq_getElem?_getD, List.getElem?_eq_none h1, Option.getD_none, rep]
  · have : vals.size = args.length := by simpa using hlen
    simp; omega
  · obtain ⟨g', s', hq, hi⟩ := hq
    have fin : (∃ n cs, resA P s' fn.results.toList [.ptr n 0] ∧ (n, cs) ∈ s'.bl ∧ R cs ∧ dtL cs = true) → a'.defers = [] ∧ ∃ v, (results fn a'.tmps).run P w' = .ok v w' ∧
        ∃ (b T : Nat) (arr : Array Value) (cs : List AV) (g' : Gh), Ending.returned v = .returned (.pointer (some ⟨b, 0, none⟩)) ∧ R cs ∧ dtL cs = true ∧ w.heap.size ≤ b ∧ w'.heap[b]? = some (.cells arr T (0, 0)) ∧ reps g' w' cs arr.toList ∧ (∀ o, ¬ g'.I b o) ∧ Ret I w g' w' := by
      rintro ⟨n, cs, h1, h2, h3, h4⟩
      obtain ⟨y, k1, k2⟩ := run_results hi h1
      obtain ⟨b, arr, m1, m2, m3, m4⟩ := hi.mem.blk n cs h2
      have k3 : rep g' w' (.ptr n 0) y := k2
      simp only [rep] at k3
      obtain ⟨c, c1, c2⟩ := k3
      have : c = b := by rw [m1] at c1; exact (Option.some.inj c1).symm
      subst this
      subst c2
      have m5 := (hi.mem.mfr n c m1).1
      have m6 : w.heap.size ≤ c := by
        rcases m5 with m5 | m5 | m5
        · cases m5
        · exact m5
        · exact m5.elim
      exact ⟨hi.de, _, k1, c, g'.mt n, arr, cs, g', rfl, h3, h4, m6, m2, m3, m4,
        ⟨⟨hi.mem.below.os, hi.mem.below.tape, hi.mem.below.output, hi.mem.below.size, hi.mem.below.block⟩, hi.mem.iold, fun b o h => (hi.mem.inew b o h).imp id (fun h => h.resolve_right (fun h => h)), hi.mem.cell, fun n b h1 h2 => ⟨(hi.mem.ofr n b h1 h2).1.resolve_right (fun h => h), (hi.mem.ofr n b h1 h2).2⟩, hi.mem.oinj⟩⟩
    cases e with
    | normal => exact fin hq
    | ret => exact fin hq
    | _ => exact hq.elim
/-- Such a call has made the variable N. -/
theorem Mem.made {E : En} {g g' : Gh} {bl : List (Nat × List AV)} {ow : List Nat} {w w' : World} {N b T : Nat} {cs : List AV} {arr : Array Value} (hm : Mem E g bl ow w) (hr : Ret g.I w g' w') (hfr : ∀ q ∈ bl, N ≠ q.1) (hb : w.heap.size ≤ b) (hh : w'.heap[b]? = some (.cells arr T (0, 0)))
    (hc : reps g' w' cs arr.toList) (hd : dtL cs = true) (hI : ∀ o, ¬ g'.I b o) :
    ∃ gc, Goes g w gc w' ∧ Mem E gc ((N, cs) :: bl) ow w' ∧ gc.m N = some b := by
  have hnone : g.m N = none := by
    cases hmN : g.m N with
    | none => rfl
    | some b' => obtain ⟨cs', hc⟩ := hm.key N b' hmN; exact absurd rfl (hfr _ hc)
  let gc : Gh := { g with I := g'.I, m := fun k => if k = N then some b else g.m k, mt := fun k => if k = N then T else g.mt k }
  have heap : ∀ c, c < w.heap.size → w'.heap[c]? = w.heap[c]? := fun c hb => hr.below.block c hb (fun h => h)
  have hIlt : ∀ b o, g.I b o → b < w.heap.size := fun b o hb => cell_lt (hm.cell b o hb)
  have keeps : Keeps g.I w w' := fun c o hb => World.cell?_of_block (a := ⟨c, o, none⟩) (heap c (hIlt c o hb))
  have hI2 : ∀ c o, c < w.heap.size → g'.I c o → g.I c o := fun c o hb hI => (hr.new c o hI).resolve_right (by omega)
  have hsz := hr.below.size
  have hbw : b < w'.heap.size := (Array.getElem?_eq_some_iff.1 hh).1
  have hmm : ∀ k c, gc.m k = some c → (k = N ∧ c = b) ∨ (k ≠ N ∧ g.m k = some c) := fun k c hk => by
    by_cases e : k = N
    · simp only [gc, e, if_true, Option.some.injEq] at hk; exact .inl ⟨e, hk.symm⟩
    · simp only [gc, e, if_false] at hk; exact .inr ⟨e, hk⟩
  have hold : ∀ k c, g.m k = some c → k ≠ N := fun k c hk e => by rw [e, hnone] at hk; cases hk
  have goes : Goes g w gc w' := ⟨hr.old, keeps, fun k c hk => by simp only [gc, hold k c hk, if_false]; exact hk, fun k c hk => by simp only [gc, hold k c hk, if_false],
    fun n T e rows y hy => ownRep_goes (g := g) (g' := gc) hr.old keeps (fun k hk => ⟨hk, rfl⟩) (fun n c h1 h2 => heap c (hm.ofr n c h1 h2).2) (fun n c o h1 h2 h3 => hI2 c o (hm.ofr n c h1 h2).2 h3) hy⟩
  refine ⟨gc, goes, ?_, by simp [gc]⟩
  exact
    { below := ⟨hr.below.os.trans hm.below.os, hr.below.tape.trans hm.below.tape, hr.below.output.trans hm.below.output, Nat.le_trans hm.below.size hsz, fun k hk hM => (heap k (Nat.lt_of_lt_of_le hk hm.base)).trans (hm.below.block k hk hM)⟩
      base := Nat.le_trans hm.base hsz
      cell := hr.cell
      mfr := fun k c hk => by
        rcases hmm k c hk with ⟨_, rfl⟩ | ⟨_, k2⟩
        · exact ⟨.inr (.inl (Nat.le_trans hm.base hb)), hbw⟩
        · exact ⟨(hm.mfr k c k2).1, Nat.lt_of_lt_of_le (hm.mfr k c k2).2 hsz⟩
      ofr := fun k c k1 k2 => ⟨(hm.ofr k c k1 k2).1, Nat.lt_of_lt_of_le (hm.ofr k c k1 k2).2 hsz⟩
      minj := fun k k' c k1 k2 => by
        rcases hmm k c k1 with ⟨p1, p2⟩ | ⟨_, p2⟩ <;> rcases hmm k' c k2 with ⟨q1, q2⟩ | ⟨_, q2⟩
        · rw [p1, q1]
        · have := (hm.mfr k' _ q2).2; omega
        · have := (hm.mfr k _ p2).2; omega
        · exact hm.minj k k' c p2 q2
      oinj := hm.oinj
      disj := fun k k' c k1 k2 k3 => by
        rcases hmm k c k1 with ⟨p1, p2⟩ | ⟨_, p2⟩
        · have := (hm.ofr k' _ k2 k3).2; omega
        · exact hm.disj k k' c p2 k2 k3
      blk := fun k ds hk => by
        rcases List.mem_cons.1 hk with hk | hk
        · cases hk
          exact ⟨b, arr, by simp [gc], by simp only [gc, if_true]; exact hh, reps_dt (g := g') (g' := gc) rfl hd hc, hI⟩
        · obtain ⟨c, arr', p1, p2, p3, p4⟩ := hm.blk k ds hk
          have hne := hold k c p1
          have hcl := (hm.mfr k c p1).2
          exact ⟨c, arr', by simp only [gc, hne, if_false]; exact p1, by simp only [gc, hne, if_false]; exact (heap c hcl).trans p2, reps_goes goes p3, fun o ho => p4 o (hI2 c o hcl ho)⟩
      key := fun k c hk => by
        rcases hmm k c hk with ⟨rfl, _⟩ | ⟨_, k2⟩
        · exact ⟨cs, List.mem_cons_self ..⟩
        · obtain ⟨ds, hd'⟩ := hm.key k c k2
          exact ⟨ds, List.mem_cons_of_mem _ hd'⟩
      own := hm.own
      inew := fun c o hc => by
        rcases hr.new c o hc with h1 | h1
        · exact hm.inew c o h1
        · exact .inr (.inl (Nat.le_trans hm.base h1))
      iold := fun c o hc => hr.old c o (hm.iold c o hc)
      pin := fun k c U hp => by
        obtain ⟨p1, p2⟩ := hm.pin k c U hp
        have hne := hold k c p1
        simp only [gc, hne, if_false]
        exact ⟨p1, p2⟩ }
section
variable {E : En} {ops : Array Oper} {rest : List Oper} {Q : Exit → St → Prop} {tm : List (Nat × AV)} {bl : List (Nat × List AV)} {ow : List Nat} {d : Nat} {ty : TypeId} {pos : String} {af : Array Edge}
/-- A call that makes a variable: N from now on. -/
theorem wlmake {x : Operand} {xs : Array Operand} {ts : Array TypeId} {f : Nat} {ys : List AV} {R : List AV → Prop} (N : Nat) [hf : FnOk E.P f] (h : CallMake E.P f ys R) (hx : ev tm x = .v (.func (.func f) #[] #[])) (ha : LeDs (xs.toList.map (ev tm)) ys)
    (hfr : (bl.all fun q => !Nat.beq N q.1) = true) (hd : Nat.blt d E.nt = true) (hk : ∀ cs, R cs → WL E ops rest Q ⟨(d, .ptr N 0) :: tm, (N, cs) :: bl, ow⟩) :
    WL E ops (⟨some d, .call ⟨.value x, xs, ts⟩, ty, pos, af, none⟩ :: rest) Q ⟨tm, bl, ow⟩ := by
  intro g a w hi
  unfold wpListIn
  rw [show Region.wanted ⟨some d, .call ⟨.value x, xs, ts⟩, ty, pos, af, none⟩ (yielded ops a.tmps) = true by simp [Region.wanted]]
  refine wpIn_of_wp (fun _ h => by cases h) ?_
  have h1 := rep_ev hi.tm x
  have h2 : reps g w (xs.toList.map (ev tm)) (xs.toList.map a.eval) := reps_map _ fun y _ => rep_ev hi.tm y
  rw [hx] at h1
  simp only [rep] at h1
  obtain ⟨fn, f1, f2, f3⟩ := hf.ok
  have f2' : fn.name ≠ "runtime.NumGoroutine" := by simpa using f2
  have f3' : fn.body ≠ none := fun e => by rw [e] at f3; simp at f3
  have hrun : (execOp a.eval ⟨some d, .call ⟨.value x, xs, ts⟩, ty, pos, af, none⟩).run E.P w = .ok (.enter f (xs.map a.eval)) w := by
    simp [execOp, resolve, Deferred.ofValue, h1, invoke, callFunc, f1, f2', f3']
  unfold Oper.wp
  rw [hrun]
  refine (h g.I w (xs.map a.eval) hi.mem.cell (by rw [Array.toList_map]; exact dreps_leDs (g := g) ha h2)).mono fun e' w' he => ?_
  obtain ⟨b, T, arr, cs, g', rfl, k1, k2, k3, k4, k5, k6, k7⟩ := he
  have hfr' : ∀ q ∈ bl, N ≠ q.1 := fun q hq e => by
    have := List.all_eq_true.1 hfr q hq
    rw [e] at this; simp at this
  obtain ⟨gc, p1, p2, p3⟩ := hi.mem.made k7 hfr' k3 k4 k5 k2 k6
  have hput := look_put (E := E) (g := gc) (w := w') (a := a) (s := ⟨tm, (N, cs) :: bl, ow⟩) (d := some d) (v := .ptr N 0) (y := .pointer (some ⟨b, 0, none⟩)) [] [] (fun k hk => by cases hk; exact Nat.le_of_ble_eq_true hd) hi.sz (fun t => rep_goes p1 (hi.tm t)) (by simp only [rep]; exact ⟨b, p3, rfl⟩)
  exact hk cs k1 gc _ w' ⟨p2, hput, hi.de, by simp [Act.put, hi.sz]⟩
end
theorem ptrEnd {E : En} {rs : List ResultVar} {R : AV → List AV → Prop} {s s' : St} {xs cs' : List AV} (hw : Weak E s s') (h1 : resA E.P s' rs xs) (h2 : lookB s'.bl 1000000 = some cs') (h4 : refs [] s'.ow (oneA xs) = true) (h5 : dtL cs' = true) (h3 : R (oneA xs) cs') :
    ∃ s', Weak E s s' ∧ ∃ xs cs', resA E.P s' rs xs ∧ (1000000, cs') ∈ s'.bl ∧ R (oneA xs) cs' ∧ refs [] s'.ow (oneA xs) = true ∧ dtL cs' = true := ⟨s', hw, xs, cs', h1, lookB_mem h2, h3, h4, h5⟩
theorem makeEnd {P : Program} {rs : List ResultVar} {R : List AV → Prop} {s : St} {n : Nat} {cs : List AV} (h1 : resA P s rs [.ptr n 0]) (h2 : lookB s.bl n = some cs) (h4 : dtL cs = true) (h3 : R cs) : ∃ n cs, resA P s rs [.ptr n 0] ∧ (n, cs) ∈ s.bl ∧ R cs ∧ dtL cs = true := ⟨n, cs, h1, lookB_mem h2, h3, h4⟩
/-! ### Bits -/
def bitsV (op : BinOp) (k : IntKind) (a b : Int) : Option Int :=
  match op with
  | .and => some (k.wrap ((BitVec.ofInt k.bits a &&& BitVec.ofInt k.bits b).toNat))
  | .xor => some (k.wrap ((BitVec.ofInt k.bits a ^^^ BitVec.ofInt k.bits b).toNat))
  | .or => some (k.wrap ((BitVec.ofInt k.bits a ||| BitVec.ofInt k.bits b).toNat))
  | _ => none
section
variable {E : En} {bl : List (Nat × List AV)} {tm : List (Nat × AV)} {d : Option Tmp} {ty : TypeId} {pos : String} {af : Array Edge} {gd : Option (Nat × Bool)}
theorem QV_bits {op : BinOp} {xT yT : TypeId} {x y : Operand} {k : IntKind} {a b r : Int} (hx : ev tm x = .v (.int k a)) (hy : ev tm y = .v (.int k b)) (h : bitsV op k a b = some r) :
    QV E bl tm ⟨d, .binOp op xT x y yT, ty, pos, af, gd⟩ (.v (.int k r)) [] [] :=
  QV_pure fun g w ρ hop => by
    have h1 := hop x (by simp [Op.operands])
    have h2 := hop y (by simp [Op.operands])
    rw [hx] at h1; rw [hy] at h2
    simp only [rep] at h1 h2
    refine ⟨.int k r, ?_, by simp [rep]⟩
    simp only [execOp, h1, h2]
    cases op <;> simp only [bitsV, Option.some.injEq, reduceCtorEq] at h <;> subst h <;>
      simp [eqGuard, binOp, Op.intBits]
theorem QV_shr {xT yT : TypeId} {x y : Operand} {k k' : IntKind} {a n : Int} (hx : ev tm x = .v (.int k a)) (hy : ev tm y = .v (.int k' n)) (hn : ¬ n < 0) {r : Int} (h : a.fdiv (2 ^ min n.toNat k.bits) = r) :
    QV E bl tm ⟨d, .binOp .shr xT x y yT, ty, pos, af, gd⟩ (.v (.int k r)) [] [] :=
  QV_pure fun g w ρ hop => by
    have h1 := hop x (by simp [Op.operands])
    have h2 := hop y (by simp [Op.operands])
    rw [hx] at h1; rw [hy] at h2
    simp only [rep] at h1 h2
    refine ⟨.int k r, ?_, by simp [rep]⟩
    simp only [execOp, h1, h2]
    simp [eqGuard, binOp, Op.shift, hn, h]
/-- The low byte. -/
theorem bits255 {op : BinOp} {a : Int} (h : op = .and) : ∃ r : Int, bitsV op .i64 a 255 = some r ∧ 0 ≤ r ∧ r ≤ 255 := by
  subst h
  refine ⟨_, rfl, ?_⟩
  have h : (BitVec.ofInt 64 a &&& BitVec.ofInt 64 255).toNat ≤ 255 := by
    rw [BitVec.toNat_and]
    exact Nat.and_le_right
  have e : IntKind.i64.wrap ((BitVec.ofInt IntKind.i64.bits a &&& BitVec.ofInt IntKind.i64.bits 255).toNat : Int) = IntKind.i64.wrap ((BitVec.ofInt 64 a &&& BitVec.ofInt 64 255).toNat : Int) := rfl
  rw [e, IntWalk.i64_in _ (by omega)]
  omega
theorem bitsAny (op : BinOp) (a b : Int) (h : op = .and ∨ op = .xor) : ∃ r : Int, bitsV op .i64 a b = some r := by
  rcases h with rfl | rfl <;> exact ⟨_, rfl⟩
end
end Go.Eng

namespace Go.Eng
open Go

/-- An operation that turns the variable N from cs to cs', and gives v. -/
def EV (E : En) (N : Nat) (tm : List (Nat × AV)) (o : Oper) (v : AV) (cs cs' : List AV) : Prop :=
  ∀ (g : Gh) (w : World) (ρ : Operand → Value) (bl' : List (Nat × List AV)) (ow' : List Nat), Mem E g ((N, cs) :: bl') ow' w → (∀ q ∈ bl', q.1 ≠ N) → (∀ x ∈ o.op.operands, rep g w (ev tm x) (ρ x)) →
    UponQ E.P (fun y w' => ∃ g', Goes g w g' w' ∧ Mem E g' ((N, cs') :: bl') ow' w' ∧ rep g' w' v y) ((execOp ρ o).run E.P w)
/-- What the variable holds when those that L tells have been carried out. -/
def csF (L : Nat → Bool) : List (Option (List AV)) → Nat → List AV → List AV
  | [], _, c => c
  | e :: es, i, c => csF L es (i + 1) (bif L i then e.getD c else c)
theorem csF_congr {L L' : Nat → Bool} : ∀ (es : List (Option (List AV))) (i : Nat) (c : List AV), (∀ j x, es[j]? = some (some x) → L (i + j) = L' (i + j)) → csF L es i c = csF L' es i c
  | [], _, _, _ => rfl
  | e :: es, i, c, h => by
    simp only [csF]
    have e1 : (bif L i then e.getD c else c) = (bif L' i then e.getD c else c) := by
      cases e with
      | none => cases L i <;> cases L' i <;> rfl
      | some x => have := h 0 x rfl; rw [Nat.add_zero] at this; rw [this]
    rw [e1]
    exact csF_congr es (i + 1) _ fun j x hj => by have := h (j + 1) x (by simpa using hj); rwa [show i + (j + 1) = i + 1 + j by omega] at this
theorem csF_last {L : Nat → Bool} {x : List AV} : ∀ (es : List (Option (List AV))) (i k : Nat) (c : List AV), es[k]? = some (some x) → L (i + k) = true → (∀ j y, k < j → es[j]? = some (some y) → L (i + j) = false) → csF L es i c = x
  | [], _, _, _, h, _, _ => by simp at h
  | e :: es, i, 0, c, h, hL, hn => by
    simp only [List.getElem?_cons_zero, Option.some.injEq] at h
    subst h
    rw [Nat.add_zero] at hL
    simp only [csF, hL, cond_true, Option.getD_some]
    have zero : ∀ (es : List (Option (List AV))) (i : Nat) (c : List AV), csF (fun _ => false) es i c = c := by
      intro es
      induction es with
      | nil => intro i c; rfl
      | cons e es ih => intro i c; simp only [csF, cond_false]; exact ih _ c
    rw [csF_congr (L' := fun _ => false) es (i + 1) x fun j y hj => by have := hn (j + 1) y (by omega) (by simpa using hj); rwa [show i + (j + 1) = i + 1 + j by omega] at this]
    exact zero _ _ _
  | e :: es, i, k + 1, c, h, hL, hn => by
    simp only [csF]
    exact csF_last es (i + 1) k _ (by simpa using h) (by rwa [show i + (k + 1) = i + 1 + k by omega] at hL) fun j y hkj hj => by have := hn (j + 1) y (by omega) (by simpa using hj); rwa [show i + (j + 1) = i + 1 + j by omega] at this
def inLs : List Nat → Nat → Bool
  | [], _ => false
  | k :: r, i => bif Nat.beq k i then true else inLs r i
theorem inLs_mem : ∀ {l : List Nat} {i : Nat}, inLs l i = true → i ∈ l
  | [], _, h => by simp [inLs] at h
  | k :: r, i, h => by
    simp only [inLs] at h
    cases hb : Nat.beq k i
    · rw [hb] at h; exact List.mem_cons_of_mem _ (inLs_mem h)
    · rw [Nat.eq_of_beq_eq_true hb]; exact List.mem_cons_self
/-- The head in the order of the text; the operations 'es' turn the variable. -/
def HC (E : En) (ops : Array Oper) (bl : List (Nat × List AV)) (N : Nat) (es : List Nat) : Nat → List Oper → St → List AV → (St → List AV → Prop) → Prop
  | _, [], s, c, K => K s c
  | k, o :: rest, s, c, K =>
    (∃ v nb no, QV E bl s.tm o v nb no ∧ dstB E.nt o = true ∧ (freshB nb no s = true ∧ namesB nb o = true) ∧
      (o.guard = none ∨ ∃ j d b, o.guard = some (j, b) ∧ (ops[j]?).bind (·.dst) = some d ∧ look s.tm d = .v (.bool b)) ∧ HC E ops bl N es (k + 1) rest (s.app o.dst v nb no) c K) ∨
    (∃ j d b, o.guard = some (j, !b) ∧ (ops[j]?).bind (·.dst) = some d ∧ look s.tm d = .v (.bool b) ∧ dstB E.nt o = true ∧ HC E ops bl N es (k + 1) rest (s.app o.dst (.v undef) [] []) c K) ∨
    (∃ v c', EV E N s.tm o v c c' ∧ dstB E.nt o = true ∧ o.guard = none ∧ inLs es k = true ∧ HC E ops bl N es (k + 1) rest (s.app o.dst v [] []) c' K)
structure StepC (E : En) (ops : Array Oper) (bl : List (Nat × List AV)) (N : Nat) (es : List Nat) (k : Nat) (s : St) (c : List AV) (o : Oper) (t : Tr) (e : Option (List AV)) : Prop where
  d : t.d = o.dst
  dst : dstB E.nt o = true
  fr : freshB t.nb t.no s = true ∧ ∀ p ∈ t.nb, o.dst = some p.1
  run : (e = none ∧ QV E bl s.tm o t.v t.nb t.no ∧ (o.guard = none ∨ ∃ j d b, o.guard = some (j, b) ∧ (ops[j]?).bind (·.dst) = some d ∧ look s.tm d = .v (.bool b))) ∨
    (e = none ∧ t.v = .v undef ∧ t.nb = [] ∧ t.no = [] ∧ ∃ j d b, o.guard = some (j, !b) ∧ (ops[j]?).bind (·.dst) = some d ∧ look s.tm d = .v (.bool b)) ∨
    (∃ c', e = some c' ∧ EV E N s.tm o t.v c c' ∧ o.guard = none ∧ inLs es k = true ∧ t.nb = [] ∧ t.no = [])
theorem HC_trace {E : En} {ops : Array Oper} {bl : List (Nat × List AV)} {N : Nat} {es : List Nat} {K : St → List AV → Prop} : ∀ (l : List Oper) (k : Nat) (s : St) (c : List AV), HC E ops bl N es k l s c K →
    ∃ (T : List Tr) (Es : List (Option (List AV))), T.length = l.length ∧ Es.length = l.length ∧ K (stS (fun _ => true) T 0 s) (csF (fun _ => true) Es 0 c) ∧
      (∀ i o t e, l[i]? = some o → T[i]? = some t → Es[i]? = some e → StepC E ops bl N es (k + i) (stS (fun j => decide (j < i)) T 0 s) (csF (fun j => decide (j < i)) Es 0 c) o t e)
  | [], k, s, c, h => ⟨[], [], rfl, rfl, h, fun i o t e hi => by simp at hi⟩
  | o :: rest, k, s, c, h => by
    have shift : ∀ (L : Nat → Bool) (T : List Tr) (i : Nat) (s : St), stS L T (i + 1) s = stS (fun j => L (j + 1)) T i s := by
      intro L T
      induction T with
      | nil => intro i s; rfl
      | cons t T ih => intro i s; simp only [stS]; exact ih (i + 1) _
    have shiftC : ∀ (L : Nat → Bool) (T : List (Option (List AV))) (i : Nat) (s : List AV), csF L T (i + 1) s = csF (fun j => L (j + 1)) T i s := by
      intro L T
      induction T with
      | nil => intro i s; rfl
      | cons t T ih => intro i s; simp only [csF]; exact ih (i + 1) _
    have zero : ∀ (T : List Tr) (i : Nat) (s : St), stS (fun _ => false) T i s = s := by
      intro T
      induction T with
      | nil => intro i s; rfl
      | cons t T ih => intro i s; simp only [stS, cond_false]; exact ih _ s
    have zeroC : ∀ (es : List (Option (List AV))) (i : Nat) (c : List AV), csF (fun _ => false) es i c = c := by
      intro es
      induction es with
      | nil => intro i c; rfl
      | cons e es ih => intro i c; simp only [csF, cond_false]; exact ih _ c
    have go : ∀ (t : Tr) (e : Option (List AV)), StepC E ops bl N es k s c o t e → HC E ops bl N es (k + 1) rest (s.app t.d t.v t.nb t.no) (e.getD c) K →
        ∃ (T : List Tr) (Es : List (Option (List AV))), T.length = (o :: rest).length ∧ Es.length = (o :: rest).length ∧ K (stS (fun _ => true) T 0 s) (csF (fun _ => true) Es 0 c) ∧
      (∀ i o' t e, (o :: rest)[i]? = some o' → T[i]? = some t → Es[i]? = some e → StepC E ops bl N es (k + i) (stS (fun j => decide (j < i)) T 0 s) (csF (fun j => decide (j < i)) Es 0 c) o' t e) := by
      intro t e hs hk
      obtain ⟨T, Es, h1, h1', h2, h3⟩ := HC_trace rest _ _ _ hk
      refine ⟨t :: T, e :: Es, by simp [h1], by simp [h1'], ?_, fun i o' t' e' hi ht he => ?_⟩
      · simp only [stS, csF, cond_true]; rw [shift, shiftC]; exact h2
      · cases i with
        | zero =>
          simp only [List.getElem?_cons_zero, Option.some.injEq] at hi ht he
          subst hi; subst ht; subst he
          have e1 : stS (fun j => decide (j < 0)) (t :: T) 0 s = s := by
            simp only [stS, Nat.not_lt_zero, decide_false, cond_false]; exact zero _ _ _
          have e2 : csF (fun j => decide (j < 0)) (e :: Es) 0 c = c := by
            simp only [csF, Nat.not_lt_zero, decide_false, cond_false]; exact zeroC _ _ _
          rw [e1, e2]; exact hs
        | succ i =>
          have := h3 i o' t' e' (by simpa using hi) (by simpa using ht) (by simpa using he)
          simp only [stS, csF, Nat.zero_lt_succ, decide_true, cond_true]
          rw [shift, shiftC, show k + (i + 1) = k + 1 + i by omega]
          simpa [Nat.add_lt_add_iff_right] using this
    rcases h with ⟨v, nb, no, h1, h2, h3, h4, h5⟩ | ⟨j, d, b, h1, h2, h3, h4, h5⟩ | ⟨v, c', h1, h2, h3, h4, h5⟩
    · exact go ⟨o.dst, v, nb, no⟩ none ⟨rfl, h2, ⟨h3.1, namesB_spec h3.2⟩, .inl ⟨rfl, h1, h4⟩⟩ h5
    · exact go ⟨o.dst, .v undef, [], []⟩ none ⟨rfl, h4, ⟨by simp [freshB], by simp⟩, .inr (.inl ⟨rfl, rfl, rfl, rfl, j, d, b, h1, h2, h3⟩)⟩ h5
    · exact go ⟨o.dst, v, [], []⟩ (some c') ⟨rfl, h2, ⟨by simp [freshB], by simp⟩, .inr (.inr ⟨c', rfl, h1, h3, h4, rfl, rfl⟩)⟩ h5
/-- The operations that turn the variable come one behind the other. -/
def effB (ops : Array Oper) (n : Nat) (es : List Nat) : Bool := es.all fun i => es.all fun j => bif Nat.blt j i then ((depTab ops n).getD i []).contains j else true

theorem W_drawC {E : En} {id : Nat} {l : List Oper} {Q : Exit → St → Prop} {s : St} {c : List AV} (n N : Nat) (es : List Nat) (hm : E.P.follows .mixedOrders = true) (hB : headB l.toArray n = true) (hT : tailB l.toArray n = true) (hE : effB l.toArray n es = true) (hN : l.all (fun o => match o.dst with | some d => !Nat.beq d N | none => true) = true) (hbN : s.bl.all (fun q => !Nat.beq q.1 N) = true)
    (h : HC E l.toArray s.bl N es 0 (l.take n) s c (fun s' c' => WL E l.toArray (l.drop n) Q ⟨s'.tm, (N, c') :: s'.bl, s'.ow⟩)) : W E (.region id l.toArray true) Q ⟨s.tm, (N, c) :: s.bl, s.ow⟩ := by
  intro g0 a0 w00 hi0
  obtain ⟨T, Es, hTl, hEl, hK, hstep⟩ := HC_trace _ _ _ _ h
  obtain ⟨hn, hback, hord⟩ := headB_spec hB
  have hn' : n ≤ l.length := by simpa using hn
  have hTn : T.length = n := by rw [hTl]; simp; omega
  have hEn : Es.length = n := by rw [hEl]; simp; omega
  have hdN : ∀ (i : Nat) (o : Oper), l.toArray[i]? = some o → o.dst ≠ some N := fun i o ho e => by
    have := List.all_eq_true.1 hN o (List.mem_of_getElem? (by simpa using ho))
    rw [e] at this
    simp at this
  simp only [tailB, Bool.and_eq_true] at hT
  obtain ⟨hT1, hT2⟩ := hT
  have hopt : ∀ i, i < n → ∃ o t, l.toArray[i]? = some o ∧ (l.take n)[i]? = some o ∧ T[i]? = some t := fun i hi => by
    have h1 : i < l.length := by omega
    refine ⟨l[i], T[i]'(by omega), by simp [h1], by simp [hi, h1], by simp [hTn, hi]⟩
  have hopE : ∀ i, i < n → ∃ e, Es[i]? = some e := fun i hi => ⟨Es[i]'(by omega), by simp [hEn, hi]⟩
  have inS : ∀ (i : Nat) (t : Tr), T[i]? = some t → ∀ (j : Nat) (t' : Tr), j < i → T[j]? = some t' → ∀ q ∈ t'.nb, q ∈ (stS (fun j => decide (j < i)) T 0 s).bl := fun i t _ j t' hj ht' q hq => (mem_bl_stS T 0 s).2 (.inr ⟨j, t', ht', by simpa using hj, hq⟩)
  have inS0 : ∀ (i : Nat) q, q ∈ s.bl → q ∈ (stS (fun j => decide (j < i)) T 0 s).bl := fun i q hq => (mem_bl_stS T 0 s).2 (.inl hq)
  have inO : ∀ (i : Nat) (t : Tr), T[i]? = some t → ∀ (j : Nat) (t' : Tr), j < i → T[j]? = some t' → ∀ k ∈ t'.no, k ∈ (stS (fun j => decide (j < i)) T 0 s).ow := fun i t _ j t' hj ht' k hk => (mem_ow_stS T 0 s).2 (.inr ⟨j, t', ht', by simpa using hj, hk⟩)
  let Lf : Array Bool → Nat → Bool := fun listed i => listed.getD i false
  have tailNot : ∀ listed, HeadInv .any l.toArray n listed → 0 < cnt n (Lf listed) → ∀ i ∈ Region.ready .any l.toArray listed, i < n := by
    intro listed inv hc i hi
    rcases Nat.lt_or_ge i n with h1 | h1
    · exact h1
    · exfalso
      have hlt : i < l.toArray.size := by
        obtain ⟨_, o, ho, _⟩ := mem_ready.1 hi
        exact (Array.getElem?_eq_some_iff.1 ho).1
      have hns : n < l.toArray.size := by omega
      have hb : Nat.blt n l.toArray.size = true := Nat.ble_eq_true_of_le hns
      rw [hb] at hT1
      simp only [cond_true, Bool.and_eq_true] at hT1
      obtain ⟨k, hk1, hk2, _⟩ := cnt_pos hc
      have hk3 : listed.getD k true = false := getD_in (by rw [inv.size]; omega) hk2
      exact tail_waits hT1.1 hT1.2 hns inv _ k rfl hk1 hk3 i h1 hi
  have progress : ∀ listed, HeadInv .any l.toArray n listed → 0 < cnt n (Lf listed) → Region.ready .any l.toArray listed ≠ [] := by
    intro listed inv hc he
    obtain ⟨k, hk1, hk2, hk3⟩ := cnt_pos hc
    have : k ∈ Region.ready .any l.toArray listed := by
      obtain ⟨o, t, h1, _, _⟩ := hopt k hk1
      exact mem_ready.2 ⟨getD_in (by rw [inv.size]; omega) hk2, o, h1, fun e he hb => hk3 _ (hback k o hk1 h1 e he hb)⟩
    rw [he] at this
    cases this
  have main : ∀ (f : Nat) (listed : Array Bool) (g : Gh) (a : Act) (w : World), cnt n (Lf listed) = f → HeadInv .any l.toArray n listed → Inv E g ⟨(stS (Lf listed) T 0 s).tm, (N, csF (Lf listed) Es 0 c) :: (stS (Lf listed) T 0 s).bl, (stS (Lf listed) T 0 s).ow⟩ a w → wpAnyIn (fo E.rd) 0 E.P .any l.toArray (post E Q) (f + (l.toArray.size - n)) listed a w := by
    intro f
    induction f with
    | zero =>
      intro listed g a w hc inv hinv
      have hall := cnt_zero hc
      have hst : stS (Lf listed) T 0 s = stS (fun _ => true) T 0 s := by
        have : ∀ (T : List Tr) (i : Nat) (s : St), (∀ j, j < T.length → Lf listed (i + j) = true) → stS (Lf listed) T i s = stS (fun _ => true) T i s := by
          intro T
          induction T with
          | nil => intro i s _; rfl
          | cons t T ih =>
            intro i s hL
            simp only [stS]
            rw [show Lf listed i = true by simpa using hL 0 (by simp)]
            exact ih (i + 1) _ fun j hj => by have := hL (j + 1) (by simp; omega); rwa [show i + (j + 1) = i + 1 + j by omega] at this
        exact this T 0 s fun j hj => by rw [Nat.zero_add]; exact hall j (by omega)
      have hcs : csF (Lf listed) Es 0 c = csF (fun _ => true) Es 0 c := csF_congr Es 0 c fun j x hj => by
        rw [Nat.zero_add]
        exact hall j (by rw [← hEn]; exact (List.getElem?_eq_some_iff.1 hj).1)
      rw [hst, hcs] at hinv
      have hli : listed = ((List.range l.toArray.size).map fun i => Nat.blt i n).toArray := by
        apply Array.ext
        · simp [inv.size]
        · intro i h1 h2
          have h3 : i < l.toArray.size := by rw [← inv.size]; exact h1
          simp only [List.getElem_toArray, List.getElem_map, List.getElem_range]
          rcases Nat.lt_or_ge i n with h4 | h4
          · have h5 := hall i h4
            simp only [Lf, Array.getD_eq_getD_getElem?, Array.getElem?_eq_getElem h1, Option.getD_some] at h5
            rw [h5]
            exact (Nat.ble_eq_true_of_le h4).symm
          · have h5 := inv.tail i h4 h3
            simp only [Array.getD_eq_getD_getElem?, Array.getElem?_eq_getElem h1, Option.getD_some] at h5
            rw [h5]
            cases h6 : Nat.blt i n
            · rfl
            · have := Nat.le_of_ble_eq_true h6; omega
      have hdl : (l.drop n).length = l.toArray.size - n := by simp
      have := wpAnyIn_of_seq (F := fo E.rd) (n := 0) (P := E.P) (md := .any) (Q' := post E Q) (l.drop n) n listed a w (fun j => by simp [List.getElem?_drop]) (by rw [hdl, hli]; exact hT2) (hK g a w hinv)
      rw [hdl] at this
      rw [Nat.zero_add]; exact this
    | succ f ih =>
      intro listed g a w hc inv hinv
      rw [show f + 1 + (l.toArray.size - n) = (f + (l.toArray.size - n)) + 1 by omega]
      have hpos : 0 < cnt n (Lf listed) := by omega
      refine ⟨fun he => absurd he (progress listed inv hpos), fun i hi => ?_⟩
      have hin := tailNot listed inv hpos i hi
      obtain ⟨o, t, ho, ho', ht⟩ := hopt i hin
      obtain ⟨hun, o2, ho2, hdeps⟩ := mem_ready.1 hi
      have : o2 = o := Option.some.inj (ho2.symm.trans ho)
      subst this
      have hLi : Lf listed i = false := getD_both hun
      obtain ⟨e0, he0⟩ := hopE i hin
      obtain ⟨hd, hdst, hfr, hrun⟩ := hstep i o2 t e0 ho' ht he0
      rw [Nat.zero_add] at hrun
      have closed : ∀ k ok, l.toArray[k]? = some ok → Lf listed k = true → ∀ e ∈ ok.after, Region.binds .any e = true → Lf listed e.on = true := fun k ok hk hl e he hb => inv.closed k ok hk hl e he hb
      have depI : ∀ j ∈ (depTab l.toArray n).getD i [], Lf listed j = true := depTab_closed closed n i fun o' ho' e he hb => by
        have : o' = o2 := Option.some.inj (ho'.symm.trans ho)
        subst this
        exact hdeps e he hb
      have depJ : ∀ j, i ∈ (depTab l.toArray n).getD j [] → Lf listed j = false := fun j hj => by
        cases hLj : Lf listed j
        · rfl
        · have := depTab_closed closed n j (fun o' ho' => closed j o' ho' hLj) i hj
          rw [hLi] at this; cases this
      have hTd : ∀ j tr, T[j]? = some tr → j < n ∧ ∃ oj, l.toArray[j]? = some oj ∧ tr.d = oj.dst := fun j tr hj => by
        have hjn : j < n := by rw [← hTn]; exact (List.getElem?_eq_some_iff.1 hj).1
        obtain ⟨oj, t', h1, h2, h3⟩ := hopt j hjn
        obtain ⟨ej, hej⟩ := hopE j hjn
        exact ⟨hjn, oj, h1, (hstep j oj tr ej h2 hj hej).d⟩
      have sameLook : ∀ u, u ∈ o2.looksAt l.toArray → look (stS (Lf listed) T 0 s).tm u = look (stS (fun j => decide (j < i)) T 0 s).tm u := fun u hu =>
        look_stS T 0 s s rfl fun j tr hj hdu => by
          rw [Nat.zero_add]
          obtain ⟨hjn, oj, hoj, hjd⟩ := hTd j tr hj
          rcases Nat.lt_trichotomy j i with h1 | h1 | h1
          · rw [decide_eq_true h1]
            exact depI j ((hord i o2 j oj u hin hjn (by omega) ho hoj (hjd ▸ hdu) (.inl hu)).1 h1)
          · subst h1; rw [hLi]; simp
          · rw [decide_eq_false (by omega)]
            exact depJ j ((hord i o2 j oj u hin hjn (by omega) ho hoj (hjd ▸ hdu) (.inl hu)).2 h1)
      have hLset : ∀ j, Lf (listed.setIfInBounds i true) j = (decide (j = i) || Lf listed j) := fun j => by
        by_cases e : j = i
        · subst e
          have hlt : j < listed.size := by rw [inv.size]; exact (Array.getElem?_eq_some_iff.1 ho).1
          simp [Lf, hlt]
        · simp only [e, decide_false, Bool.false_or, Lf]
          exact getD_set_ne false (Ne.symm e)
      have hcnt : cnt n (Lf (listed.setIfInBounds i true)) = f := by
        have := cnt_set (L := Lf listed) (L' := Lf (listed.setIfInBounds i true)) (i := i) hLi (by rw [hLset]; simp) (fun j hj => by rw [hLset]; simp [hj]) n
        rw [if_pos hin] at this
        omega
      -- what holds behind the step
      have next : ∀ (g' : Gh) (a' : Act) (w' : World) (c' : List AV), csF (Lf (listed.setIfInBounds i true)) Es 0 c = c' → Inv E g' ⟨((stS (Lf listed) T 0 s).app t.d t.v t.nb t.no).tm, (N, c') :: ((stS (Lf listed) T 0 s).app t.d t.v t.nb t.no).bl, ((stS (Lf listed) T 0 s).app t.d t.v t.nb t.no).ow⟩ a' w' → wpAnyIn (fo E.rd) 0 E.P .any l.toArray (post E Q) (f + (l.toArray.size - n)) (listed.setIfInBounds i true) a' w' := by
        intro g' a' w' c' hc' hinv'
        subst hc'
        refine ih _ g' a' w' hcnt (inv.set hi hin) ⟨hinv'.mem.same (fun p => ?_) (fun k hk => ?_), fun u => ?_, hinv'.de, hinv'.sz⟩
        · simp only [List.mem_cons]
          refine or_congr Iff.rfl ?_
          simp only [St.app, List.mem_append, mem_bl_stS, hLset, Nat.zero_add]
          constructor
          · rintro (hp | hp | ⟨j, tr, h1, h2, h3⟩)
            · exact .inr ⟨i, t, ht, by simp, hp⟩
            · exact .inl hp
            · exact .inr ⟨j, tr, h1, by simp [h2], h3⟩
          · rintro (hp | ⟨j, tr, h1, h2, h3⟩)
            · exact .inr (.inl hp)
            · by_cases e : j = i
              · subst e
                rw [ht] at h1; cases h1; exact .inl h3
              · exact .inr (.inr ⟨j, tr, h1, by simpa [e] using h2, h3⟩)
        · simp only [St.app, List.mem_append, mem_ow_stS, hLset, Nat.zero_add] at hk ⊢
          rcases hk with hp | hp | ⟨j, tr, h1, h2, h3⟩
          · exact .inr ⟨i, t, ht, by simp, hp⟩
          · exact .inl hp
          · exact .inr ⟨j, tr, h1, by simp [h2], h3⟩
        · have hu := hinv'.tm u
          have heq : look (stS (Lf (listed.setIfInBounds i true)) T 0 s).tm u = look ((stS (Lf listed) T 0 s).app t.d t.v t.nb t.no).tm u := by
            by_cases hdu : t.d = some u
            · have h1 : look ((stS (Lf listed) T 0 s).app t.d t.v t.nb t.no).tm u = t.v := by simp [St.app, hdu, look]
              rw [h1]
              refine look_last T 0 i s t ht hdu rfl (by rw [Nat.zero_add, hLset]; simp) fun j tr hj hij hdj => ?_
              rw [Nat.zero_add, hLset]
              obtain ⟨hjn, oj, hoj, hjd⟩ := hTd j tr hj
              have := depJ j ((hord i o2 j oj u hin hjn (by omega) ho hoj (hjd ▸ hdj) (.inr (hd ▸ hdu))).2 hij)
              rw [this]
              simp; omega
            · have h1 : look ((stS (Lf listed) T 0 s).app t.d t.v t.nb t.no).tm u = look (stS (Lf listed) T 0 s).tm u := by
                simp only [St.app]
                cases hdd : t.d with
                | none => rfl
                | some k =>
                  have : k ≠ u := fun e => hdu (by rw [hdd, e])
                  simp only [look]
                  cases hb : Nat.beq k u
                  · rfl
                  · exact absurd (Nat.eq_of_beq_eq_true hb) this
              rw [h1]
              refine look_stS T 0 s s rfl fun j tr hj hdj => ?_
              rw [Nat.zero_add, hLset]
              have : j ≠ i := fun e => by subst e; rw [ht] at hj; cases hj; exact hdu hdj
              simp [this]
          rw [heq]; exact hu
      have hdst' : ∀ k, t.d = some k → k < E.nt := fun k hk => dstB_spec hdst k (hd ▸ hk)
      unfold wpOpIn
      simp only [ho]
      have hguard : ∀ {j d b}, o2.guard = some (j, b) → (l.toArray[j]?).bind (·.dst) = some d → ∀ c, look (stS (fun j => decide (j < i)) T 0 s).tm d = .v (.bool c) → yielded l.toArray a.tmps j = some c := fun {j d b} hg hj c hc' => by
        have h1 := hinv.tm d
        rw [sameLook d (looksAt_guard hg hj), hc'] at h1
        simp only [rep] at h1
        exact yielded_of hj h1
      have csNone : e0 = none → csF (Lf (listed.setIfInBounds i true)) Es 0 c = csF (Lf listed) Es 0 c := fun he => csF_congr Es 0 c fun j x hj => by
        rw [Nat.zero_add, hLset]
        have : j ≠ i := fun e => by subst e; rw [he0, he] at hj; cases hj
        simp [this]
      have hmemN : ∀ q ∈ (stS (Lf listed) T 0 s).bl, q.1 ≠ N := fun q hq e => by
        rcases (mem_bl_stS T 0 s).1 hq with hq | ⟨j, tr, h1, h2, h3⟩
        · have := List.all_eq_true.1 hbN q hq
          rw [e] at this; simp at this
        · obtain ⟨hjn, oj, hoj, hjd⟩ := hTd j tr h1
          obtain ⟨oj', t', k1, k2, k3⟩ := hopt j hjn
          have : oj' = oj := Option.some.inj (k1.symm.trans hoj)
          subst this
          obtain ⟨ej, hej⟩ := hopE j hjn
          have := (hstep j oj' tr ej k2 h1 hej).fr.2 q h3
          exact hdN j oj' hoj (by rw [this, e])
      have oth : ∀ j tr, T[j]? = some tr → Lf listed j = true → j ≠ i := fun j tr _ hL e => by subst e; rw [hLi] at hL; cases hL
      have operandsOk : ∀ x ∈ o2.op.operands, rep g w (ev (stS (fun j => decide (j < i)) T 0 s).tm x) (a.eval x) := fun x hx => by
        have := rep_ev hinv.tm x
        rwa [ev_same (tm' := (stS (fun j => decide (j < i)) T 0 s).tm) fun u hu => by subst hu; exact sameLook u (looksAt_op hx)] at this
      rcases hrun with ⟨hen, hq, hg⟩ | ⟨hen, hv, hnb, hno, j, dd, b, hg, hj, hb⟩ | ⟨c', hen, hev, hgn, hin', hnb, hno⟩
      · have hw : Region.wanted o2 (yielded l.toArray a.tmps) = true := by
          rcases hg with hg | ⟨j, dd, b, hg, hj, hb⟩
          · simp [Region.wanted, hg]
          · simp [Region.wanted, hg, hguard hg hj b hb]
        rw [hw]
        rw [if_pos rfl]
        have hfresh : (∀ p ∈ t.nb, ∀ q ∈ (N, csF (Lf listed) Es 0 c) :: (stS (Lf listed) T 0 s).bl, p.1 ≠ q.1) ∧ ∀ k ∈ t.no, k ∉ (stS (Lf listed) T 0 s).ow := by
          obtain ⟨f1, f2⟩ := freshB_spec hfr.1
          · refine ⟨fun p hp q hq' => ?_, fun k hk hk' => ?_⟩
            · rcases List.mem_cons.1 hq' with rfl | hq'
              · exact fun e => hdN i o2 ho (by rw [hfr.2 p hp, e])
              rcases (mem_bl_stS T 0 s).1 hq' with hq' | ⟨j, tr, h1, h2, h3⟩
              · exact f1 p hp q (inS0 i q hq')
              · rw [Nat.zero_add] at h2
                rcases Nat.lt_trichotomy j i with h4 | h4 | h4
                · exact f1 p hp q (inS i t ht j tr h4 h1 q h3)
                · exact absurd h4 (oth j tr h1 h2)
                · obtain ⟨hjn, oj, hoj, hjd⟩ := hTd j tr h1
                  obtain ⟨oj', t', k1, k2, k3⟩ := hopt j hjn
                  have : oj' = oj := Option.some.inj (k1.symm.trans hoj)
                  subst this
                  obtain ⟨ej, hej⟩ := hopE j hjn
                  exact fun e => (freshB_spec (hstep j oj' tr ej k2 h1 hej).fr.1).1 q h3 p (inS j tr h1 i t h4 ht p hp) e.symm
            · rcases (mem_ow_stS T 0 s).1 hk' with hk' | ⟨j, tr, h1, h2, h3⟩
              · exact f2 k hk ((mem_ow_stS T 0 s).2 (.inl hk'))
              · rw [Nat.zero_add] at h2
                rcases Nat.lt_trichotomy j i with h4 | h4 | h4
                · exact f2 k hk (inO i t ht j tr h4 h1 k h3)
                · exact absurd h4 (oth j tr h1 h2)
                · obtain ⟨hjn, oj, hoj, hjd⟩ := hTd j tr h1
                  obtain ⟨oj', t', k1, k2, k3⟩ := hopt j hjn
                  obtain ⟨ej, hej⟩ := hopE j hjn
                  exact (freshB_spec (hstep j oj' tr ej k2 h1 hej).fr.1).2 k h3 (inO j tr h1 i t h4 ht k hk)
        refine wp_of_uponQ (hq g w a.eval ((N, csF (Lf listed) Es 0 c) :: (stS (Lf listed) T 0 s).bl) (stS (Lf listed) T 0 s).ow hinv.mem (fun p hp => List.mem_cons_of_mem _ ((mem_bl_stS T 0 s).2 (.inl hp))) hfresh.1 hfresh.2 operandsOk) fun y w' hKy => ?_
        obtain ⟨g', h1, h2, h3⟩ := hKy
        have := hinv.app (d := t.d) hdst' h1 h2 h3
        rw [hd] at this
        have hmm' : Mem E g' ((N, csF (Lf listed) Es 0 c) :: (t.nb ++ (stS (Lf listed) T 0 s).bl)) (t.no ++ (stS (Lf listed) T 0 s).ow) w' := h2.same (fun p => by
          simp only [List.mem_append, List.mem_cons]
          constructor
          · rintro (hp | hp | hp)
            · exact .inr (.inl hp)
            · exact .inl hp
            · exact .inr (.inr hp)
          · rintro (hp | hp | hp)
            · exact .inr (.inl hp)
            · exact .inl hp
            · exact .inr (.inr hp)) (fun k hk => hk)
        exact next g' _ w' _ (csNone hen) (by rw [hd]; exact ⟨hmm', this.tm, this.de, this.sz⟩)
      · have hw : Region.wanted o2 (yielded l.toArray a.tmps) = false := by
          simp [Region.wanted, hg, hguard hg hj b hb]
        rw [hw]
        have := hinv.app (d := t.d) (v := t.v) (y := undef) (nb := []) (no := []) hdst' (Goes.refl g w) hinv.mem (by rw [hv]; simp [rep])
        rw [hd] at this
        exact ⟨fun _ _ => trivial, next g _ w _ (csNone hen) (by rw [hd, hnb, hno]; exact this)⟩
      · have hw : Region.wanted o2 (yielded l.toArray a.tmps) = true := by simp [Region.wanted, hgn]
        rw [hw]
        rw [if_pos rfl]
        have hiE := inLs_mem hin'
        have effI : ∀ j x, Es[j]? = some (some x) → j ∈ es := fun j x hj => by
          have hjn : j < n := by rw [← hEn]; exact (List.getElem?_eq_some_iff.1 hj).1
          obtain ⟨oj, tj, k1, k2, k3⟩ := hopt j hjn
          rcases (hstep j oj tj _ k2 k3 hj).run with ⟨h, _⟩ | ⟨h, _⟩ | ⟨_, _, _, _, h, _⟩
          · cases h
          · cases h
          · rw [Nat.zero_add] at h; exact inLs_mem h
        have chain : ∀ j k, j ∈ es → k ∈ es → j < k → j ∈ (depTab l.toArray n).getD k [] := fun j k hj hk hlt => by
          have h1 := List.all_eq_true.1 (List.all_eq_true.1 hE k hk) j hj
          rw [show Nat.blt j k = true from Nat.ble_eq_true_of_le hlt] at h1
          simpa using h1
        have hcs : csF (Lf listed) Es 0 c = csF (fun j => decide (j < i)) Es 0 c := csF_congr Es 0 c fun j x hj => by
          rw [Nat.zero_add]
          rcases Nat.lt_trichotomy j i with h1 | h1 | h1
          · rw [decide_eq_true h1]; exact depI j (chain j i (effI j x hj) hiE h1)
          · subst h1; rw [hLi]; simp
          · rw [decide_eq_false (by omega)]; exact depJ j (chain i j hiE (effI j x hj) h1)
        have hmm : Mem E g ((N, csF (fun j => decide (j < i)) Es 0 c) :: (stS (Lf listed) T 0 s).bl) (stS (Lf listed) T 0 s).ow w := by rw [← hcs]; exact hinv.mem
        have hlast : csF (Lf (listed.setIfInBounds i true)) Es 0 c = c' := csF_last Es 0 i c (by rw [he0, hen]) (by rw [Nat.zero_add, hLset]; simp) fun j y hij hj => by
          rw [Nat.zero_add, hLset, depJ j (chain i j hiE (effI j y hj) hij)]
          simp; omega
        refine wp_of_uponQ (hev g w a.eval (stS (Lf listed) T 0 s).bl (stS (Lf listed) T 0 s).ow hmm hmemN operandsOk) fun y w' hKy => ?_
        obtain ⟨g', h1, h2, h3⟩ := hKy
        have hput := look_put (E := E) (g := g') (w := w') (a := a) (s := ⟨(stS (Lf listed) T 0 s).tm, (N, c') :: (stS (Lf listed) T 0 s).bl, (stS (Lf listed) T 0 s).ow⟩) (d := t.d) (v := t.v) (y := y) [] [] hdst' hinv.sz (fun t => rep_goes h1 (hinv.tm t)) h3
        rw [hd] at hput
        refine next g' _ w' _ hlast ?_
        rw [hd, hnb, hno]
        exact ⟨by simpa [St.app] using h2, by simpa [St.app] using hput, by cases o2.dst <;> simpa [Act.put] using hinv.de, by cases o2.dst <;> simpa [Act.put] using hinv.sz⟩
  refine wpIn_region_any hm ?_
  have inv0 : HeadInv .any l.toArray n (Array.replicate l.toArray.size false) :=
    ⟨by simp, fun j oj _ hl => (by rw [getD_replicate_false] at hl; cases hl), fun t _ ht => getD_in (by simpa using ht) (getD_replicate_false _ _)⟩
  have hL0 : Lf (Array.replicate l.toArray.size false) = fun _ => false := by funext i; exact getD_replicate_false _ _
  have := main n (Array.replicate l.toArray.size false) g0 a0 { w00 with drawn := w00.drawn + 1 } (by rw [hL0]; exact cnt_false n) inv0 ?_
  · rwa [show n + (l.toArray.size - n) = l.toArray.size by omega] at this
  · rw [hL0]
    have zero : ∀ (T : List Tr) (i : Nat) (s : St), stS (fun _ => false) T i s = s := by
      intro T
      induction T with
      | nil => intro i s; rfl
      | cons t T ih => intro i s; simp only [stS, cond_false]; exact ih _ s
    have zeroC : ∀ (es : List (Option (List AV))) (i : Nat) (c : List AV), csF (fun _ => false) es i c = c := by
      intro es
      induction es with
      | nil => intro i c; rfl
      | cons e es ih => intro i c; simp only [csF, cond_false]; exact ih _ c
    rw [zero, zeroC]
    exact hi0.drew
end Go.Eng

namespace Go.Eng
open Go

/-- The variable N taken out of the list. -/
def pullB (N : Nat) : List (Nat × List AV) → Option (List AV × List (Nat × List AV))
  | [] => none
  | (k, c) :: r => bif Nat.beq k N then some (c, r) else match pullB N r with | some (c', r') => some (c', (k, c) :: r') | none => none
theorem pullB_mem {N : Nat} : ∀ {bl : List (Nat × List AV)} {c : List AV} {r : List (Nat × List AV)}, pullB N bl = some (c, r) → ∀ p, p ∈ bl ↔ p ∈ (N, c) :: r
  | [], _, _, h, _ => by simp [pullB] at h
  | (k, c0) :: bl, c, r, h, p => by
    simp only [pullB] at h
    cases hb : Nat.beq k N
    · rw [hb] at h
      simp only [cond_false] at h
      split at h
      · rename_i c' r' he
        simp only [Option.some.injEq, Prod.mk.injEq] at h
        obtain ⟨rfl, rfl⟩ := h
        have := pullB_mem he p
        simp only [List.mem_cons] at this ⊢
        constructor
        · rintro (h1 | h1)
          · exact .inr (.inl h1)
          · rcases this.1 h1 with h2 | h2
            · exact .inl h2
            · exact .inr (.inr h2)
        · rintro (h1 | h1 | h1)
          · exact .inr (this.2 (.inl h1))
          · exact .inl h1
          · exact .inr (this.2 (.inr h1))
      · cases h
    · rw [hb] at h
      simp only [cond_true, Option.some.injEq, Prod.mk.injEq] at h
      obtain ⟨rfl, rfl⟩ := h
      rw [Nat.eq_of_beq_eq_true hb]
theorem wdrawC {E : En} {id : Nat} {l hd tl : List Oper} {Q : Exit → St → Prop} {tm : List (Nat × AV)} {bl bl0 : List (Nat × List AV)} {ow : List Nat} {c : List AV} (n N : Nat) (es : List Nat) (hm : E.P.follows .mixedOrders = true) (hB : headB l.toArray n = true) (hT : tailB l.toArray n = true) (hE : effB l.toArray n es = true)
    (hN : l.all (fun o => match o.dst with | some d => !Nat.beq d N | none => true) = true) (hs : splitO n l = some (hd, tl)) (hp : pullB N bl = some (c, bl0)) (hbN : bl0.all (fun q => !Nat.beq q.1 N) = true)
    (h : HC E l.toArray bl0 N es 0 hd ⟨tm, bl0, ow⟩ c (fun s' c' => WL E l.toArray tl Q ⟨s'.tm, (N, c') :: s'.bl, s'.ow⟩)) : W E (.region id l.toArray true) Q ⟨tm, bl, ow⟩ := by
  obtain ⟨h1, h2⟩ := splitO_eq hs
  subst h1; subst h2
  intro g a w hi
  exact W_drawC (s := ⟨tm, bl0, ow⟩) n N es hm hB hT hE hN hbN h g a w ⟨hi.mem.same (pullB_mem hp) (fun k hk => hk), hi.tm, hi.de, hi.sz⟩
section
variable {E : En} {ops : Array Oper} {rest : List Oper} {N k : Nat} {es : List Nat} {K : St → List AV → Prop} {tm : List (Nat × AV)} {bl bl0 : List (Nat × List AV)} {ow : List Nat} {d : Nat} {op : Op} {ty : TypeId} {pos : String} {af : Array Edge} {gd : Option (Nat × Bool)} {v : AV} {c c' : List AV}
theorem HC_nil {s : St} (h : K s c) : HC E ops bl0 N es k [] s c K := h
theorem hc_gy {o : Oper} {s : St} {nb : List (Nat × List AV)} {no : List Nat} (h : QV E bl0 s.tm o v nb no) (hg : GY ops s.tm o.guard) (hd : dstB E.nt o = true) (hf : freshB nb no s = true) (hn : namesB nb o = true) (hk : HC E ops bl0 N es (k + 1) rest (s.app o.dst v nb no) c K) : HC E ops bl0 N es k (o :: rest) s c K := by
  refine .inl ⟨v, nb, no, h, hd, ⟨hf, hn⟩, ?_, hk⟩
  cases hgd : o.guard with
  | none => exact .inl rfl
  | some jb =>
    obtain ⟨j, b⟩ := jb
    rw [hgd] at hg
    obtain ⟨d, h1, h2⟩ := hg
    exact .inr ⟨j, d, b, rfl, h1, h2⟩
theorem hc0 (h : QV E bl0 tm ⟨some d, op, ty, pos, af, gd⟩ v [] []) (hg : GY ops tm gd) (hd : Nat.blt d E.nt = true) (hk : HC E ops bl0 N es (k + 1) rest ⟨(d, v) :: tm, bl, ow⟩ c K) : HC E ops bl0 N es k (⟨some d, op, ty, pos, af, gd⟩ :: rest) ⟨tm, bl, ow⟩ c K := hc_gy h hg hd (by simp [freshB]) (by simp [namesB]) hk
theorem hcn1 {n : Nat} (h : QV E bl0 tm ⟨some d, op, ty, pos, af, gd⟩ v [] [n]) (hg : GY ops tm gd) (hd : Nat.blt d E.nt = true) (hf : freshB [] [n] ⟨tm, bl, ow⟩ = true) (hk : HC E ops bl0 N es (k + 1) rest ⟨(d, v) :: tm, bl, n :: ow⟩ c K) : HC E ops bl0 N es k (⟨some d, op, ty, pos, af, gd⟩ :: rest) ⟨tm, bl, ow⟩ c K := hc_gy h hg hd hf (by simp [namesB]) hk
theorem hcn (hg : GN ops tm gd) (hd : Nat.blt d E.nt = true) (hk : HC E ops bl0 N es (k + 1) rest ⟨(d, .v undef) :: tm, bl, ow⟩ c K) : HC E ops bl0 N es k (⟨some d, op, ty, pos, af, gd⟩ :: rest) ⟨tm, bl, ow⟩ c K := by
  cases gd with
  | none => exact hg.elim
  | some jb =>
    obtain ⟨j, b⟩ := jb
    obtain ⟨d', h1, h2⟩ := hg
    exact .inr (.inl ⟨j, d', !b, by simp, h1, h2, hd, hk⟩)
theorem hcE (h : EV E N tm ⟨some d, op, ty, pos, af, none⟩ v c c') (hd : Nat.blt d E.nt = true) (he : inLs es k = true) (hk : HC E ops bl0 N es (k + 1) rest ⟨(d, v) :: tm, bl, ow⟩ c' K) : HC E ops bl0 N es k (⟨some d, op, ty, pos, af, none⟩ :: rest) ⟨tm, bl, ow⟩ c K :=
  .inr (.inr ⟨v, c', h, hd, rfl, he, hk⟩)
theorem setB_head {N : Nat} {c c' : List AV} {bl : List (Nat × List AV)} (h : ∀ q ∈ bl, q.1 ≠ N) : setB ((N, c) :: bl) N c' = (N, c') :: bl := by
  simp only [setB, List.map_cons, Nat.beq_refl, cond_true, List.cons.injEq, true_and]
  rw [List.map_congr_left (g := id)]
  · simp
  · intro q hq
    cases hb : Nat.beq q.1 N
    · rfl
    · exact absurd (Nat.eq_of_beq_eq_true hb) (h q hq)
/-- A call by pointer, of which is known what it gives. -/
theorem evPtr {x : Operand} {xs : Array Operand} {ts : Array TypeId} {f : Nat} {args : List AV} {z : AV} [hf : FnOk E.P f] (h : CallPtr E.P f args c (fun r cs => r = z ∧ cs = c')) (hx : ev tm x = .v (.func (.func f) #[] #[])) (ha : PtA N (xs.toList.map (ev tm)) args) (hcs : dtL c = true) (hcs' : dtL c' = true) (hz : dtL [z] = true) (hro : N ∉ E.ron) :
    EV E N tm ⟨some d, .call ⟨.value x, xs, ts⟩, ty, pos, af, none⟩ z c c' := by
  intro g w ρ bl' ow' hm hne hop
  have h1 := hop x (by simp [Op.operands, Call.operands])
  have h2 : reps g w (xs.toList.map (ev tm)) (xs.toList.map ρ) := reps_map _ fun y hy => hop y (by simp [Op.operands, Call.operands] at hy ⊢; exact .inr hy)
  rw [hx] at h1
  simp only [rep] at h1
  obtain ⟨fn, f1, f2, f3⟩ := hf.ok
  have f2' : fn.name ≠ "runtime.NumGoroutine" := by simpa using f2
  have f3' : fn.body ≠ none := fun e => by rw [e] at f3; simp at f3
  have hrun : (execOp ρ ⟨some d, .call ⟨.value x, xs, ts⟩, ty, pos, af, none⟩).run E.P w = .ok (.enter f (xs.map ρ)) w := by
    simp [execOp, resolve, Deferred.ofValue, h1, invoke, callFunc, f1, f2', f3']
  rw [hrun]
  obtain ⟨b, arr, m1, m2, m3, m4⟩ := hm.blk N c (by simp)
  refine (h g.I w b (g.mt N) (xs.map ρ) arr hm.cell m4 m2 (reps_dt (g := g) (g' := gP g.I b (g.mt N)) rfl hcs m3) (by rw [Array.toList_map]; exact reps_ptA m1 ha h2)).mono fun e' w' he => ?_
  obtain ⟨y, r, cs', arr', g', rfl, ⟨rfl, rfl⟩, k1, k2, k3, k4, k5⟩ := he
  obtain ⟨gc, p1, p2, p3, p4⟩ := hm.turned m1 hro k2 k3 k4 hcs' k5 0 [] (fun n hn => by simp at hn)
  rw [setB_head hne] at p2
  refine ⟨y, rfl, gc, p1, by simpa using p2, ?_⟩
  have := reps_dt (g := g') (g' := gc) p3 (xs := [r]) (ys := [y]) hz (by simp only [reps]; exact ⟨y, [], rfl, k1, rfl⟩)
  simp only [reps] at this
  obtain ⟨_, _, e1, k6, _⟩ := this
  cases e1
  exact k6
end
end Go.Eng

namespace Go.Eng
open Go

/-- What is left of a value when the array 'n' is data from now on. -/
def DLe (n T e : Nat) (rows : List (List AV)) (x v : AV) : Prop := (x = .arr n T e rows.length ∧ v = .sl e rows) ∨ x = v ∨ v = .top
def DPick (n T e : Nat) (rows : List (List AV)) (tm : List (Nat × AV)) : List (Nat × AV) → Prop
  | [] => True
  | (t, v) :: r => DLe n T e rows (look tm t) v ∧ DPick n T e rows tm r
inductive DLes (n T e : Nat) (rows : List (List AV)) : List AV → List AV → Prop where
  | nil : DLes n T e rows [] []
  | cons {x y : AV} {xs ys : List AV} (h : DLe n T e rows x y) (hs : DLes n T e rows xs ys) : DLes n T e rows (x :: xs) (y :: ys)
theorem DLes.refl {n T e : Nat} {rows : List (List AV)} : ∀ xs : List AV, DLes n T e rows xs xs
  | [] => .nil
  | _ :: xs => .cons (.inr (.inl rfl)) (DLes.refl xs)
def DPickB (n T e : Nat) (rows : List (List AV)) (bl : List (Nat × List AV)) : List (Nat × List AV) → Prop
  | [] => True
  | (k, cs) :: r => (∃ cs0, lookB bl k = some cs0 ∧ DLes n T e rows cs0 cs) ∧ DPickB n T e rows bl r
theorem dPickB_mem {n T e : Nat} {rows : List (List AV)} {bl : List (Nat × List AV)} : ∀ {l : List (Nat × List AV)}, DPickB n T e rows bl l → ∀ k cs, (k, cs) ∈ l → ∃ cs0, lookB bl k = some cs0 ∧ DLes n T e rows cs0 cs
  | [], _, _, _, h => by simp at h
  | (k', cs') :: r, hp, k, cs, h => by
    simp only [DPickB] at hp
    rcases List.mem_cons.1 h with h | h
    · cases h; exact hp.1
    · exact dPickB_mem hp.2 k cs h
theorem weak_dat {E : En} {s s' : St} (n T e : Nat) (rows : List (List AV)) (rest : List AV) (hro : E.ron = []) (hM : ∀ b, E.M b → ∃ k U, k ≠ n ∧ E.pin k b U) (hb : lookB s.bl n = some (rows.flatten ++ rest)) (hl : ∀ r ∈ rows, r.length = e) (hD : ∀ x ∈ rows.flatten, plain x = true)
    (h1 : DPick n T e rows s.tm s'.tm) (h2 : DPickB n T e rows s.bl s'.bl) (h3 : refsL (s'.bl.map (·.1)) s'.ow (s'.tm.map (·.2)) = true) (h3' : RefsB (s'.bl.map (·.1)) s'.ow s'.bl) (h4 : s'.ow = s.ow) (hnb : (s'.bl.map (·.1)).any (Nat.beq n) = false) (hpin : ∀ k b U, E.pin k b U → k ∈ s'.bl.map (·.1)) : Weak E s s' := by
  intro g a w hi
  obtain ⟨b, arr, b1, b2, b3, b4⟩ := hi.mem.blk n _ (lookB_mem hb)
  have hnk : n ∉ s'.bl.map (·.1) := fun h => by
    rw [List.any_eq_true.2 ⟨n, h, by simp⟩] at hnb; cases hnb
  have hflen : rows.flatten.length = rows.length * e := flatten_length hl
  have hasz : rows.length * e ≤ arr.size := by
    have := reps_length b3
    simp only [List.length_append, Array.length_toList] at this
    omega
  have hbB : E.B ≤ b := by
    rcases (hi.mem.mfr n b b1).1 with h | h | h
    · rw [hro] at h; simp at h
    · exact h
    · obtain ⟨k, U, hk, hp⟩ := hM b h
      exact absurd (hi.mem.minj k n b (hi.mem.pin k b U hp).1 b1) hk
  let g' : Gh := { I := fun c o => g.I c o ∨ (c = b ∧ o < rows.length * e), m := fun k => if k ∈ s'.bl.map (·.1) then g.m k else none, om := g.om, ow := g.ow, mt := g.mt }
  have hmm : ∀ k c, g'.m k = some c → k ∈ s'.bl.map (·.1) ∧ g.m k = some c := fun k c h => by
    by_cases e : k ∈ s'.bl.map (·.1)
    · exact ⟨e, by simpa only [g', e, if_true] using h⟩
    · simp only [g', e, if_false] at h; cases h
  have keepI : ∀ c o, g.I c o → g'.I c o := fun c o h => .inl h
  have goes : Goes { g with m := g'.m } w g' w := by
    refine ⟨keepI, fun _ _ _ => rfl, fun k c h => h, fun _ _ _ => rfl, fun k T' e' rows' y hy => ?_⟩
    refine ownRep_goes (g := { g with m := g'.m }) (g' := g') keepI (fun _ _ _ => rfl) (fun j hj => ⟨hj, rfl⟩) (fun _ _ _ _ => rfl) (fun j c o hj hc hI => ?_) hy
    rcases hI with hI | ⟨rfl, _⟩
    · exact hI
    · exact (hi.mem.disj n j c b1 hj hc).elim
  have refsRep : ∀ (x : AV) (y : Value), refs (s'.bl.map (·.1)) s'.ow x = true → rep g w x y → rep g' w x y := fun x y hr h =>
    rep_goes goes (rep_refs (g := g) (g' := { g with m := g'.m }) (ks := s'.bl.map (·.1)) (os := s'.ow) rfl (fun k c hk hc => by simp only [g', hk, if_true]; exact hc) rfl (fun _ _ h => ⟨h, rfl⟩) hr h)
  have conv : ∀ (y : Value), rep g w (.arr n T e rows.length) y → rep g' w (.sl e rows) y := fun y h => by
    simp only [rep] at h
    obtain ⟨b', c', k1, k2, rfl, k3, _⟩ := h
    have : b' = b := by rw [b1] at k1; exact (Option.some.inj k1).symm
    subst this
    simp only [rep, drep]
    have hdr := dreps_take (I := g'.I) (w' := w) hD b3
    refine ⟨_, c', rfl, .inr ⟨b', 0, rfl, drows_iff.2 ⟨hl, dcells_of_list hdr fun j z hj => ?_⟩⟩, k3⟩
    have hlt : j < rows.flatten.length := by
      have := (List.getElem?_eq_some_iff.1 hj).1
      simp only [List.length_take] at this
      omega
    rw [Nat.zero_add, cell_of_heap b2]
    refine ⟨?_, .inr ⟨rfl, by omega⟩⟩
    rw [List.getElem?_take_of_lt hlt] at hj
    simpa using hj
  have one : ∀ (x v : AV) (y : Value), DLe n T e rows x v → refs (s'.bl.map (·.1)) s'.ow v = true → rep g w x y → rep g' w v y := fun x v y hd hr h => by
    rcases hd with ⟨rfl, rfl⟩ | rfl | rfl
    · exact conv y h
    · exact refsRep _ _ hr h
    · simp [rep]
  refine ⟨g', ⟨⟨hi.mem.below, hi.mem.base, fun c o hc => ?_, fun k c h => hi.mem.mfr k c (hmm k c h).2, fun k c k1 k2 => hi.mem.ofr k c k1 k2, fun k k' c k1 k2 => hi.mem.minj k k' c (hmm k c k1).2 (hmm k' c k2).2, fun k k' c k1 k2 k3 k4 => hi.mem.oinj k k' c k1 k2 k3 k4, fun k k' c k1 k2 k3 => hi.mem.disj k k' c (hmm k c k1).2 k2 k3, fun k cs h => ?_, fun k c h => ?_, fun k h => by rw [h4]; exact hi.mem.own k h, fun c o hc => ?_, fun c o hc => .inl (hi.mem.iold c o hc), fun k c U h => ?_⟩, fun t => ?_, hi.de, hi.sz⟩⟩
  · rcases hc with hc | ⟨rfl, ho⟩
    · exact hi.mem.cell c o hc
    · rw [cell_of_heap b2]
      rw [Array.getElem?_eq_getElem (by omega)]
      rfl
  · obtain ⟨cs0, q1, q2⟩ := dPickB_mem h2 k cs h
    obtain ⟨c, ar, k1, k2, k3, k4⟩ := hi.mem.blk k cs0 (lookB_mem q1)
    have hk : k ∈ s'.bl.map (·.1) := List.mem_map.2 ⟨_, h, rfl⟩
    have hrf := refsB_mem h3' _ h
    have go : ∀ (xs vs : List AV) (ys : List Value), DLes n T e rows xs vs → refsL (s'.bl.map (·.1)) s'.ow vs = true → reps g w xs ys → reps g' w vs ys := by
      intro xs vs ys hd
      induction hd generalizing ys with
      | nil => intro _ h; simpa [reps] using h
      | cons h hs ih =>
        intro hr hq
        simp only [refsL, Bool.and_eq_true] at hr
        simp only [reps] at hq ⊢
        obtain ⟨y, zs, e1, q3, q4⟩ := hq
        exact ⟨y, zs, e1, one _ _ _ h hr.1 q3, ih _ hr.2 q4⟩
    refine ⟨c, ar, by simp only [g', hk, if_true]; exact k1, k2, go _ _ _ q2 hrf k3, fun o ho => ?_⟩
    rcases ho with ho | ⟨rfl, _⟩
    · exact k4 o ho
    · have := hi.mem.minj k n c k1 b1
      subst this
      exact hnk hk
  · obtain ⟨h7, _⟩ := hmm k c h
    obtain ⟨p, hp, rfl⟩ := List.mem_map.1 h7
    exact ⟨p.2, hp⟩
  · rcases hc with hc | ⟨rfl, _⟩
    · exact hi.mem.inew c o hc
    · exact .inr (.inl hbB)
  · have hk := hpin k c U h
    obtain ⟨p1, p2⟩ := hi.mem.pin k c U h
    exact ⟨by simp only [g', hk, if_true]; exact p1, p2⟩
  · have pick : ∀ (l : List (Nat × AV)), DPick n T e rows s.tm l → look l t = .top ∨ DLe n T e rows (look s.tm t) (look l t) := by
      intro l
      induction l with
      | nil => intro _; exact .inl rfl
      | cons p l ih =>
        intro hp
        obtain ⟨k, v⟩ := p
        simp only [DPick] at hp
        simp only [look]
        cases hb' : Nat.beq k t
        · exact ih hp.2
        · have := Nat.eq_of_beq_eq_true hb'
          subst this
          exact .inr hp.1
    rcases pick _ h1 with h | h
    · rw [h]; simp [rep]
    · rcases look_mem (tm := s'.tm) (t := t) with h7 | h7
      · rw [h7]; simp [rep]
      · exact one _ _ _ h (refsL_mem h3 h7) (hi.tm t)
end Go.Eng
