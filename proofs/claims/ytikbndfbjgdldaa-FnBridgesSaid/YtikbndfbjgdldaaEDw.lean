/- Functions that hand back a pointer to a new variable; bits and shifts. No program in sight. -/
import Derived.Test.YtikbndfbjgdldaaEPt
namespace Go.Eng
open Go

/-- THE CONTRACT: a pointer to a new variable, its cells read as R tells; nothing that was there has changed. -/
def CallMake (P : Program) (f : Nat) (args : List AV) (R : List AV → Prop) : Prop :=
  ∀ (I : Nat → Nat → Prop) (w : World) (vals : Array Value), (∀ b o, I b o → (w.cell? ⟨b, o, none⟩).isSome = true) → dreps I w args vals.toList →
    Calls P f vals w fun e w' => ∃ (b T : Nat) (arr : Array Value) (cs : List AV) (g' : Gh), e = .returned (.pointer (some ⟨b, 0, none⟩)) ∧ R cs ∧ dtL cs = true ∧ w.heap.size ≤ b ∧ w'.heap[b]? = some (.cells arr T (0, 0)) ∧ reps g' w' cs arr.toList ∧ (∀ o, ¬ g'.I b o) ∧ Ret I w g' w'
def makeQ (E : En) (rs : List ResultVar) (R : List AV → Prop) : Exit → St → Prop
  | .normal, s => ∃ n cs, resA E.P s rs [.ptr n 0] ∧ (n, cs) ∈ s.bl ∧ R cs ∧ dtL cs = true
  | .ret, s => ∃ n cs, resA E.P s rs [.ptr n 0] ∧ (n, cs) ∈ s.bl ∧ R cs ∧ dtL cs = true
  | _, _ => False
theorem callMake {P : Program} {f nt : Nat} {fn : Func} {rs : Array ResultVar} {c : Code} {args : List AV} {tm : List (Nat × AV)} {R : List AV → Prop} (hf : P.funcs[f]? = some fn) (hnt : fn.ntmps = nt) (hrs : fn.results = rs) (hb : fn.body = some c) (hn : Nat.ble args.length nt = true) (htm : iniO 0 args = some tm)
    (h : ∀ (B : Nat) (w0 : World) (I0 : Nat → Nat → Prop), W ⟨P, B, w0, nt, fun _ => False, [], I0, fun _ _ _ => False⟩ c (makeQ ⟨P, B, w0, nt, fun _ => False, [], I0, fun _ _ _ => False⟩ rs.toList R) ⟨tm, [], []⟩) : CallMake P f args R := by
  subst hnt; subst hrs
  intro I w vals hI hargs
  have htm' := iniO_eq htm
  let E : En := ⟨P, w.heap.size, w, fn.ntmps, fun _ => False, [], I, fun _ _ _ => False⟩
  let g : Gh := ⟨I, fun _ => none, fun _ => none, fun _ => False, fun _ => 0⟩
  have hlen := dreps_length hargs
  have hn' := Nat.le_of_ble_eq_true hn
  have hargs' : reps g w args vals.toList := reps_of_dreps hargs
  refine calls_of_wp hf hb ?_
  refine wp_mono (h w.heap.size w I g _ w ⟨⟨BelowM.refl _ _ _, Nat.le_refl _, hI, fun n b h => by simp [g] at h, fun n b h => by simp [g] at h, fun n n' b h => by simp [g] at h, fun n n' b h => by simp [g] at h, fun n n' b h => by simp [g] at h,
    fun n cs h => by simp at h, fun n b h => by simp [g] at h, fun n h => by simp [g] at h, fun b o h => .inl h, fun b o h => h, fun n b T h => h.elim⟩, fun t => ?_, rfl, ?_⟩) fun e a' w' hq => ?_
  · rw [← htm']
    simp only [look_zip, Nat.zero_le, if_true, Nat.sub_zero]
    rcases Nat.lt_or_ge t args.length with h1 | h1
    · obtain ⟨y, hy, hr⟩ := reps_get hargs' (List.getElem?_eq_getElem h1)
      have : t < vals.size := by simpa [← hlen] using h1
      have hy' : vals[t] = y := by simpa [this] using hy
      simp only [List.getD_eq_getElem?_getD, List.getElem?_eq_getElem h1, Option.getD_some]
      simp only [Array.getD_eq_getD_getElem?, Array.getElem?_append_left this, Array.getElem?_eq_getElem this, Option.getD_some, hy']
      exact hr
    · simp only [List.getD_eq_getElem?_getD, List.getElem?_eq_none h1, Option.getD_none, rep]
  · have : vals.size = args.length := by simpa using hlen
    simp; omega
  · obtain ⟨g', s', hq, hi⟩ := hq
    have fin : (∃ n cs, resA P s' fn.results.toList [.ptr n 0] ∧ (n, cs) ∈ s'.bl ∧ R cs ∧ dtL cs = true) → a'.defers = [] ∧ ∃ v, (results fn a'.tmps).run P w' = .ok v w' ∧
        ∃ (b T : Nat) (arr : Array Value) (cs : List AV) (g' : Gh), Ending.returned v = .returned (.pointer (some ⟨b, 0, none⟩)) ∧ R cs ∧ dtL cs = true ∧ w.heap.size ≤ b ∧ w'.heap[b]? = some (.cells arr T (0, 0)) ∧ reps g' w' cs arr.toList ∧ (∀ o, ¬ g'.I b o) ∧ Ret I w g' w' := by
      rintro ⟨n, cs, h1, h2, h3, h4⟩
      obtain ⟨y, k1, k2⟩ := run_results hi h1
      obtain ⟨b, arr, m1, m2, m3, m4⟩ := hi.mem.blk n cs h2
      have k3 : rep g' w' (.ptr n 0) y := k2
      simp only [rep] at k3
      obtain ⟨c, c1, c2⟩ := k3
      have : c = b := by rw [m1] at c1; exact (Option.some.inj c1).symm
      subst this
      subst c2
      have m5 := (hi.mem.mfr n c m1).1
      have m6 : w.heap.size ≤ c := by
        rcases m5 with m5 | m5 | m5
        · cases m5
        · exact m5
        · exact m5.elim
      exact ⟨hi.de, _, k1, c, g'.mt n, arr, cs, g', rfl, h3, h4, m6, m2, m3, m4,
        ⟨⟨hi.mem.below.os, hi.mem.below.tape, hi.mem.below.output, hi.mem.below.size, hi.mem.below.block⟩, hi.mem.iold, hi.mem.inew, hi.mem.cell, hi.mem.ofr, hi.mem.oinj⟩⟩
    cases e with
    | normal => exact fin hq
    | ret => exact fin hq
    | _ => exact hq.elim
/-- Such a call has made the variable N. -/
theorem Mem.made {E : En} {g g' : Gh} {bl : List (Nat × List AV)} {ow : List Nat} {w w' : World} {N b T : Nat} {cs : List AV} {arr : Array Value} (hm : Mem E g bl ow w) (hr : Ret g.I w g' w') (hfr : ∀ q ∈ bl, N ≠ q.1) (hb : w.heap.size ≤ b) (hh : w'.heap[b]? = some (.cells arr T (0, 0)))
    (hc : reps g' w' cs arr.toList) (hd : dtL cs = true) (hI : ∀ o, ¬ g'.I b o) :
    ∃ gc, Goes g w gc w' ∧ Mem E gc ((N, cs) :: bl) ow w' ∧ gc.m N = some b := by
  have hnone : g.m N = none := by
    cases hmN : g.m N with
    | none => rfl
    | some b' => obtain ⟨cs', hc⟩ := hm.key N b' hmN; exact absurd rfl (hfr _ hc)
  let gc : Gh := { g with I := g'.I, m := fun k => if k = N then some b else g.m k, mt := fun k => if k = N then T else g.mt k }
  have heap : ∀ c, c < w.heap.size → w'.heap[c]? = w.heap[c]? := fun c hb => hr.below.block c hb (fun h => h)
  have hIlt : ∀ b o, g.I b o → b < w.heap.size := fun b o hb => cell_lt (hm.cell b o hb)
  have keeps : Keeps g.I w w' := fun c o hb => World.cell?_of_block (a := ⟨c, o, none⟩) (heap c (hIlt c o hb))
  have hI2 : ∀ c o, c < w.heap.size → g'.I c o → g.I c o := fun c o hb hI => (hr.new c o hI).resolve_right (by omega)
  have hsz := hr.below.size
  have hbw : b < w'.heap.size := (Array.getElem?_eq_some_iff.1 hh).1
  have hmm : ∀ k c, gc.m k = some c → (k = N ∧ c = b) ∨ (k ≠ N ∧ g.m k = some c) := fun k c hk => by
    by_cases e : k = N
    · simp only [gc, e, if_true, Option.some.injEq] at hk; exact .inl ⟨e, hk.symm⟩
    · simp only [gc, e, if_false] at hk; exact .inr ⟨e, hk⟩
  have hold : ∀ k c, g.m k = some c → k ≠ N := fun k c hk e => by rw [e, hnone] at hk; cases hk
  have goes : Goes g w gc w' := ⟨hr.old, keeps, fun k c hk => by simp only [gc, hold k c hk, if_false]; exact hk, fun k c hk => by simp only [gc, hold k c hk, if_false],
    fun n T e rows y hy => ownRep_goes (g := g) (g' := gc) hr.old keeps (fun k hk => ⟨hk, rfl⟩) (fun n c h1 h2 => heap c (hm.ofr n c h1 h2).2) (fun n c o h1 h2 h3 => hI2 c o (hm.ofr n c h1 h2).2 h3) hy⟩
  refine ⟨gc, goes, ?_, by simp [gc]⟩
  exact
    { below := ⟨hr.below.os.trans hm.below.os, hr.below.tape.trans hm.below.tape, hr.below.output.trans hm.below.output, Nat.le_trans hm.below.size hsz, fun k hk hM => (heap k (Nat.lt_of_lt_of_le hk hm.base)).trans (hm.below.block k hk hM)⟩
      base := Nat.le_trans hm.base hsz
      cell := hr.cell
      mfr := fun k c hk => by
        rcases hmm k c hk with ⟨_, rfl⟩ | ⟨_, k2⟩
        · exact ⟨.inr (.inl (Nat.le_trans hm.base hb)), hbw⟩
        · exact ⟨(hm.mfr k c k2).1, Nat.lt_of_lt_of_le (hm.mfr k c k2).2 hsz⟩
      ofr := fun k c k1 k2 => ⟨(hm.ofr k c k1 k2).1, Nat.lt_of_lt_of_le (hm.ofr k c k1 k2).2 hsz⟩
      minj := fun k k' c k1 k2 => by
        rcases hmm k c k1 with ⟨p1, p2⟩ | ⟨_, p2⟩ <;> rcases hmm k' c k2 with ⟨q1, q2⟩ | ⟨_, q2⟩
        · rw [p1, q1]
        · have := (hm.mfr k' _ q2).2; omega
        · have := (hm.mfr k _ p2).2; omega
        · exact hm.minj k k' c p2 q2
      oinj := hm.oinj
      disj := fun k k' c k1 k2 k3 => by
        rcases hmm k c k1 with ⟨p1, p2⟩ | ⟨_, p2⟩
        · have := (hm.ofr k' _ k2 k3).2; omega
        · exact hm.disj k k' c p2 k2 k3
      blk := fun k ds hk => by
        rcases List.mem_cons.1 hk with hk | hk
        · cases hk
          exact ⟨b, arr, by simp [gc], by simp only [gc, if_true]; exact hh, reps_dt (g := g') (g' := gc) rfl hd hc, hI⟩
        · obtain ⟨c, arr', p1, p2, p3, p4⟩ := hm.blk k ds hk
          have hne := hold k c p1
          have hcl := (hm.mfr k c p1).2
          exact ⟨c, arr', by simp only [gc, hne, if_false]; exact p1, by simp only [gc, hne, if_false]; exact (heap c hcl).trans p2, reps_goes goes p3, fun o ho => p4 o (hI2 c o hcl ho)⟩
      key := fun k c hk => by
        rcases hmm k c hk with ⟨rfl, _⟩ | ⟨_, k2⟩
        · exact ⟨cs, List.mem_cons_self ..⟩
        · obtain ⟨ds, hd'⟩ := hm.key k c k2
          exact ⟨ds, List.mem_cons_of_mem _ hd'⟩
      own := hm.own
      inew := fun c o hc => by
        rcases hr.new c o hc with h1 | h1
        · exact hm.inew c o h1
        · exact .inr (Nat.le_trans hm.base h1)
      iold := fun c o hc => hr.old c o (hm.iold c o hc)
      pin := fun k c U hp => by
        obtain ⟨p1, p2⟩ := hm.pin k c U hp
        have hne := hold k c p1
        simp only [gc, hne, if_false]
        exact ⟨p1, p2⟩ }
section
variable {E : En} {ops : Array Oper} {rest : List Oper} {Q : Exit → St → Prop} {tm : List (Nat × AV)} {bl : List (Nat × List AV)} {ow : List Nat} {d : Nat} {ty : TypeId} {pos : String} {af : Array Edge}
/-- A call that makes a variable: N from now on. -/
theorem wlmake {x : Operand} {xs : Array Operand} {ts : Array TypeId} {f : Nat} {ys : List AV} {R : List AV → Prop} (N : Nat) [hf : FnOk E.P f] (h : CallMake E.P f ys R) (hx : ev tm x = .v (.func (.func f) #[] #[])) (ha : LeDs (xs.toList.map (ev tm)) ys)
    (hfr : (bl.all fun q => !Nat.beq N q.1) = true) (hd : Nat.blt d E.nt = true) (hk : ∀ cs, R cs → WL E ops rest Q ⟨(d, .ptr N 0) :: tm, (N, cs) :: bl, ow⟩) :
    WL E ops (⟨some d, .call ⟨.value x, xs, ts⟩, ty, pos, af, none⟩ :: rest) Q ⟨tm, bl, ow⟩ := by
  intro g a w hi
  unfold wpList
  rw [show Region.wanted ⟨some d, .call ⟨.value x, xs, ts⟩, ty, pos, af, none⟩ (yielded ops a.tmps) = true by simp [Region.wanted]]
  refine .inl ?_
  have h1 := rep_ev hi.tm x
  have h2 : reps g w (xs.toList.map (ev tm)) (xs.toList.map a.eval) := reps_map _ fun y _ => rep_ev hi.tm y
  rw [hx] at h1
  simp only [rep] at h1
  obtain ⟨fn, f1, f2, f3⟩ := hf.ok
  have f2' : fn.name ≠ "runtime.NumGoroutine" := by simpa using f2
  have f3' : fn.body ≠ none := fun e => by rw [e] at f3; simp at f3
  have hrun : (execOp a.eval ⟨some d, .call ⟨.value x, xs, ts⟩, ty, pos, af, none⟩).run E.P w = .ok (.enter f (xs.map a.eval)) w := by
    simp [execOp, resolve, Deferred.ofValue, h1, invoke, callFunc, f1, f2', f3']
  unfold Oper.wp
  rw [hrun]
  refine (h g.I w (xs.map a.eval) hi.mem.cell (by rw [Array.toList_map]; exact dreps_leDs (g := g) ha h2)).mono fun e' w' he => ?_
  obtain ⟨b, T, arr, cs, g', rfl, k1, k2, k3, k4, k5, k6, k7⟩ := he
  have hfr' : ∀ q ∈ bl, N ≠ q.1 := fun q hq e => by
    have := List.all_eq_true.1 hfr q hq
    rw [e] at this; simp at this
  obtain ⟨gc, p1, p2, p3⟩ := hi.mem.made k7 hfr' k3 k4 k5 k2 k6
  have hput := look_put (E := E) (g := gc) (w := w') (a := a) (s := ⟨tm, (N, cs) :: bl, ow⟩) (d := some d) (v := .ptr N 0) (y := .pointer (some ⟨b, 0, none⟩)) [] [] (fun k hk => by cases hk; exact Nat.le_of_ble_eq_true hd) hi.sz (fun t => rep_goes p1 (hi.tm t)) (by simp only [rep]; exact ⟨b, p3, rfl⟩)
  exact hk cs k1 gc _ w' ⟨p2, hput, hi.de, by simp [Act.put, hi.sz]⟩
end
theorem ptrEnd {E : En} {rs : List ResultVar} {R : AV → List AV → Prop} {s s' : St} {xs cs' : List AV} (hw : Weak E s s') (h1 : resA E.P s' rs xs) (h2 : lookB s'.bl 1000000 = some cs') (h4 : refs [] s'.ow (oneA xs) = true) (h5 : dtL cs' = true) (h3 : R (oneA xs) cs') :
    ∃ s', Weak E s s' ∧ ∃ xs cs', resA E.P s' rs xs ∧ (1000000, cs') ∈ s'.bl ∧ R (oneA xs) cs' ∧ refs [] s'.ow (oneA xs) = true ∧ dtL cs' = true := ⟨s', hw, xs, cs', h1, lookB_mem h2, h3, h4, h5⟩
theorem makeEnd {P : Program} {rs : List ResultVar} {R : List AV → Prop} {s : St} {n : Nat} {cs : List AV} (h1 : resA P s rs [.ptr n 0]) (h2 : lookB s.bl n = some cs) (h4 : dtL cs = true) (h3 : R cs) : ∃ n cs, resA P s rs [.ptr n 0] ∧ (n, cs) ∈ s.bl ∧ R cs ∧ dtL cs = true := ⟨n, cs, h1, lookB_mem h2, h3, h4⟩
/-! ### Bits -/
def bitsV (op : BinOp) (k : IntKind) (a b : Int) : Option Int :=
  match op with
  | .and => some (k.wrap ((BitVec.ofInt k.bits a &&& BitVec.ofInt k.bits b).toNat))
  | .xor => some (k.wrap ((BitVec.ofInt k.bits a ^^^ BitVec.ofInt k.bits b).toNat))
  | .or => some (k.wrap ((BitVec.ofInt k.bits a ||| BitVec.ofInt k.bits b).toNat))
  | _ => none
section
variable {E : En} {bl : List (Nat × List AV)} {tm : List (Nat × AV)} {d : Option Tmp} {ty : TypeId} {pos : String} {af : Array Edge} {gd : Option (Nat × Bool)}
theorem QV_bits {op : BinOp} {xT yT : TypeId} {x y : Operand} {k : IntKind} {a b r : Int} (hx : ev tm x = .v (.int k a)) (hy : ev tm y = .v (.int k b)) (h : bitsV op k a b = some r) :
    QV E bl tm ⟨d, .binOp op xT x y yT, ty, pos, af, gd⟩ (.v (.int k r)) [] [] :=
  QV_pure fun g w ρ hop => by
    have h1 := hop x (by simp [Op.operands])
    have h2 := hop y (by simp [Op.operands])
    rw [hx] at h1; rw [hy] at h2
    simp only [rep] at h1 h2
    refine ⟨.int k r, ?_, by simp [rep]⟩
    simp only [execOp, h1, h2]
    cases op <;> simp only [bitsV, Option.some.injEq, reduceCtorEq] at h <;> subst h <;>
      simp [eqGuard, binOp, Op.intBits]
theorem QV_shr {xT yT : TypeId} {x y : Operand} {k k' : IntKind} {a n : Int} (hx : ev tm x = .v (.int k a)) (hy : ev tm y = .v (.int k' n)) (hn : ¬ n < 0) {r : Int} (h : a.fdiv (2 ^ min n.toNat k.bits) = r) :
    QV E bl tm ⟨d, .binOp .shr xT x y yT, ty, pos, af, gd⟩ (.v (.int k r)) [] [] :=
  QV_pure fun g w ρ hop => by
    have h1 := hop x (by simp [Op.operands])
    have h2 := hop y (by simp [Op.operands])
    rw [hx] at h1; rw [hy] at h2
    simp only [rep] at h1 h2
    refine ⟨.int k r, ?_, by simp [rep]⟩
    simp only [execOp, h1, h2]
    simp [eqGuard, binOp, Op.shift, hn, h]
/-- The low byte. -/
theorem bits255 {op : BinOp} {a : Int} (h : op = .and) : ∃ r : Int, bitsV op .i64 a 255 = some r ∧ 0 ≤ r ∧ r ≤ 255 := by
  subst h
  refine ⟨_, rfl, ?_⟩
  have h : (BitVec.ofInt 64 a &&& BitVec.ofInt 64 255).toNat ≤ 255 := by
    rw [BitVec.toNat_and]
    exact Nat.and_le_right
  have e : IntKind.i64.wrap ((BitVec.ofInt IntKind.i64.bits a &&& BitVec.ofInt IntKind.i64.bits 255).toNat : Int) = IntKind.i64.wrap ((BitVec.ofInt 64 a &&& BitVec.ofInt 64 255).toNat : Int) := rfl
  rw [e, IntWalk.i64_in _ (by omega)]
  omega
theorem bitsAny (op : BinOp) (a b : Int) (h : op = .and ∨ op = .xor) : ∃ r : Int, bitsV op .i64 a b = some r := by
  rcases h with rfl | rfl <;> exact ⟨_, rfl⟩
end
end Go.Eng
