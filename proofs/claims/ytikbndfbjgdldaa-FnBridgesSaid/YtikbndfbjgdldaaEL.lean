/- A callee that writes the cells of a slice that its caller made. No program in sight. -/
import Derived.Test.YtikbndfbjgdldaaEK
namespace Go.Eng
open Go

def gM (b T : Nat) : Gh := ⟨fun _ _ => False, fun n => if n = 1000000 then some b else none, fun _ => none, fun _ => False, fun _ => T⟩
abbrev enM (P : Program) (B : Nat) (w0 : World) (nt b T : Nat) : En := ⟨P, B, w0, nt, fun c => c = b, [], fun _ _ => False, fun n c U => n = 1000000 ∧ c = b ∧ U = T⟩
/-- A value that reads so whatever the ghosts. -/
def plain : AV → Bool
  | .v _ => true
  | .top => true
  | _ => false
/-- What lies behind the slice: whole rows of plain values. -/
def MoreOk (e : Nat) (more : List (List AV)) : Prop := ∀ r ∈ more, r.length = e ∧ ∀ x ∈ r, plain x = true
/-- THE CONTRACT OF A FUNCTION THAT MARKS: the block of the slice 1000000 reads as 'rows' (and 'more' behind them), afterwards as 'rows''; nothing else that was there has changed. -/
def CallMark (P : Program) (f T e : Nat) (args : List AV) (rows rows' : List (List AV)) (r : Value) : Prop :=
  ∀ (w : World) (b : Nat) (vals arr : Array Value) (more : List (List AV)), MoreOk e more → w.heap[b]? = some (.cells arr T (0, 0)) → reps (gM b T) w (rows ++ more).flatten arr.toList → reps (gM b T) w args vals.toList →
    Calls P f vals w fun e' w' => e' = .returned r ∧ BelowM w.heap.size (fun c => c = b) w w' ∧ ∃ arr', w'.heap[b]? = some (.cells arr' T (0, 0)) ∧ ∃ g' : Gh, reps g' w' (rows' ++ more).flatten arr'.toList
/-- What it hands back, and its block. -/
def markQ (E : En) (rs : List ResultVar) (r : Value) (rows : List AV) : Exit → St → Prop
  | .normal, s => resA E.P s rs [.v r] ∧ (1000000, rows) ∈ s.bl
  | .ret, s => resA E.P s rs [.v r] ∧ (1000000, rows) ∈ s.bl
  | _, _ => False
theorem callMark {P : Program} {f nt T e : Nat} {fn : Func} {rs : Array ResultVar} {c : Code} {args : List AV} {tm : List (Nat × AV)} {rows rows' : List (List AV)} {r : Value} (hf : P.funcs[f]? = some fn) (hnt : fn.ntmps = nt) (hrs : fn.results = rs) (hb : fn.body = some c) (hn : Nat.ble args.length nt = true) (htm : iniO 0 args = some tm)
    (h : ∀ (B : Nat) (w0 : World) (b : Nat) (more : List (List AV)), MoreOk e more → W (enM P B w0 nt b T) c (markQ (enM P B w0 nt b T) rs.toList r (rows' ++ more).flatten) ⟨tm, [(1000000, (rows ++ more).flatten)], []⟩) : CallMark P f T e args rows rows' r := by
  subst hnt; subst hrs
  intro w b vals arr more hmore hh hreps hargs'
  have htm' := iniO_eq htm
  have hn' := Nat.le_of_ble_eq_true hn
  have hblt : b < w.heap.size := (Array.getElem?_eq_some_iff.1 hh).1
  let E : En := enM P w.heap.size w fn.ntmps b T
  let g : Gh := gM b T
  have hlen := reps_length hargs'
  have hgm : ∀ n c, g.m n = some c → n = 1000000 ∧ c = b := fun n c h => by
    by_cases e1 : n = 1000000
    · simp only [g, gM, e1, if_true, Option.some.injEq] at h; exact ⟨e1, h.symm⟩
    · simp only [g, gM, e1, if_false] at h; cases h
  refine calls_of_wp hf hb ?_
  refine wp_mono (h w.heap.size w b more hmore g _ w ⟨⟨BelowM.refl _ _ _, Nat.le_refl _, fun _ _ h => h.elim, fun n c h => ?_, fun _ _ h => h.elim, fun n n' c h1 h2 => (hgm n c h1).1.trans (hgm n' c h2).1.symm, fun _ _ _ h => h.elim, fun _ _ _ _ h => h.elim,
    fun n cs h => ?_, fun n c h => ?_, fun _ h => h.elim, fun _ _ h => h.elim, fun _ _ h => h.elim, fun n c U h => ?_⟩, fun t => ?_, rfl, ?_⟩) fun e a' w' hq => ?_
  · obtain ⟨rfl, rfl⟩ := hgm n c h
    exact ⟨.inr (.inr rfl), hblt⟩
  · simp only [List.mem_singleton, Prod.mk.injEq] at h
    obtain ⟨rfl, rfl⟩ := h
    exact ⟨b, arr, by simp [g, gM], hh, hreps, fun _ h => h⟩
  · obtain ⟨rfl, rfl⟩ := hgm n c h
    exact ⟨_, List.mem_singleton.2 rfl⟩
  · obtain ⟨rfl, rfl, rfl⟩ := h
    exact ⟨by simp [g, gM], rfl⟩
  · rw [← htm']
    simp only [look_zip, Nat.zero_le, if_true, Nat.sub_zero]
    rcases Nat.lt_or_ge t args.length with h1 | h1
    · obtain ⟨y, hy, hr⟩ := reps_get hargs' (List.getElem?_eq_getElem h1)
      have : t < vals.size := by simpa [← hlen] using h1
      have hy' : vals[t] = y := by simpa [this] using hy
      simp only [List.getD_eq_getElem?_getD, List.getElem?_eq_getElem h1, Option.getD_some]
      simp only [Array.getD_eq_getD_getElem?, Array.getElem?_append_left this, Array.getElem?_eq_getElem this, Option.getD_some, hy']
      exact hr
    · simp only [List.getD_eq_getElem?_getD, List.getElem?_eq_none h1, Option.getD_none, rep]
  · have : vals.size = args.length := by simpa using hlen
    simp; omega
  · obtain ⟨g', s', hq, hi⟩ := hq
    have fin : resA P s' fn.results.toList [.v r] → (1000000, (rows' ++ more).flatten) ∈ s'.bl → a'.defers = [] ∧ ∃ v, (results fn a'.tmps).run P w' = .ok v w' ∧ (Ending.returned v = .returned r ∧ BelowM w.heap.size (fun c => c = b) w w' ∧ ∃ arr', w'.heap[b]? = some (.cells arr' T (0, 0)) ∧ ∃ g' : Gh, reps g' w' (rows' ++ more).flatten arr'.toList) := by
      intro h1 h2
      obtain ⟨y, k1, k2⟩ := run_results hi h1
      have hy : y = r := by simpa only [oneA, rep] using k2
      subst hy
      obtain ⟨c, arr', m1, m2, m3, _⟩ := hi.mem.blk _ _ h2
      obtain ⟨p1, p2⟩ := hi.mem.pin 1000000 b T ⟨rfl, rfl, rfl⟩
      have : c = b := by rw [p1] at m1; exact (Option.some.inj m1).symm
      subst this
      rw [p2] at m2
      exact ⟨hi.de, y, k1, rfl, hi.mem.below, arr', m2, g', m3⟩
    cases e with
    | normal => exact fin hq.1 hq.2
    | ret => exact fin hq.1 hq.2
    | _ => exact hq.elim

/-- A variable's block (or one that is pinned) has been written by a callee. -/
theorem Mem.marked {E : En} {g : Gh} {bl : List (Nat × List AV)} {ow : List Nat} {w w' : World} (h : Mem E g bl ow w) {n b : Nat} (hn : g.m n = some b) (hro : n ∉ E.ron) {cs : List AV} {arr : Array Value} (hB : BelowM w.heap.size (fun c => c = b) w w') (hh : w'.heap[b]? = some (.cells arr (g.mt n) (0, 0)))
    (hI : ∀ o, ¬ g.I b o) (hr : reps g w' cs arr.toList) : Goes g w g w' ∧ Mem E g (setB bl n cs) ow w' := by
  have other : ∀ k, k < w.heap.size → k ≠ b → w'.heap[k]? = w.heap[k]? := fun k h1 h2 => hB.block k h1 h2
  have keeps : Keeps g.I w w' := fun k o hk => World.cell?_of_block (a := ⟨k, o, none⟩) (other k (cell_lt (h.cell k o hk)) fun e => hI o (e ▸ hk))
  have goes : Goes g w g w' := ⟨fun _ _ h => h, keeps, fun _ _ h => h, fun _ _ _ => rfl, fun k T' e rows y hy =>
    ownRep_goes (g := g) (g' := g) (fun _ _ h => h) keeps (fun _ h => ⟨h, rfl⟩) (fun k c h1 h2 => other c (h.ofr k c h1 h2).2 fun e => h.disj n k b hn h1 (e ▸ h2)) (fun _ _ _ _ _ h => h) hy⟩
  refine ⟨goes, ?_⟩
  have hbB : E.B ≤ b ∨ E.M b := (h.mfr n b hn).1.resolve_left hro
  have hsz := hB.size
  refine { below := ⟨hB.os.trans h.below.os, hB.tape.trans h.below.tape, hB.output.trans h.below.output, Nat.le_trans h.below.size hsz, fun k hk hM => ?_⟩, base := Nat.le_trans h.base hsz, cell := fun c o hc => by rw [keeps c o hc]; exact h.cell c o hc,
           mfr := fun k c hk => ⟨(h.mfr k c hk).1, Nat.lt_of_lt_of_le (h.mfr k c hk).2 hsz⟩, ofr := fun k c h1 h2 => ⟨(h.ofr k c h1 h2).1, Nat.lt_of_lt_of_le (h.ofr k c h1 h2).2 hsz⟩, minj := h.minj, oinj := h.oinj, disj := h.disj, blk := ?_, key := fun k c hk => ?_, own := h.own, inew := h.inew, iold := h.iold, pin := h.pin }
  · rw [other k (Nat.lt_of_lt_of_le hk h.base) fun e => by subst e; rcases hbB with h1 | h1 <;> first | omega | exact hM h1]
    exact h.below.block k hk hM
  · intro k ds hk
    simp only [setB, List.mem_map] at hk
    obtain ⟨⟨k', ds'⟩, hp, he⟩ := hk
    obtain ⟨c, arr', h1, h2, h3, h4⟩ := h.blk k' ds' hp
    cases hb : Nat.beq k' n
    · simp only [hb, cond_false, Prod.mk.injEq] at he
      obtain ⟨rfl, rfl⟩ := he
      have hne : c ≠ b := fun e => by
        subst e
        have := h.minj k' n c h1 hn
        rw [this] at hb; simp at hb
      exact ⟨c, arr', h1, (other c (h.mfr _ _ h1).2 hne).trans h2, reps_goes goes h3, h4⟩
    · simp only [hb, cond_true, Prod.mk.injEq] at he
      obtain ⟨rfl, rfl⟩ := he
      have e := Nat.eq_of_beq_eq_true hb
      rw [e] at h1 ⊢
      have : c = b := by rw [hn] at h1; exact (Option.some.inj h1).symm
      subst this
      exact ⟨c, arr, hn, hh, hr, h4⟩
  · obtain ⟨ds, hd⟩ := h.key k c hk
    cases hb : Nat.beq k n
    · exact ⟨ds, List.mem_map.2 ⟨_, hd, by simp only [hb, cond_false]⟩⟩
    · exact ⟨cs, List.mem_map.2 ⟨_, hd, by simp only [hb, cond_true]⟩⟩
theorem reps_plain {g g' : Gh} {w w' : World} : ∀ {xs : List AV} {ys : List Value}, (∀ x ∈ xs, plain x = true) → reps g w xs ys → reps g' w' xs ys
  | [], ys, _, h => by simpa only [reps] using h
  | x :: xs, ys, hp, h => by
    simp only [reps] at h ⊢
    obtain ⟨y, zs, e, h1, h2⟩ := h
    refine ⟨y, zs, e, ?_, reps_plain (fun z hz => hp z (by simp [hz])) h2⟩
    have := hp x (by simp)
    cases x <;> simp_all [plain, rep]
theorem refs_plain {ks os : List Nat} : ∀ {xs : List AV}, (∀ x ∈ xs, plain x = true) → refsL ks os xs = true
  | [], _ => rfl
  | x :: xs, h => by
    simp only [refsL, Bool.and_eq_true]
    refine ⟨?_, refs_plain fun y hy => h y (by simp [hy])⟩
    have := h x (by simp)
    cases x <;> simp_all [plain, refs]
/-- What is handed to a function that marks: the slice, by its pinned name. -/
inductive MkA : AV → AV → Prop where
  | v {x : Value} : MkA (.v x) (.v x)
  | arr {T e l : Nat} : MkA (.arr 1000000 T e l) (.arr 1000000 T e l)
inductive MkAs : List AV → List AV → Prop where
  | nil : MkAs [] []
  | cons {x y : AV} {xs ys : List AV} (h : MkA x y) (hs : MkAs xs ys) : MkAs (x :: xs) (y :: ys)
  | agg {cs ds xs ys : List AV} (h : MkAs cs ds) (hs : MkAs xs ys) : MkAs (.agg cs :: xs) (.agg ds :: ys)
theorem reps_mkA {g : Gh} {w : World} {b T : Nat} (hm : g.m 1000000 = some b) (ht : g.mt 1000000 = T) {xs ys : List AV} (h : MkAs xs ys) : ∀ {zs : List Value}, reps g w xs zs → reps (gM b T) w ys zs := by
  induction h with
  | nil => intro zs h; simpa only [reps] using h
  | cons hx _ ih =>
    intro zs h
    simp only [reps] at h ⊢
    obtain ⟨y, zs', e, h1, h2⟩ := h
    refine ⟨y, zs', e, ?_, ih h2⟩
    cases hx with
    | v => simpa only [rep] using h1
    | arr =>
      simp only [rep] at h1 ⊢
      obtain ⟨c, k, k1, k2, k3⟩ := h1
      rw [hm] at k1
      cases k1
      exact ⟨b, k, by simp [gM], by rw [← k2, ht]; rfl, k3⟩
  | agg _ _ ih1 ih2 =>
    intro zs h
    simp only [reps, rep] at h ⊢
    obtain ⟨y, zs', e, ⟨a, ea, h1⟩, h2⟩ := h
    exact ⟨y, zs', e, ⟨a, ea, ih1 h1⟩, ih2 h2⟩

section
variable {E : En} {ops : Array Oper} {rest : List Oper} {Q : Exit → St → Prop} {tm : List (Nat × AV)} {bl bl' : List (Nat × List AV)} {ow : List Nat} {d : Nat} {ty : TypeId} {pos : String} {af : Array Edge}
/-- A call that marks the slice that this call itself was given to mark. -/
theorem wlm {x : Operand} {xs : Array Operand} {ts : Array TypeId} {f T e b : Nat} {args : List AV} {rows rows' more : List (List AV)} {r : Value} [hf : FnOk E.P f] (h : CallMark E.P f T e args rows rows' r) (hpin : E.pin 1000000 b T) (hmore : MoreOk e more) (hx : ev tm x = .v (.func (.func f) #[] #[])) (ha : MkAs (xs.toList.map (ev tm)) args)
    (hb : lookB bl 1000000 = some (rows ++ more).flatten) (hp : ∀ x ∈ rows.flatten, plain x = true) (hp' : ∀ x ∈ rows'.flatten, plain x = true) (hs : setBO bl 1000000 (rows' ++ more).flatten = some bl') (hro : 1000000 ∉ E.ron) (hd : Nat.blt d E.nt = true)
    (hk : WL E ops rest Q ⟨(d, .v r) :: tm, bl', ow⟩) : WL E ops (⟨some d, .call ⟨.value x, xs, ts⟩, ty, pos, af, none⟩ :: rest) Q ⟨tm, bl, ow⟩ := by
  intro g a w hi
  unfold wpList
  rw [show Region.wanted ⟨some d, .call ⟨.value x, xs, ts⟩, ty, pos, af, none⟩ (yielded ops a.tmps) = true by simp [Region.wanted]]
  refine .inl ?_
  have h1 := rep_ev hi.tm x
  have h2 : reps g w (xs.toList.map (ev tm)) (xs.toList.map a.eval) := reps_map _ fun y _ => rep_ev hi.tm y
  rw [hx] at h1
  simp only [rep] at h1
  obtain ⟨fn, f1, f2, f3⟩ := hf.ok
  have f2' : fn.name ≠ "runtime.NumGoroutine" := by simpa using f2
  have f3' : fn.body ≠ none := fun e => by rw [e] at f3; simp at f3
  have hrun : (execOp a.eval ⟨some d, .call ⟨.value x, xs, ts⟩, ty, pos, af, none⟩).run E.P w = .ok (.enter f (xs.map a.eval)) w := by
    simp [execOp, resolve, Deferred.ofValue, h1, invoke, callFunc, f1, f2', f3']
  unfold Oper.wp
  rw [hrun]
  obtain ⟨p1, p2⟩ := hi.mem.pin _ _ _ hpin
  obtain ⟨c, arr, m1, m2, m3, m4⟩ := hi.mem.blk _ _ (lookB_mem hb)
  have : c = b := by rw [p1] at m1; exact (Option.some.inj m1).symm
  subst this
  rw [p2] at m2
  have pm : ∀ rs : List (List AV), (∀ x ∈ rs.flatten, plain x = true) → ∀ x ∈ (rs ++ more).flatten, plain x = true := fun rs hr x hx => by
    rw [List.flatten_append, List.mem_append] at hx
    rcases hx with hx | hx
    · exact hr x hx
    · obtain ⟨l, hl, hx⟩ := List.mem_flatten.1 hx
      exact (hmore l hl).2 x hx
  have hc := h w c (xs.map a.eval) arr more hmore m2 (reps_plain (pm rows hp) m3) (by rw [Array.toList_map]; exact reps_mkA p1 p2 ha h2)
  refine hc.mono fun e' w' he => ?_
  obtain ⟨rfl, hB, arr', n1, g', n2⟩ := he
  obtain ⟨k1, k2⟩ := hi.mem.marked p1 hro hB (by rw [p2]; exact n1) m4 (reps_plain (g' := g) (w' := w') (pm rows' hp') n2)
  rw [setBO_eq hs] at k2
  have hi' : Inv E g ⟨tm, bl', ow⟩ a w' := ⟨k2, fun t => rep_goes k1 (hi.tm t), hi.de, hi.sz⟩
  have := hi'.app (d := some d) (v := .v r) (y := r) (nb := []) (no := []) (fun k hk => by cases hk; exact Nat.le_of_ble_eq_true hd) (Goes.refl _ _) (by simpa using k2) (by simp only [rep])
  exact hk g _ w' this
end
end Go.Eng
