/- My walking engine, part 16: abstract values of Go, and the rules of a walk over them. No program in sight. -/
import Derived.Test.YtkaffcdjhbaifaaGreatZ12
import Derived.Test.YtkaffcdjhbaifaaGreatZ14
import Derived.Test.YtkaffcdjhbaifaaGreatZ7
import Derived.Test.YtkaffcdjhbaifaaGreatZ15
namespace Go.Eng
open Go Go.RowKit

theorem callP_of {P : Program} {w0 : World} {nt : Nat} {I0 : Nat → Nat → Prop} {rd : Option Nat} {df : List Deferred} {g : Gh} {s : St} {a : Act} {w : World} {y : Value} {r : AV} {R : AV → Prop} (hi : Inv (E0 P w0 nt I0 rd df) g s a w) (hr : rep g w r y) (h2 : R r) (h3 : refs [] s.ow r = true) : callP I0 w0 R (.returned y) w := by
  let g2 : Gh := { g with m := fun _ => none }
  refine ⟨y, r, g2, rfl, h2, rep_refs (g := g) (g' := g2) rfl (fun n b hn => by simp at hn) rfl (fun n _ h => ⟨h, rfl⟩) h3 hr, ?_⟩
  exact ⟨⟨hi.mem.below.os, hi.mem.below.tape, hi.mem.below.output, hi.mem.below.size, hi.mem.below.block⟩, hi.mem.iold, fun b o h => (hi.mem.inew b o h).imp id (fun h => h.resolve_right (fun h => h)), hi.mem.cell, fun n b h1 h2 => ⟨(hi.mem.ofr n b h1 h2).1.resolve_right (fun h => h), (hi.mem.ofr n b h1 h2).2⟩, hi.mem.oinj⟩
def gh0 (I : Nat → Nat → Prop) : Gh := ⟨I, fun _ => none, fun _ => none, fun _ => False, fun _ => 0⟩
theorem callsIn_of_WK {P : Program} {f nt n : Nat} {fn : Func} {rs : Array ResultVar} {c : Code} {args : List AV} {tm : List (Nat × AV)} {Rr : Ending → World → Prop} (hf : P.funcs[f]? = some fn) (hnt : fn.ntmps = nt) (hrs : fn.results = rs) (hb : fn.body = some c) (hn : Nat.ble args.length nt = true)
    (htm : ((args.zipIdx 0).map fun p => (p.2, p.1)) = tm) {I : Nat → Nat → Prop} {w : World} {vals : Array Value} (hI : ∀ b o, I b o → (w.cell? ⟨b, o, none⟩).isSome = true) (hargs : reps (gh0 I) w args vals.toList)
    (h : ∀ fn : Func, fn.results = rs → WK (E0 P w nt I none []) c (bodyPostM (fo none) 0 P fn Rr) ⟨tm, [], []⟩) : CallsIn Fence.wide n P f vals w Rr := by
  subst hnt; subst htm
  have hn' := Nat.le_of_ble_eq_true hn
  have hlen := reps_length hargs
  refine callsIn_wide.2 (callsIn_wide.1 (callsIn_of_wp_marks (F := fo none) (n := 0) hf hb trivial ?_ rfl))
  refine h fn hrs (gh0 I) _ w ⟨⟨BelowM.refl _ _ _, Nat.le_refl _, hI, fun n b h => by simp [gh0] at h, fun n b h => by simp [gh0] at h, fun n n' b h => by simp [gh0] at h, fun n n' b h => by simp [gh0] at h, fun n n' b h => by simp [gh0] at h,
    fun n cs h => by simp at h, fun n b h => by simp [gh0] at h, fun n h => by simp [gh0] at h, fun b o h => .inl h, fun b o h => h, fun n b T h => h.elim⟩, fun t => ?_, rfl, ?_⟩
  · simp only [look_zip, Nat.zero_le, if_true, Nat.sub_zero]
    rcases Nat.lt_or_ge t args.length with h1 | h1
    · obtain ⟨y, hy, hr⟩ := reps_get hargs (List.getElem?_eq_getElem h1)
      have : t < vals.size := by simpa [← hlen] using h1
      have hy' : vals[t] = y := by simpa [this] using hy
      simp only [List.getD_eq_getElem?_getD, List.getElem?_eq_getElem h1, Option.getD_some]
      simp only [Array.getD_eq_getD_getElem?, Array.getElem?_append_left this, Array.getElem?_eq_getElem this, Option.getD_some, hy']
      exact hr
    · simp only [List.getD_eq_getElem?_getD, List.getElem?_eq_none h1, Option.getD_none, rep]
  · have : vals.size = args.length := by simpa using hlen
    simp; omega
theorem leaves_none {P : Program} {fn : Func} (hrs : fn.results = #[]) {Rr : Ending → World → Prop} {a : Act} {w : World} (hd : a.defers = []) (h : Rr (.returned (.tuple #[])) w) : LeavesInM (fo none) 0 P fn a.tmps Rr a.defers .returning w := by
  rw [hd]
  show ∃ v, (results fn a.tmps).run P w = .ok v w ∧ Rr (.returned v) w
  exact ⟨_, results_none hrs _ _ _, h⟩
theorem look_raw {g : Gh} {w : World} {tmps : Array Value} : ∀ {rtm : List (Nat × Value)}, (∀ p ∈ rtm, tmps.getD p.1 undef = p.2) → ∀ t, rep g w (look (rtm.map fun p => (p.1, .v p.2)) t) (tmps.getD t undef)
  | [], _, t => by simp [look, rep]
  | p :: r, h, t => by
    simp only [List.map_cons, look]
    cases hb : Nat.beq p.1 t
    · exact look_raw (fun q hq => h q (by simp [hq])) t
    · have := Nat.eq_of_beq_eq_true hb
      simp only [cond_true, rep]
      rw [← this]; exact h p (by simp)
theorem WLK_yield {P : Program} {nt : Nat} {w0 w1 : World} {I0 I1 : Nat → Nat → Prop} {M : Nat → Prop} {os : List (Nat × Obj)} {K : Exit → Act → World → Prop} {ops : Array Oper} {rest : List Oper} {tm : List (Nat × AV)} {bl : List (Nat × List AV)} {ow : List Nat} {d dg j l m : Nat} {b : Bool} {x y : Operand} {ts : Array TypeId} {ty : TypeId} {pos : String} {af : Array Edge} {r : AV} {Post : World → Prop}
    (hR : Rt w0 I0 (fun _ => False) w1 M I1 os) (hj : (ops[j]?).bind (·.dst) = some dg) (hg : look tm dg = .v (.bool b)) (hx : ev tm x = .v (.func (.yield l) #[] #[])) (hy : ev tm y = r) (hrefs : refs [] ow r = true) (hd : Nat.blt d nt = true) (rtm : List (Nat × Value)) (hrtm : ∀ p ∈ rtm, look tm p.1 = .v p.2)
    (hY : ∀ v W1, callP I0 w0 (fun r' => r' = r) (.returned v) W1 → YieldAt Fence.wide m P l #[v] W1 fun e W' => e = .returned (.bool false) ∧ Post W')
    (hk : ∀ W', Post W' → WLK (Ek P W' nt (fun _ => False) (fun _ _ => False)) ops rest K ⟨(d, .v (.bool false)) :: rtm.map (fun p => (p.1, .v p.2)), [], []⟩) :
    WLK (Ek P w1 nt M I1) ops (⟨some d, .call ⟨.value x, #[y], ts⟩, ty, pos, af, some (j, b)⟩ :: rest) K ⟨tm, bl, ow⟩ := by
  intro g a w hi
  unfold wpListIn
  have h1 := hi.tm dg
  rw [hg] at h1
  simp only [rep] at h1
  have hw : Region.wanted ⟨some d, .call ⟨.value x, #[y], ts⟩, ty, pos, af, some (j, b)⟩ (yielded ops a.tmps) = true := by simp [Region.wanted, yielded_of hj h1]
  rw [hw]
  have hxv := rep_ev hi.tm x
  rw [hx] at hxv
  simp only [rep] at hxv
  have hyv := rep_ev hi.tm y
  rw [hy] at hyv
  obtain ⟨fn, tmps, assign, body, e1, e2⟩ := hY (a.eval y) w (callP_of (hR.inv hi) hyv rfl hrefs)
  refine ⟨fun _ _ => trivial, ?_⟩
  rw [Oper.semAt_eq _ _ _ (fun c hc => by cases hc)]
  have hrun : (execOp a.eval ⟨some d, .call ⟨.value x, #[y], ts⟩, ty, pos, af, some (j, b)⟩).run P w = .ok (.round l fn tmps assign body) w := by
    simp [execOp, resolve, Deferred.ofValue, hxv, invoke, e1]
  rw [hrun, Oper.uponIn_round]
  refine ⟨fun h => by simp at h, trivial, fun c cs _ => ?_⟩
  obtain ⟨e, w', ⟨rfl, hP⟩, hc⟩ := e2.2 c cs (by simp [Fence.room, Fence.wide])
  refine ⟨.returned (.bool false), w', ?_, hc⟩
  refine hk w' hP (gh0 fun _ _ => False) _ w' ⟨⟨BelowM.refl _ _ _, Nat.le_refl _, fun _ _ h => h.elim, fun n b h => by simp [gh0] at h, fun n b h => by simp [gh0] at h, fun n n' b h => by simp [gh0] at h, fun n n' b h => by simp [gh0] at h, fun n n' b h => by simp [gh0] at h,
    fun n cs h => by simp at h, fun n b h => by simp [gh0] at h, fun n h => by simp [gh0] at h, fun b o h => .inl h, fun b o h => h, fun n b T h => h.elim⟩, ?_, hi.de, by simp [Act.put, hi.sz]⟩
  refine look_put (E := Ek P w1 nt M I1) (s := ⟨rtm.map (fun p => (p.1, .v p.2)), [], []⟩) (d := some d) (v := .v (.bool false)) (y := .bool false) [] [] (fun k hk => by cases hk; exact Nat.le_of_ble_eq_true hd) hi.sz (look_raw fun p hp => ?_) (by simp [rep])
  have := hi.tm p.1
  rw [hrtm p hp] at this
  simpa only [rep] using this

theorem range_first {P : Program} {w0 : World} {nt : Nat} {I0 : Nat → Nat → Prop} {g : Gh} {s : St} {a : Act} {w : World} (hi : Inv (E0 P w0 nt I0 none []) g s a w) (how : s.ow = [])
    {f : Operand} {p : Tmp} {assign body : Code} {gf : Nat} {lb : Array Value} (hf : a.eval f = .func (.func gf) #[] lb) [hfn : FnOk P gf] {r r1 : AV} (k : Nat) (os : List Nat) {os1 : List Nat} (hos : ownsIn os r = true) (hr1 : ren k r = r1) (hos1 : os.map (k + ·) = os1) (hp : p < nt)
    (hseq : ∀ (l : Nat) (W1 : World) (Post : World → Prop), (∀ b o, g.I b o → (W1.cell? ⟨b, o, none⟩).isSome = true) → (∀ b o, g.I b o → W1.cell? ⟨b, o, none⟩ = w.cell? ⟨b, o, none⟩) → (∀ A C, Post A → BelowM A.heap.size (fun _ => False) A C → Post C) →
      (∀ v W2, callP g.I W1 (fun r' => r' = r) (.returned v) W2 → YieldAt Fence.wide 3 P l #[v] W2 fun e W' => e = .returned (.bool false) ∧ Post W') → CallsIn Fence.wide 4 P gf (#[.func (.yield l) #[] #[]] ++ lb) W1 fun e W' => (∃ v, e = .returned v) ∧ Post W')
    (pn : List Nat) (tmI : List (Nat × AV)) (hT : TmPin (fun n b T => n ∈ pn ∧ g.m n = some b ∧ g.mt n = T) a.tmps tmI) (blF : List (Nat × List AV)) (owF : List Nat)
    (hround : ∀ (B : Nat) (w1 w2 : World) (M : Nat → Prop) (I1 : Nat → Nat → Prop) (q : Nat → Nat → Nat → Prop) (l : Nat),
      W (Er P B w1 nt M I1 pn q l) assign (fun e s1 => e = .normal ∧ W (Er P B w2 nt M I1 pn q l) body (fun e s2 => e = .ret ∧ ∃ tm, Weak (Er P B w2 nt M I1 pn q l) s2 ⟨tm, blF, owF⟩) s1) ⟨(p, r1) :: tmI, s.bl, os1⟩)
    {fn : Func} {rs : Array ResultVar} {R : AV → Prop} {K : Exit → Act → World → Prop} (hK : ∀ a w, markK P fn I0 w0 R .ret a w → K .ret a w) (hrs : fn.results = rs) (hres : ∃ xs, resA P ⟨tmI, blF, owF⟩ rs.toList xs ∧ R (oneA xs) ∧ refs [] owF (oneA xs) = true) :
    (Code.rangeFunc f #[p] assign body).wpIn (fo none) 0 P K a w := by
  subst hrs; subst hr1; subst hos1
  obtain ⟨gfn, f1, f2, f3⟩ := hfn.ok
  have f2' : gfn.name ≠ "runtime.NumGoroutine" := by simpa using f2
  have f3' : gfn.body ≠ none := fun e => by rw [e] at f3; simp at f3
  have eg : ∀ args w, (callFunc gf args).run P w = .ok (.enter gf args) w := fun args w => by simp [callFunc, f1, f2', f3']
  have hde : a.defers = [] := hi.de
  have hsz := hi.sz
  have hbase : w0.heap.size ≤ w.heap.size := hi.mem.base
  refine wpIn_rangeFunc ?_
  intro fn' _
  show ∃ (l : Nat) (mark : List Deferred) (w₁ : World) (d : Deferred) (w₁' : World) (f' : FuncId) (args : Array Value) (w₂ : World), (Instr.enterLoop fn' a.tmps #[p] assign body none).run P w = .ok (l, mark) w₁ ∧ _
  obtain ⟨rec, hrec⟩ : ∃ rec : LoopState → Option Code → Loop, rec = fun st pe => { state := st, pending := pe, fn := fn', tmps := a.tmps, params := #[p], assign, body, defers := w.heap.size } := ⟨_, rfl⟩
  obtain ⟨W1, hW1⟩ : ∃ W1, (w.alloc (.deferred (some []))).alloc (.loop (rec .ready none)) = W1 := ⟨_, rfl⟩
  have hsz1 : W1.heap.size = w.heap.size + 2 := by rw [← hW1]; simp
  have hL1 : W1.heap[w.heap.size + 1]? = some (.loop (rec .ready none)) := by
    rw [← hW1]; have := World.alloc_heap_new (w.alloc (.deferred (some []))) (.loop (rec .ready none)); rwa [World.size_alloc] at this
  have hK1 : W1.heap[w.heap.size]? = some (.deferred (some [])) := by
    rw [← hW1]; exact (Below.heap_alloc _ _ _ (by simp)).trans (World.alloc_heap_new w _)
  have hgr : w.grownBy W1 none := by
    rw [← hW1]
    exact ⟨rfl, rfl, rfl, by simp; omega, fun k hk _ => (Below.heap_alloc _ _ k (by simp; omega)).trans (Below.heap_alloc _ _ k hk)⟩
  obtain ⟨m1, go1⟩ := hi.mem.carry (rd' := none) (df' := []) hgr (fun r e => by cases e) (hi.mem.below.trans' (BelowM.grown hgr hbase (fun r e => by cases e)))
  let p0 : Nat → Nat → Nat → Prop := fun n b T => n ∈ pn ∧ g.m n = some b ∧ g.mt n = T
  have m2 := m1.reroot (pin := p0) (fun n b T h => h.2) none []
  let E1 : En := ⟨P, W1.heap.size, W1, nt, Ob g, [], g.I, p0, none, []⟩
  have hlO : ∀ k, w.heap.size ≤ k → ¬ Ob g k := fun k hk hO => by have := (ob_new hi.mem hO).2; omega
  have hlW : w.heap.size + 1 < W1.heap.size := by omega
  obtain ⟨busy, hbusy⟩ : ∃ o : Obj, o = .loop { rec .ready none with state := .busy } := ⟨_, rfl⟩
  obtain ⟨dn, hdn⟩ : ∃ o : Obj, o = .loop { rec .ready none with state := .done, pending := some .ret } := ⟨_, rfl⟩
  obtain ⟨Wb, hWb⟩ : ∃ W, W1.putObj (w.heap.size + 1) busy = W := ⟨_, rfl⟩
  obtain ⟨Wd, hWd⟩ : ∃ W, Wb.putObj (w.heap.size + 1) dn = W := ⟨_, rfl⟩
  have hszb : Wb.heap.size = W1.heap.size := by rw [← hWb]; simp
  have hszd : Wd.heap.size = W1.heap.size := by rw [← hWd]; simp [hszb]
  have hLd : Wd.heap[w.heap.size + 1]? = some dn := by rw [← hWd]; exact World.putObj_heap_same (by omega)
  have hKd : Wd.heap[w.heap.size]? = some (.deferred (some [])) := by
    rw [← hWd, World.putObj_heap_other (by omega), ← hWb, World.putObj_heap_other (by omega)]; exact hK1
  have hbd : BelowM w0.heap.size (fun _ => False) w0 Wd := by
    have h1 := m1.below
    have h2 := h1.trans' (BelowM.grown (grownBy_putObj' W1 (w.heap.size + 1) busy) m1.base (fun r e => by cases e; exact .inl (by show w0.heap.size ≤ _; omega)))
    rw [hWb] at h2
    have h3 := h2.trans' (BelowM.grown (grownBy_putObj' Wb (w.heap.size + 1) dn) (by rw [hszb]; exact m1.base) (fun r e => by cases e; exact .inl (by show w0.heap.size ≤ _; omega)))
    rw [hWd] at h3
    exact h3
  let Post : World → Prop := fun A => ∃ g', Mem ⟨P, W1.heap.size, Wd, nt, Ob g, [], g.I, p0, none, []⟩ g' blF owF A
  refine ⟨w.heap.size + 1, [{ target := .collected w.heap.size, args := #[] }], W1, { target := .fn (.func gf) lb, args := #[.func (.yield (w.heap.size + 1)) #[] #[]] }, W1, gf, #[.func (.yield (w.heap.size + 1)) #[] #[]] ++ lb, W1, ?_, ?_, fun _ _ => trivial, ?_, fun h => by simp at h, ?_⟩
  · rw [← hW1, hrec]; exact run_enterLoop_outer _ _ _ _ _
  · simp only [resolve, hf]
    simp [go_sem]
  · simp [invoke, go_sem, eg]
  refine callsIn_wide.2 (callsIn_wide.1 ((hseq (w.heap.size + 1) W1 Post m1.cell (fun b o hI => go1.keeps b o hI) ?_ ?_).mono ?_))
  · rintro A C ⟨g', hm⟩ hb
    exact ⟨g', (hm.later hb).2⟩
  · -- the round
    rintro v W2 ⟨y, r', gC, hy, rfl, hr, hret⟩
    cases hy
    obtain ⟨gc, go2, m3, h7, h8⟩ := m2.called hret k os (fun n _ => by rw [how]; simp)
    have hl2 : W2.heap[w.heap.size + 1]? = some (.loop (rec .ready none)) := (hret.below.block _ hlW (fun h => h)).trans hL1
    have hyl := run_yield (P := P) (args := #[v]) hl2 (by rw [hrec]; rfl)
    rw [hrec] at hyl
    refine ⟨fn', _, assign, body, hyl, roundIn_of_wpIn trivial ?_⟩
    clear hyl
    let p1 : Nat → Nat → Nat → Prop := fun n b T => g.m n = some b ∧ g.mt n = T
    have hw := hround W1.heap.size W1 Wb (Ob g) g.I p1 (w.heap.size + 1)
    have htm := tmPin_rep m3 hT
    have hm0 : Mem (Er P W1.heap.size W1 nt (Ob g) g.I pn p1 (w.heap.size + 1)) gc s.bl (os.map (k + ·)) W2 := by
      have := m3.re (rd' := some (w.heap.size + 1)) (df' := [])
      rw [how, List.append_nil] at this
      exact this
    have hitem : rep gc W2 (ren k r') v := rep_ren h7 h8 hos hr
    have htm1 : ∀ t, rep gc W2 (look ((p, ren k r') :: tmI) t) (((#[p].zip #[v]).foldl (fun (t : Array Value) (p, v) => t.setIfInBounds p v) a.tmps).getD t undef) := by
      have e : ((#[p].zip #[v]).foldl (fun (t : Array Value) (p, v) => t.setIfInBounds p v) a.tmps) = a.tmps.setIfInBounds p v := by simp [Array.zip]
      rw [e]
      exact look_put (E := E1) (s := ⟨tmI, [], []⟩) (d := some p) (a := { tmps := a.tmps, defers := [] }) [] [] (fun k hk => by cases hk; exact hp) hsz htm hitem
    refine wpIn_any (rd := some (w.heap.size + 1)) (wpIn_mono (hw gc _ W2 ⟨hm0, htm1, rfl, afoldl_set_size.trans hsz⟩) fun e a1 w1 hq => ?_)
    obtain ⟨g1, s1, ⟨rfl, hB⟩, hi1⟩ := hq
    have hl1 : w1.heap[w.heap.size + 1]? = some (.loop (rec .ready none)) := (hi1.mem.below.block _ hlW (hlO _ (by omega))).trans hL1
    have hbr := run_beginRound (P := P) hl1 (by rw [hrec])
    rw [← hbusy] at hbr
    have hgr1 := grownBy_putObj' w1 (w.heap.size + 1) busy
    have hbp := hi1.mem.below.put busy hlW
    rw [hWb] at hbp
    obtain ⟨m5, go5⟩ := hi1.mem.carry (rd' := some (w.heap.size + 1)) (df' := []) hgr1 (fun r e => by cases e; exact ⟨_, hl1, rfl⟩) hbp
    refine ⟨_, hbr, wpIn_any (rd := some (w.heap.size + 1)) (wpIn_mono (hB g1 a1 _ ⟨m5, fun t => rep_goes go5 (hi1.tm t), hi1.de, hi1.sz⟩) fun e a3 w3 hq => ?_)⟩
    obtain ⟨g3, s3, ⟨rfl, tm3, hwk⟩, hi3⟩ := hq
    obtain ⟨g4, hi4⟩ := hwk g3 a3 w3 hi3
    have hlWb : w.heap.size + 1 < Wb.heap.size := by rw [hszb]; exact hlW
    have hl3 : w3.heap[w.heap.size + 1]? = some (.loop { rec .ready none with state := .busy }) := by
      rw [hi4.mem.below.block _ hlW (hlO _ (by omega)), ← hWb, World.putObj_heap_same hlW, hbusy]
    have hend := run_endRound (P := P) (some .ret) hl3
    have hrr : (Obj.loop { ({ rec .ready none with state := .busy } : Loop) with state := if (some Code.ret).isNone then .ready else .done, pending := some .ret }) = dn := by rw [hdn]; rfl
    rw [hrr] at hend
    have hgr3 := grownBy_putObj' w3 (w.heap.size + 1) dn
    have hbp3 := hi4.mem.below.put dn hlWb
    rw [hWd] at hbp3
    obtain ⟨m6, _⟩ := hi4.mem.carry (rd' := none) (df' := []) hgr3 (fun r e => by cases e; exact ⟨_, hl3, rfl⟩) hbp3
    exact ⟨_, _, hend, rfl, ⟨g4, m6⟩⟩
  · -- behind the iterator
    rintro e W3 ⟨⟨v, rfl⟩, g', hm⟩
    have hl3 : W3.heap[w.heap.size + 1]? = some dn := (hm.below.block _ hlW (hlO _ (by omega))).trans hLd
    have hk3 : W3.heap[w.heap.size]? = some (.deferred (some [])) := (hm.below.block _ (by show w.heap.size < W1.heap.size; omega) (hlO _ (Nat.le_refl _))).trans hKd
    rw [hdn] at hl3
    have hend := run_endLoop (P := P) hl3 (by simp)
    obtain ⟨ex, hex⟩ : ∃ o : Obj, o = .loop { ({ rec .ready none with state := .done, pending := some .ret } : Loop) with state := .exhausted } := ⟨_, rfl⟩
    rw [← hex] at hend
    refine ⟨some .ret, _, hend, ?_⟩
    have htm := tmPin_rep hm hT
    have m7 := m1.unroot hm hbd none []
    have hgr7 := grownBy_putObj' W3 (w.heap.size + 1) ex
    obtain ⟨m8, go8⟩ := m7.carry (rd' := none) (df' := []) hgr7 (fun r e => by cases e; exact ⟨_, hl3, rfl⟩) (m7.below.trans' (BelowM.grown hgr7 m7.base (fun r e => by cases e; exact .inl (by show w0.heap.size ≤ _; omega))))
    have hk4 : (W3.putObj (w.heap.size + 1) ex).heap[w.heap.size]? = some (.deferred (some [])) := (World.putObj_heap_other (by omega)).trans hk3
    have hgr9 := grownBy_putObj' (W3.putObj (w.heap.size + 1) ex) w.heap.size (.deferred none)
    obtain ⟨m9, go9⟩ := m8.carry (rd' := none) (df' := [{ target := .collected w.heap.size, args := #[] }]) hgr9 (fun r e => by cases e; exact ⟨_, hk4, rfl⟩) (m8.below.trans' (BelowM.grown hgr9 m8.base (fun r e => by cases e; exact .inl (by show w0.heap.size ≤ _; omega))))
    obtain ⟨xs, k1, k2, k3⟩ := hres
    refine wpIn_ret (hK _ _ ?_)
    show LeavesInM _ _ _ _ _ _ ([{ target := .collected w.heap.size, args := #[] }] ++ a.defers) .returning _
    rw [hde]
    refine ⟨by simp, .inl ⟨w.heap.size, (W3.putObj (w.heap.size + 1) ex).putObj w.heap.size (.deferred none), rfl, run_takeDeferred hk4, ?_⟩⟩
    exact ret_of (df := [{ target := .collected w.heap.size, args := #[] }]) (s := ⟨tmI, blF, owF⟩) (a := { tmps := a.tmps, defers := [{ target := .collected w.heap.size, args := #[] }] }) ⟨m9, fun t => rep_goes go9 (rep_goes go8 (htm t)), rfl, hsz⟩ k1 k2 k3
def noGo (K : Exit → Act → World → Prop) : Exit → Act → World → Prop
  | .goto _, _, _ => False
  | e, a, w => K e a w
theorem WK_scope {E : En} {c : Code} {K : Exit → Act → World → Prop} {s : St} (h : WK E c (noGo K) s) : WK E (.scope c) K s := by
  intro g a w hi b k cs hro hb hr
  have hx : ∀ id, exitTo id (.inScope c :: k) = exitTo id k := fun id => by simp [exitTo]
  have f0 : ∀ (a : Act) (w : World) (k' : List Item), (lone (b.atR a (.inScope c :: k')) cs w).fenced E.P (fo E.rd) := fun _ _ _ => fenced_calm hb hr rfl
  have f1 : (lone (b.atR a (.code (.scope c) :: k)) cs w).fenced E.P (fo E.rd) := fenced_calm hb hr rfl
  obtain ⟨e, a₁, w₁, hq, harr⟩ := h g a w hi b (.inScope c :: k) cs hro hb hr
  cases e with
  | normal => exact ⟨.normal, a₁, w₁, hq, .head f1 stepR_scope (StepsIn.trans harr (.one (f0 _ _ _) stepR_inScope))⟩
  | exit id => exact ⟨.exit id, a₁, w₁, hq, fun k' hk => .head f1 stepR_scope (harr.1 k' (by rw [hx]; exact hk)), fun h1 hk => let ⟨k₁, h2, h3⟩ := harr.2 h1 (by rw [hx]; exact hk); ⟨k₁, h2, .head f1 stepR_scope h3⟩⟩
  | goto l' => exact hq.elim
  | ret => exact ⟨_, a₁, w₁, hq, .of_steps (.one f1 stepR_scope) harr⟩
  | panic ch => exact ⟨_, a₁, w₁, hq, .of_steps (.one f1 stepR_scope) harr⟩
  | outgrown => exact ⟨_, a₁, w₁, hq, .of_steps (.one f1 stepR_scope) harr⟩
end Go.Eng
