/- My walking engine, part 13: abstract values of Go, and the rules of a walk over them. No program in sight. -/
import Derived.Test.YtpcahgedkmgllaaGreatZ11
import Derived.Test.YtpcahgedkmgllaaGreatZ18
namespace Go.Eng
open Go Go.Conc Go.RowKit

theorem refs_look {ks os : List Nat} : ∀ {tm : List (Nat × AV)}, refsL ks os (tm.map (·.2)) = true → ∀ t, refs ks os (look tm t) = true
  | [], _, t => by simp [look, refs]
  | (k, v) :: r, h, t => by
    simp only [List.map_cons, refsL, Bool.and_eq_true] at h
    simp only [look]
    cases hb : Nat.beq k t
    · exact refs_look h.2 t
    · exact h.1
theorem rep_kept {pn : List Nat} {g g' : Gh} {w w' : World} (h7 : pn.all (fun n => Nat.blt n 7000000) = true) (hI : ∀ b o, g.I b o → g'.I b o) (hk : Keeps g.I w w') (hm : ∀ n b, n ∈ pn → g.m n = some b → g'.m n = some b ∧ g'.mt n = g.mt n) {v : AV} {y : Value} (hr : refs pn [] v = true) (h : rep g w v y) : rep g' w' v y := by
  let g1 : Gh := { g with m := fun n => if n ∈ pn then g.m n else none, ow := fun _ => False }
  have h1 : rep g1 w v y := rep_refs (g := g) (g' := g1) rfl (fun n b hn hb => by simp only [g1, hn, if_true]; exact hb) rfl (fun n hn => by cases hn) hr h
  have hg1 : ∀ n b, g1.m n = some b → n ∈ pn ∧ g.m n = some b := fun n b h => by
    by_cases e : n ∈ pn
    · exact ⟨e, by simpa only [g1, e, if_true] using h⟩
    · simp only [g1, e, if_false] at h; cases h
  refine rep_goes (g := g1) ⟨hI, hk, fun n b hn => ?_, fun n b hn => ?_, fun n T e rows y hy => hy.1.elim, fun n b k hn7 hn => ?_⟩ h1
  · obtain ⟨h2, h3⟩ := hg1 n b hn
    exact (hm n b h2 h3).1
  · obtain ⟨h2, h3⟩ := hg1 n b hn
    exact (hm n b h2 h3).2
  · have := Nat.le_of_ble_eq_true (List.all_eq_true.1 h7 n (hg1 n b hn).1)
    omega
structure Tok (pn : List Nat) (p : Nat → Nat → Nat → Prop) (x0 : CW) (I0 : Nat → Nat → Prop) (M0 : Nat → Prop) (tmps : Array Value) (tmO : List (Nat × AV)) : Prop where
  seven : pn.all (fun n => Nat.blt n 7000000) = true
  rf : refsL pn [] (tmO.map (·.2)) = true
  im : ∀ b o, I0 b o → ¬ M0 b ∧ x0.V.vis b ∧ b < x0.w.heap.size
  g0 : ∃ g : Gh, g.I = I0 ∧ (∀ t, rep g x0.w (look tmO t) (tmps.getD t undef)) ∧ ∀ n b, n ∈ pn → g.m n = some b → p n b (g.mt n)
section
variable {P : Program} {nt : Nat} {df : List Deferred} {pn : List Nat} {p : Nat → Nat → Nat → Prop} {x0 x1 : CW} {I0 I1 : Nat → Nat → Prop} {M0 M : Nat → Prop} {os : List (Nat × Obj)}
theorem Rt.keeps (hR : Rt x0 I0 M0 x1 M I1 os) {g : Gh} {s : St} {a : Act} {x : CW} (hi : Inv (Ek P nt df pn p x1 M I1) g s a x) (him : ∀ b o, I0 b o → ¬ M0 b ∧ x0.V.vis b ∧ b < x0.w.heap.size) : Keeps I0 x0.w x.w := fun b o h => by
  obtain ⟨h1, h2, h3⟩ := him b o h
  exact World.cell?_of_block (a := ⟨b, o, none⟩) ((hR.inv hi).mem.mem.below.block b h3 fun h => h.elim h1 fun h => h h2)
theorem Tok.tm {tmps : Array Value} {tmO : List (Nat × AV)} (hT : Tok pn p x0 I0 M0 tmps tmO) (hR : Rt x0 I0 M0 x1 M I1 os) {g : Gh} {s : St} {a : Act} {x : CW} (hi : Inv (Ek P nt df pn p x1 M I1) g s a x) : ∀ t, rep g x.w (look tmO t) (tmps.getD t undef) := fun t => by
  obtain ⟨g0, rfl, k1, k2⟩ := hT.g0
  exact rep_kept hT.seven (fun b o h => hi.mem.mem.iold b o (hR.old b o h)) (hR.keeps hi hT.im) (fun n b hn hb => hi.mem.mem.pin n b _ ⟨hn, k2 n b hn hb⟩) (refs_look hT.rf t) (k1 t)
theorem Rt.nest (hR : Rt x0 I0 M0 x1 M I1 os) {g : Gh} {s : St} {a : Act} {x : CW} (hi : Inv (Ek P nt df pn p x1 M I1) g s a x) : Rt x0 I0 M0 x (Ob g) g.I os ∧ Inv (Ek P nt df pn p x (Ob g) g.I) g s a x ∧ Rt x g.I (fun b => Ob g b ∨ ∃ ob, (b, ob) ∈ os) x (Ob g) g.I os := by
  have hh := hR.here hi
  obtain ⟨h1, h2, _⟩ := hR.turn (w' := x.w) (V' := x.V) (os' := os) hi (BelowM.refl _ _ _) (by rw [Rig.grow_self]) (fun q hq => ⟨(hh q hq).1, .inl ⟨_, hq⟩⟩)
  refine ⟨h1, h2, ⟨h1.al, ⟨h1.grows.rig, fun _ h => h, fun _ h => h, fun _ h => .inl h, fun _ h => .inl h, rfl⟩, BelowM.refl _ _ _, fun k h => .inr (.inl h), fun _ _ h => h, fun _ _ h => .inl h, fun q hq => ?_⟩⟩
  obtain ⟨k1, k2, _, k4, k5⟩ := h1.obs q hq
  exact ⟨k1, k2, .inr (.inr ⟨_, hq⟩), k4, k5⟩
theorem Rt.comp {x2 : CW} {I2 : Nat → Nat → Prop} {M1 M2 : Nat → Prop} {os2 : List (Nat × Obj)} (A : Rt x0 I0 M0 x1 M I1 os) (hM : ∀ k, M1 k → x0.w.heap.size ≤ k ∨ M0 k) (B : Rt x1 I1 M1 x2 M2 I2 os2) : Rt x0 I0 M0 x2 M2 I2 os2 := by
  have hs := A.below.size
  have hk : ∀ k, (x1.w.heap.size ≤ k ∨ M1 k) → x0.w.heap.size ≤ k ∨ M0 k := fun k h => h.elim (fun h => .inl (Nat.le_trans hs h)) (hM k)
  refine ⟨B.al, ⟨B.grows.rig, fun b h => B.grows.up b (A.grows.up b h), fun b h => B.grows.upm b (A.grows.upm b h), fun b h => (B.grows.dn b h).elim (A.grows.dn b) (fun h => .inr (Nat.le_trans hs h)), fun b h => (B.grows.dnm b h).elim (A.grows.dnm b) (fun h => .inr (Nat.le_trans hs h)), B.grows.ext.trans A.grows.ext⟩,
    ⟨B.below.os.trans A.below.os, B.below.tape.trans A.below.tape, B.below.output.trans A.below.output, Nat.le_trans hs B.below.size, fun k h1 h2 => (B.below.block k (Nat.lt_of_lt_of_le h1 hs) fun h => ?_).trans (A.below.block k h1 h2)⟩, fun k h => hk k (B.Mn k h), fun b o h => B.old b o (A.old b o h), fun b o h => ?_, fun q hq => ?_⟩
  · rcases h with h | h
    · rcases hM k h with h3 | h3
      · omega
      · exact h2 (.inl h3)
    · exact h2 (.inr fun h3 => h (A.grows.up k h3))
  · rcases B.new b o h with h | h
    · exact A.new b o h
    · exact .inr (hk b h)
  · obtain ⟨k1, k2, k3, k4, k5⟩ := B.obs q hq
    exact ⟨k1, k2, hk _ k3, k4, k5⟩
theorem Inv.frame {nt' : Nat} {df' : List Deferred} {pn' : List Nat} {p' : Nat → Nat → Nat → Prop} {g : Gh} {tm tm' : List (Nat × AV)} {bl : List (Nat × List AV)} {ow : List Nat} {a a' : Act} {x : CW} (hi : Inv (Ek P nt df pn p x1 M I1) g ⟨tm, bl, ow⟩ a x) (hp : ∀ n b T, n ∈ pn' → p' n b T → g.m n = some b ∧ g.mt n = T)
    (ht : ∀ t, rep g x.w (look tm' t) (a'.tmps.getD t undef)) (hd : a'.defers = df') (hs : a'.tmps.size = nt') : Inv (Ek P nt' df' pn' p' x1 M I1) g ⟨tm', bl, ow⟩ a' x :=
  ⟨⟨⟨hi.mem.mem.below, hi.mem.mem.base, hi.mem.mem.cell, hi.mem.mem.mfr, hi.mem.mem.ofr, hi.mem.mem.minj, hi.mem.mem.oinj, hi.mem.mem.disj, hi.mem.mem.blk, hi.mem.mem.key, hi.mem.mem.own, hi.mem.mem.inew, hi.mem.mem.iold, fun n b T h => hp n b T h.1 h.2⟩,
    ⟨hi.mem.vis.I, hi.mem.vis.m, hi.mem.vis.o, hi.mem.vis.sub, hi.mem.vis.lt, hi.mem.vis.up, hi.mem.vis.upm, hi.mem.vis.dn, hi.mem.vis.dnm, hi.mem.vis.nM, hi.mem.vis.ext⟩⟩, ht, hd, hs⟩
theorem im_of {g : Gh} {tm : List (Nat × AV)} {bl : List (Nat × List AV)} {a : Act} {x : CW} (hR : Rt x0 I0 M0 x1 M I1 os) (hi : Inv (Ek P nt df pn p x1 M I1) g ⟨tm, bl, []⟩ a x) : ∀ b o, g.I b o → ¬ (Ob g b ∨ ∃ ob, (b, ob) ∈ os) ∧ x.V.vis b ∧ b < x.w.heap.size := fun b o h => by
  have hm := hi.mem.mem
  refine ⟨fun hO => ?_, hi.mem.vis.I b o h, cell_lt (hm.cell b o h)⟩
  rcases hO with (⟨n, hn⟩ | ⟨n, h1, _⟩) | ⟨ob, h1⟩
  · obtain ⟨cs, hk⟩ := hm.key n b hn
    obtain ⟨b', _, k1, _, _, k4⟩ := hm.blk n cs hk
    rw [hn] at k1; cases k1
    exact k4 o h
  · have := hm.own n h1; cases this
  · obtain ⟨h2, _, h4⟩ := hR.nest hi
    exact (h4.obs _ h1).2.1 o h
end
theorem kQ_weak {E : En} {K : KL E.P} {s s' : St} {e : Exit} (hw : Weak E s s') (h : kQ E K e s') : kQ E K e s := fun L g a w hi => let ⟨g', hi'⟩ := hw g a w hi; h L g' a w hi'
theorem sq_scope {P : Program} {main : Bool} {b : Frame} {a : Act} {c : Code} {k : List Item} {cs : List Frame} {w : World} : stepG P main (G (b.atR a (.code (.scope c) :: k)) cs) w = .go (G (b.atR a (.code c :: .inScope c :: k)) cs) w := by simp [G, stepG, stepG.exec, Frame.atR]
theorem sq_inScope {P : Program} {main : Bool} {b : Frame} {a : Act} {c : Code} {k : List Item} {cs : List Frame} {w : World} : stepG P main (G (b.atR a (.inScope c :: k)) cs) w = .go (G (b.atR a k) cs) w := by simp [G, stepG, stepG.exec, Frame.atR]
theorem wpV_scope {P : Program} {L : Lg P} {c : Code} {Q : Exit → Act → CW → Prop} {a : Act} {x : CW} (h : c.wpV L Q a x) : (Code.scope c).wpV L Q a x := by
  intro b k cs hb hf hc
  refine L.silent rfl (fun _ => sq_scope) (h b (.inScope c :: k) cs hb hf fun e a' x' q => ?_)
  cases e with
  | normal => exact L.silent rfl (fun _ => sq_inScope) (hc _ _ _ q)
  | exit id' =>
    obtain ⟨k', hk', hg⟩ := hc _ _ _ q
    exact ⟨k', by simp [exitTo, hk'], hg⟩
  | ret => exact fun todo => hc _ _ _ q todo
  | goto l => exact hc _ _ _ q
  | panic ch => exact hc _ _ _ q
  | outgrown => exact hc _ _ _ q
theorem WK_scope {E : En} {c : Code} {K : KL E.P} {s : St} (h : WK E c K s) : WK E (.scope c) K s := fun L g a w hi => wpV_scope (h L g a w hi)
def iterK (P : Program) (nt : Nat) (pn : List Nat) (p : Nat → Nat → Nat → Prop) (x0 : CW) (I0 : Nat → Nat → Prop) (M0 : Nat → Prop) (l D : Nat) (fn : FuncId) (tmps : Array Value) (ps : Array Tmp) (assign body : Code) (KN KR : List (Nat × List AV) → Prop) : KL P :=
  fun _ e a x => (e = .normal ∨ e = .ret) ∧ ∃ st pe bl tm x3 M3 I3 g, Rt x0 I0 M0 x3 M3 I3 [(l, loopR fn tmps ps assign body D st pe), (D, .deferred (some []))] ∧ Inv (Ek P nt [] pn p x3 M3 I3) g ⟨tm, bl, []⟩ a x ∧ ((st = .ready ∧ pe = none ∧ KN bl) ∨ (st = .done ∧ pe = some .ret ∧ KR bl))
section
variable {P : Program} {nt : Nat} {xb x1 : CW} {Ib I1 : Nat → Nat → Prop} {Mb M : Nat → Prop} {K : KL P}
theorem WK_range {tm tmO : List (Nat × AV)} {bl : List (Nat × List AV)} {f : Operand} {ps : Array Tmp} {assign body : Code} {gf ntg : Nat} {gfn : Func} {cg : Code} {caps : List AV} (pn : List Nat) (KN KR : List (Nat × List AV) → Prop) (hR : Rt xb Ib Mb x1 M I1 []) (hf : ev tm f = .fn (.func gf) [] caps) [hfn : FnOk P gf]
    (hg : P.funcs[gf]? = some gfn) (hgn : gfn.ntmps = ntg) (hgr : gfn.results = #[]) (hgb : gfn.body = some cg) (hn : Nat.ble (caps.length + 1) ntg = true) (h7 : pn.all (fun n => Nat.blt n 7000000) = true) (hO : ∀ q ∈ tmO, look tm q.1 = q.2) (hrf : refsL pn [] (tmO.map (·.2)) = true)
    (hiter : ∀ (x0 : CW) (I0 : Nat → Nat → Prop) (M0 : Nat → Prop) (x2 : CW) (M2 : Nat → Prop) (I2 : Nat → Nat → Prop) (l D : Nat) (fn : FuncId) (tmps : Array Value) (p : Nat → Nat → Nat → Prop), Tok pn p x0 I0 M0 tmps tmO → tmps.size = nt →
      Rt x0 I0 M0 x2 M2 I2 [(l, loopR fn tmps ps assign body D .ready none), (D, .deferred (some []))] → WK (Ek P ntg [] pn p x2 M2 I2) cg (iterK P ntg pn p x0 I0 M0 l D fn tmps ps assign body KN KR) ⟨((AV.v (.func (.yield l) #[] #[]) :: caps).zipIdx 0).map (fun q => (q.2, q.1)), bl, []⟩)
    (hN : ∀ bl', KN bl' → ∀ x2 M2 I2 p D, Rt xb Ib Mb x2 M2 I2 [(D, .deferred (some []))] → kQ (Ek P nt (markD D) pn p x2 M2 I2) K .normal ⟨tmO, bl', []⟩)
    (hKR : ∀ bl', KR bl' → ∀ x2 M2 I2 p D, Rt xb Ib Mb x2 M2 I2 [(D, .deferred (some []))] → kQ (Ek P nt (markD D) pn p x2 M2 I2) K .ret ⟨tmO, bl', []⟩) : WK (Ek P nt [] [] (fun _ _ _ => False) x1 M I1) (.rangeFunc f ps assign body) K ⟨tm, bl, []⟩ := by
  intro L g a x hi
  obtain ⟨gfn', f1, f2, f3⟩ := hfn.ok
  have f2' : gfn'.name ≠ "runtime.NumGoroutine" := by simpa using f2
  have f3' : gfn'.body ≠ none := fun e => by rw [e] at f3; simp at f3
  have hcall : ∀ args w, (callFunc gf args).run P w = .ok (.enter gf args) w := fun args w => by simp [callFunc, f1, f2', f3']
  have hev : ∀ args w, (callFunc gf args).events P w #[] = #[] := fun args w => by simp [callFunc, f1, f2', f3']
  have h1 := rep_ev hi.tm f
  rw [hf] at h1
  simp only [rep] at h1
  obtain ⟨fs, lb, h2, h3, h4⟩ := h1
  have hfs : fs = #[] := Array.ext' (by simpa [reps] using h3)
  subst hfs
  obtain ⟨A0, hi1, A1⟩ := hR.nest hi
  let p : Nat → Nat → Nat → Prop := fun n b T => g.m n = some b ∧ g.mt n = T
  have htO : ∀ t, rep g x.w (look tmO t) (a.tmps.getD t undef) := (hi.only hO).tm
  have hTok : Tok pn p x g.I (fun b => Ob g b ∨ ∃ ob, (b, ob) ∈ ([] : List (Nat × Obj))) a.tmps tmO := ⟨h7, hrf, im_of hR hi, g, rfl, htO, fun n b _ h => ⟨h, rfl⟩⟩
  have hi2 : Inv (Ek P nt [] pn p x (Ob g) g.I) g ⟨tm, bl, []⟩ a x := hi1.frame (fun _ _ _ _ h => h) hi1.tm hi1.de hi1.sz
  have hMb : ∀ k, (Ob g k ∨ ∃ ob, (k, ob) ∈ ([] : List (Nat × Obj))) → xb.w.heap.size ≤ k ∨ Mb k := fun k h => by
    rcases h with h | ⟨_, h⟩
    · exact A0.Mn k h
    · cases h
  refine wpV_rangeFunc h2 hcall hev fun fn w₁ r => ?_
  obtain ⟨w2, ew2⟩ : ∃ w2, w2 = (w₁.alloc (.deferred (some []))).alloc (loopR fn a.tmps ps assign body w₁.heap.size .ready none) := ⟨_, rfl⟩
  have hsz2 : w2.heap.size = w₁.heap.size + 2 := by rw [ew2]; simp
  have hgr2 : w₁.grownBy w2 none := by
    rw [ew2]
    exact ⟨rfl, rfl, rfl, by simp; omega, fun k hk _ => (Below.heap_alloc _ _ k (by simp; omega)).trans (Below.heap_alloc _ _ k hk)⟩
  have hL2 : w2.heap[w₁.heap.size + 1]? = some (loopR fn a.tmps ps assign body w₁.heap.size .ready none) := by
    rw [ew2]; have := World.alloc_heap_new (w₁.alloc (.deferred (some []))) (loopR fn a.tmps ps assign body w₁.heap.size .ready none); rwa [World.size_alloc] at this
  have hD2 : w2.heap[w₁.heap.size]? = some (.deferred (some [])) := by
    rw [ew2]; exact (Below.heap_alloc _ _ _ (by simp)).trans (World.alloc_heap_new w₁ _)
  rw [← ew2]
  have hi3 := hi2.rely r
  obtain ⟨R3, hi4, _⟩ := A1.turn (x := ⟨x.V, w₁⟩) (w' := w2) (V' := x.V.grow w₁.heap.size (w₁.heap.size + 2)) (os' := [(w₁.heap.size + 1, loopR fn a.tmps ps assign body w₁.heap.size .ready none), (w₁.heap.size, .deferred (some []))]) hi3 (below_grown hgr2 (fun r h => by cases h)) (by rw [hsz2]) (fun q hq => by
    simp only [List.mem_cons, List.not_mem_nil, or_false] at hq
    rcases hq with rfl | rfl
    · exact ⟨hL2, .inr (by show w₁.heap.size ≤ w₁.heap.size + 1; omega)⟩
    · exact ⟨hD2, .inr (Nat.le_refl _)⟩)
  have hcaps : reps g w2 caps lb.toList := by
    have hgo := (hi2.mem.goes r)
    have := reps_goes hgo h4
    exact reps_goes (by exact (A1.turn (x := ⟨x.V, w₁⟩) (w' := w2) (V' := x.V.grow w₁.heap.size (w₁.heap.size + 2)) (os' := []) hi3 (below_grown hgr2 (fun r h => by cases h)) (by rw [hsz2]) (fun q hq => by cases hq)).2.2) this
  have hn' := Nat.le_of_ble_eq_true hn
  have hlen := reps_length hcaps
  have hi5 : Inv (Ek P ntg [] pn p ⟨x.V.grow w₁.heap.size (w₁.heap.size + 2), w2⟩ (Ob g) g.I) g ⟨((AV.v (.func (.yield (w₁.heap.size + 1)) #[] #[]) :: caps).zipIdx 0).map (fun q => (q.2, q.1)), bl, []⟩ { tmps := ((#[Value.func (.yield (w₁.heap.size + 1)) #[] #[]] : Array Value) ++ lb) ++ Array.replicate (gfn.ntmps - ((#[Value.func (.yield (w₁.heap.size + 1)) #[] #[]] : Array Value) ++ lb).size) undef, defers := [] } ⟨x.V.grow w₁.heap.size (w₁.heap.size + 2), w2⟩ := by
    obtain ⟨vals, hvals⟩ : ∃ vals : Array Value, vals = (#[Value.func (.yield (w₁.heap.size + 1)) #[] #[]] : Array Value) ++ lb := ⟨_, rfl⟩
    have hreps : reps g w2 (AV.v (.func (.yield (w₁.heap.size + 1)) #[] #[]) :: caps) vals.toList := by
      rw [hvals]
      simp only [reps, rep, Array.toList_append]
      exact ⟨_, _, rfl, rfl, hcaps⟩
    rw [← hvals]
    generalize hargs : AV.v (.func (.yield (w₁.heap.size + 1)) #[] #[]) :: caps = args at hreps ⊢
    have hal : args.length = caps.length + 1 := by rw [← hargs]; rfl
    have hlen := reps_length hreps
    refine hi4.frame (fun n b T h1 h2 => h2) (fun t => ?_) rfl ?_
    · simp only [look_zip, Nat.zero_le, if_true, Nat.sub_zero]
      rcases Nat.lt_or_ge t args.length with h1 | h1
      · obtain ⟨y, hy, hr⟩ := reps_get hreps (List.getElem?_eq_getElem h1)
        have : t < vals.size := by simpa [← hlen] using h1
        have hy' : vals[t] = y := by simpa [this] using hy
        simp only [List.getD_eq_getElem?_getD, List.getElem?_eq_getElem h1, Option.getD_some]
        simp only [Array.getD_eq_getD_getElem?, Array.getElem?_append_left this, Array.getElem?_eq_getElem this, Option.getD_some, hy']
        exact hr
      · simp only [List.getD_eq_getElem?_getD, List.getElem?_eq_none h1, Option.getD_none, rep]
    · have : vals.size = args.length := by simpa using hlen
      show (vals ++ Array.replicate (gfn.ntmps - vals.size) undef).size = ntg
      simp only [Array.size_append, Array.size_replicate]; omega
  refine ⟨gfn, cg, hg, hgb, wpV_mono (hiter x g.I _ _ (Ob g) g.I (w₁.heap.size + 1) w₁.heap.size fn a.tmps p hTok hi.sz R3 L g _ _ hi5) fun e a' x' hq => ?_⟩
  obtain ⟨he, st, pe, bl', tm', x3, M3, I3, g3, R4, hi6, hst⟩ := hq
  have hout : outV (P := P) gfn (fun _ x' => ∀ w₂, Rely x'.V x'.w w₂ → ∃ jump w', (Instr.endLoop (w₁.heap.size + 1)).run P w₂ = .ok jump w' ∧ Guar x'.V w₂ w' ((Instr.endLoop (w₁.heap.size + 1)).events P w₂ #[]) ∧
        match jump with
        | none => K L .normal { a with defers := markD w₁.heap.size ++ a.defers } ⟨x'.V.grow w₂.heap.size w'.heap.size, w'⟩
        | some .ret => K L .ret { a with defers := markD w₁.heap.size ++ a.defers } ⟨x'.V.grow w₂.heap.size w'.heap.size, w'⟩
        | _ => False) a' x' := by
    refine ⟨hi6.de, fun w₃ r₃ => ⟨.tuple #[], by simp [results, hgr], fun e he => by simp [results, hgr] at he, fun w₄ r₄ => ?_⟩⟩
    have hi7 := hi6.rely (r₃.trans r₄)
    have hl := (R4.here hi7 _ (List.mem_cons_self ..)).1
    have hne : st ≠ .busy := by rcases hst with ⟨h, _⟩ | ⟨h, _⟩ <;> rw [h] <;> decide
    have hl' : w₄.heap[w₁.heap.size + 1]? = some (.loop { state := st, pending := pe, fn, tmps := a.tmps, params := ps, assign, body, defers := w₁.heap.size }) := hl
    have hrun := run_endLoop (P := P) hl' hne
    have hevs := ev_endLoop (P := P) hl' hne
    obtain ⟨ex, hex⟩ : ∃ o : Obj, o = .loop { state := .exhausted, pending := pe, fn, tmps := a.tmps, params := ps, assign, body, defers := w₁.heap.size } := ⟨_, rfl⟩
    simp only at hrun
    rw [← hex] at hrun
    have hgr4 : w₄.grownBy (w₄.putObj (w₁.heap.size + 1) ex) (some (w₁.heap.size + 1)) := ⟨rfl, rfl, rfl, by simp, fun k _ hk => World.putObj_heap_other fun e => hk (by rw [e])⟩
    have hrow : ∀ r, some (w₁.heap.size + 1) = some r → ∃ ob, (r, ob) ∈ [(w₁.heap.size + 1, loopR fn a.tmps ps assign body w₁.heap.size st pe), (w₁.heap.size, .deferred (some []))] := fun r h => by cases h; exact ⟨_, List.mem_cons_self ..⟩
    have hgu := R4.guar (es := (Instr.endLoop (w₁.heap.size + 1)).events P w₄ #[]) hi7 hgr4 hrow (fun e he => by
      rw [hevs] at he
      simp only [List.mem_toArray, List.mem_cons, List.not_mem_nil, or_false] at he
      rcases he with rfl | rfl
      · exact ⟨_, false, rfl, _, List.mem_cons_self ..⟩
      · exact ⟨_, true, rfl, _, List.mem_cons_self ..⟩)
    obtain ⟨R5, hi8, _⟩ := R4.turn (x := ⟨x'.V, w₄⟩) (os' := [(w₁.heap.size, .deferred (some []))]) hi7 (below_grown hgr4 hrow) rfl (fun q hq => by
      simp only [List.mem_singleton] at hq
      subst hq
      exact ⟨(World.putObj_heap_other (by show w₁.heap.size ≠ w₁.heap.size + 1; omega)).trans (R4.here hi7 _ (List.mem_cons_of_mem _ (List.mem_singleton.2 rfl))).1, .inl ⟨_, List.mem_cons_of_mem _ (List.mem_singleton.2 rfl)⟩⟩)
    have R6 := A0.comp hMb R5
    have hi9 : Inv (Ek P nt (markD w₁.heap.size) pn p ⟨x'.V.grow w₄.heap.size (w₄.putObj (w₁.heap.size + 1) ex).heap.size, w₄.putObj (w₁.heap.size + 1) ex⟩ (Ob g3) g3.I) g3 ⟨tmO, bl', []⟩ { a with defers := markD w₁.heap.size ++ a.defers } ⟨x'.V.grow w₄.heap.size (w₄.putObj (w₁.heap.size + 1) ex).heap.size, w₄.putObj (w₁.heap.size + 1) ex⟩ :=
      hi8.frame (fun n b T h1 h2 => hi8.mem.mem.pin n b T ⟨h1, h2⟩) (hTok.tm R5 hi8) (by show markD _ ++ a.defers = _; rw [show a.defers = [] from hi.de]; rfl) hi.sz
    refine ⟨pe, _, hrun, hgu, ?_⟩
    rcases hst with ⟨_, rfl, hk⟩ | ⟨_, rfl, hk⟩
    · exact hN bl' hk _ _ _ p _ R6 L _ _ _ hi9
    · exact hKR bl' hk _ _ _ p _ R6 L _ _ _ hi9
  rcases he with rfl | rfl <;> exact Or.inl hout
section
variable {ρ : Operand → Value} {w : World} {d : Option Tmp} {xf xa : Operand} {ts : Array TypeId} {ty : TypeId} {pos : String} {af : Array Edge} {gd : Option (Nat × Bool)} {l D : Nat} {fn : FuncId} {tmps : Array Value} {pt : Tmp} {assign body : Code} {st : LoopState} {pe : Option Code}
theorem run_yieldOp (h : ρ xf = .func (.yield l) #[] #[]) (hl : w.heap[l]? = some (loopR fn tmps #[pt] assign body D st pe)) :
    (execOp ρ ⟨d, .call ⟨.value xf, #[xa], ts⟩, ty, pos, af, gd⟩).run P w = .ok (.round l fn (tmps.setIfInBounds pt (ρ xa)) assign body) w := by
  have := run_yield (P := P) (args := #[ρ xa]) hl (by simp)
  simp only [execOp, resolve, Deferred.ofValue, h]
  simp [invoke, go_sem, this]
theorem ev_yieldOp (h : ρ xf = .func (.yield l) #[] #[]) (hl : w.heap[l]? = some (loopR fn tmps #[pt] assign body D st pe)) :
    (execOp ρ ⟨d, .call ⟨.value xf, #[xa], ts⟩, ty, pos, af, gd⟩).events P w #[] = #[⟨.obj l, false, false⟩] := by
  have := ev_yield (P := P) (args := #[ρ xa]) hl
  simp only [execOp, resolve, Deferred.ofValue, h]
  simp [invoke, go_sem, this]
end
def rndQ (E : En) (RN RR : List (Nat × List AV) → Prop) : Exit → St → Prop := fun e s => ∃ bl', Weak E s ⟨[], bl', []⟩ ∧ ((e = .normal ∧ RN bl') ∨ (e = .ret ∧ RR bl'))
theorem WLK_yield {ntg : Nat} {x0 : CW} {I0 : Nat → Nat → Prop} {M0 : Nat → Prop} {K : KL P} {ops : Array Oper} {rest : List Oper} {tm tmO : List (Nat × AV)} {bl : List (Nat × List AV)} {xf xa : Operand} {it : AV} {ts : Array TypeId} {ty : TypeId} {pos : String} {af : Array Edge} {gd : Option (Nat × Bool)} {pt d l D : Nat} {fn : FuncId} {tmps : Array Value} {assign body : Code} {pn : List Nat} {p : Nat → Nat → Nat → Prop} (pnY : List Nat) (RN RR : List (Nat × List AV) → Prop)
    (hR : Rt x0 I0 M0 x1 M I1 [(l, loopR fn tmps #[pt] assign body D .ready none), (D, .deferred (some []))]) (hT : Tok pn p x0 I0 M0 tmps tmO) (hnt : tmps.size = nt) (hf : ev tm xf = .v (.func (.yield l) #[] #[])) (ha : ev tm xa = it) (hg : GY ops tm gd) (hd : Nat.blt d ntg = true) (hY : pn.all (fun n => pnY.contains n) = true) (h7 : pnY.all (fun n => Nat.blt n 7000000) = true)
    (hrf : refsL pnY [] (tm.map (·.2)) = true) (hpt : Nat.blt pt nt = true) (hfa : flatC assign = true) (hfb : flatC body = true)
    (hround : ∀ p' x2 M2 I2, W (Ek P nt [] pnY p' x2 M2 I2) assign (fun e s1 => e = .normal ∧ ∀ x3 M3 I3, W (Ek P nt [] pnY p' x3 M3 I3) body (rndQ (Ek P nt [] pnY p' x3 M3 I3) RN RR) s1) ⟨(pt, it) :: tmO, bl, []⟩)
    (hN : ∀ bl', RN bl' → ∀ x2 M2 I2, Rt x0 I0 M0 x2 M2 I2 [(l, loopR fn tmps #[pt] assign body D .ready none), (D, .deferred (some []))] → WLK (Ek P ntg [] pn p x2 M2 I2) ops rest K ⟨(d, .v (.bool true)) :: tm, bl', []⟩)
    (hRR : ∀ bl', RR bl' → ∀ x2 M2 I2, Rt x0 I0 M0 x2 M2 I2 [(l, loopR fn tmps #[pt] assign body D .done (some .ret)), (D, .deferred (some []))] → WLK (Ek P ntg [] pn p x2 M2 I2) ops rest K ⟨(d, .v (.bool false)) :: tm, bl', []⟩) :
    WLK (Ek P ntg [] pn p x1 M I1) ops (⟨some d, .call ⟨.value xf, #[xa], ts⟩, ty, pos, af, gd⟩ :: rest) K ⟨tm, bl, []⟩ := by
  intro L g a x hi0
  have hwant : Region.wanted ⟨some d, .call ⟨.value xf, #[xa], ts⟩, ty, pos, af, gd⟩ (yielded ops a.tmps) = true := by
    cases gd with
    | none => simp [Region.wanted]
    | some jb =>
      obtain ⟨j, b⟩ := jb
      obtain ⟨d', h1, h2⟩ := hg
      have h3 := hi0.tm d'
      rw [h2] at h3
      simp only [rep] at h3
      simp [Region.wanted, yielded_of h1 h3]
  unfold wpListV
  rw [hwant, if_pos rfl]
  intro w₁ r
  have hi := hi0.rely r
  obtain ⟨A0, hi1, C1⟩ := hR.nest hi
  have him := im_of hR hi
  obtain ⟨M', hM'⟩ : ∃ M' : Nat → Prop, M' = fun b => Ob g b ∨ ∃ ob, (b, ob) ∈ [(l, loopR fn tmps #[pt] assign body D .ready none), (D, .deferred (some []))] := ⟨_, rfl⟩
  have hMb : ∀ k, M' k → x0.w.heap.size ≤ k ∨ M0 k := fun k h => by
    rw [hM'] at h
    rcases h with h | ⟨ob, h⟩
    · exact A0.Mn k h
    · exact (A0.obs _ h).2.2.1
  rw [← hM'] at C1
  have him : ∀ b o, g.I b o → ¬ M' b ∧ x.V.vis b ∧ b < w₁.heap.size := by rw [hM']; exact him
  clear hM'
  have hl := (hR.here hi _ (List.mem_cons_self ..)).1
  have hfv := rep_ev hi.tm xf
  rw [hf] at hfv
  simp only [rep] at hfv
  have hav := rep_ev hi.tm xa
  rw [ha] at hav
  rw [run_yieldOp hfv hl, ev_yieldOp hfv hl]
  have hgl : EvO [(l, loopR fn tmps #[pt] assign body D .ready none), (D, .deferred (some []))] #[⟨.obj l, false, false⟩] := fun e he => by
    simp only [List.mem_toArray, List.mem_singleton] at he
    exact ⟨l, false, he, _, List.mem_cons_self ..⟩
  refine ⟨rfl, hR.guar (row := none) hi ⟨rfl, rfl, rfl, Nat.le_refl _, fun _ _ _ => rfl⟩ (fun r h => by cases h) hgl, hfa, hfb, ?_⟩
  obtain ⟨pY, hpY⟩ : ∃ pY : Nat → Nat → Nat → Prop, pY = fun n b T => g.m n = some b ∧ g.mt n = T := ⟨_, rfl⟩
  have hpt' := Nat.le_of_ble_eq_true hpt
  have hTt : ∀ t, rep g w₁ (look tmO t) (tmps.getD t undef) := hT.tm hR hi
  have hi2 : Inv (Ek P nt [] pnY pY ⟨x.V, w₁⟩ (Ob g) g.I) g ⟨(pt, it) :: tmO, bl, []⟩ ⟨tmps.setIfInBounds pt (a.eval xa), []⟩ ⟨x.V, w₁⟩ :=
    hi1.frame (fun n b T h1 h2 => by rw [hpY] at h2; exact h2) (look_put (E := Ek P nt [] pnY pY ⟨x.V, w₁⟩ (Ob g) g.I) (a := ⟨tmps, []⟩) (s := ⟨tmO, [], []⟩) (d := some pt) [] [] (fun k hk => by cases hk; exact hpt') hnt hTt hav) rfl (by simpa using hnt)
  refine wpV_mono (hround pY _ _ _ L g _ _ hi2) fun e a1 y1 ⟨g1, s1, ⟨he, hb⟩, hi3⟩ => ⟨he, fun w₂ r₂ => ?_⟩
  have hi4 := hi3.rely r₂
  have hl4 := (C1.here hi4 _ (List.mem_cons_self ..)).1
  have hD4 := (C1.here hi4 _ (List.mem_cons_of_mem _ (List.mem_singleton.2 rfl))).1
  have hne : D ≠ l := fun e => by
    subst e
    have h1 := hl4.symm.trans hD4
    simp [loopR] at h1
  have hev2 : ∀ {o1 : Obj} (o2 : Obj) {es : Array Event}, es = #[⟨.obj l, false, false⟩, ⟨.obj l, true, false⟩] → EvO [(l, o1), (D, o2)] es := fun o2 es hes e he => by
    rw [hes] at he
    simp only [List.mem_toArray, List.mem_cons, List.not_mem_nil, or_false] at he
    rcases he with rfl | rfl
    · exact ⟨_, false, rfl, _, List.mem_cons_self ..⟩
    · exact ⟨_, true, rfl, _, List.mem_cons_self ..⟩
  have hput : ∀ (w : World) (o : Obj), w.grownBy (w.putObj l o) (some l) := fun w o => ⟨rfl, rfl, rfl, by simp, fun k _ hk => World.putObj_heap_other fun e => hk (by rw [e])⟩
  have hrow : ∀ (o1 o2 : Obj) (r : Nat), some l = some r → ∃ ob, (r, ob) ∈ [(l, o1), (D, o2)] := fun o1 o2 r h => by cases h; exact ⟨_, List.mem_cons_self ..⟩
  have hobs : ∀ {w : World} {o1 o2 : Obj} (o3 : Obj), w.heap[l]? = some o1 → w.heap[D]? = some o2 → ∀ q ∈ [(l, o3), (D, o2)], (w.putObj l o3).heap[q.1]? = some q.2 ∧ ((∃ ob, (q.1, ob) ∈ [(l, o1), (D, o2)]) ∨ w.heap.size ≤ q.1) := fun {w o1 o2} o3 h1 h2 q hq => by
    simp only [List.mem_cons, List.not_mem_nil, or_false] at hq
    rcases hq with rfl | rfl
    · exact ⟨World.putObj_heap_same (Array.getElem?_eq_some_iff.1 h1).1, .inl ⟨_, List.mem_cons_self ..⟩⟩
    · exact ⟨(World.putObj_heap_other hne).trans h2, .inl ⟨_, List.mem_cons_of_mem _ (List.mem_singleton.2 rfl)⟩⟩
  refine ⟨_, run_beginRound (P := P) hl4 rfl, C1.guar hi4 (hput _ _) (hrow _ _) (hev2 _ (ev_begin (P := P) hl4 rfl)), ?_⟩
  obtain ⟨C5, hi5, _⟩ := C1.turn (x := ⟨y1.V, w₂⟩) hi4 (below_grown (hput _ (loopR fn tmps #[pt] assign body D .busy none)) (hrow _ _)) rfl (hobs _ hl4 hD4)
  refine wpV_mono (hb _ _ _ L g1 a1 _ hi5) fun e a3 x3 ⟨g3, s3, ⟨bl2, hw, hq⟩, hi6⟩ => ?_
  obtain ⟨g4, hi7⟩ := hw _ _ _ hi6
  have fin : ∀ (jump : Option Code) (w₃ : World), Rely x3.V x3.w w₃ → (∀ x5 M5 I5 (g5 : Gh), Rt x0 I0 M0 x5 M5 I5 [(l, loopR fn tmps #[pt] assign body D (if jump.isNone then .ready else .done) jump), (D, .deferred (some []))] → Inv (Ek P ntg [] pn p x5 M5 I5) g5 ⟨(d, .v (.bool jump.isNone)) :: tm, bl2, []⟩ (a.put (some d) (.bool jump.isNone)) x5 → wpListV L ops (K L) rest (a.put (some d) (.bool jump.isNone)) x5) →
      ∃ v w', (Instr.endRound l jump).run P w₃ = .ok v w' ∧ Guar x3.V w₃ w' ((Instr.endRound l jump).events P w₃ #[]) ∧ wpListV L ops (K L) rest (a.put (some d) v) ⟨x3.V.grow w₃.heap.size w'.heap.size, w'⟩ := by
    intro jump w₃ r₃ hk
    have hi8 := hi7.rely r₃
    have hl8 := (C5.here hi8 _ (List.mem_cons_self ..)).1
    have hD8 := (C5.here hi8 _ (List.mem_cons_of_mem _ (List.mem_singleton.2 rfl))).1
    refine ⟨_, _, run_endRound (P := P) jump hl8, C5.guar hi8 (hput _ _) (hrow _ _) (hev2 _ (ev_endRound (P := P) jump hl8)), ?_⟩
    obtain ⟨C9, hi9, _⟩ := C5.turn (x := ⟨x3.V, w₃⟩) hi8 (below_grown (hput _ (loopR fn tmps #[pt] assign body D (if jump.isNone then .ready else .done) jump)) (hrow _ _)) rfl (hobs _ hl8 hD8)
    have hpin : ∀ n b T, n ∈ pnY → g.m n = some b → g.mt n = T → g4.m n = some b ∧ g4.mt n = T := fun n b T h1 h2 h3 => hi9.mem.mem.pin n b T ⟨h1, by rw [hpY]; exact ⟨h2, h3⟩⟩
    have hsub : ∀ n ∈ pn, n ∈ pnY := fun n hn => by simpa using List.all_eq_true.1 hY n hn
    have hd' := Nat.le_of_ble_eq_true hd
    refine hk _ _ _ g4 (A0.comp hMb C9) (hi9.frame (fun n b T h1 h2 => ?_) ?_ (by exact hi.de) (by simpa [Act.put] using hi.sz))
    · obtain ⟨k1, k2⟩ := hi.mem.mem.pin n b T ⟨h1, h2⟩
      exact hpin n b T (hsub n h1) k1 k2
    · refine look_put (E := Ek P ntg [] pn p x1 M I1) (a := a) (s := ⟨tm, [], []⟩) (d := some d) [] [] (fun k hk => by cases hk; exact hd') hi.sz (fun t => ?_) (by simp [rep])
      refine rep_kept h7 (fun b o h => C9.old b o h) ?_ (fun n b hn hb => hpin n b _ hn hb rfl) (refs_look hrf t) (hi.tm t)
      exact C9.keeps hi9 him
  rcases hq with ⟨rfl, hq⟩ | ⟨rfl, hq⟩
  · intro w₃ r₃
    exact fin none w₃ r₃ fun x5 M5 I5 g5 h1 h2 => hN bl2 hq x5 M5 I5 h1 L g5 _ x5 h2
  · intro w₃ r₃
    exact fin (some .ret) w₃ r₃ fun x5 M5 I5 g5 h1 h2 => hRR bl2 hq x5 M5 I5 h1 L g5 _ x5 h2
end
end Go.Eng
