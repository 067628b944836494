/- My walking engine, part 11: abstract values of Go, and the rules of a walk over them. No program in sight. -/
import Derived.Test.YtkaffcdjhbaifaaGreatZ5
import Derived.RangeFuncNested
import Derived.RangeFuncLeaves
import Derived.RangeFuncCalls
namespace Go.Eng
open Go Go.RowKit

theorem Mem.carry {P : Program} {B : Nat} {w0 w0' : World} {nt : Nat} {M : Nat → Prop} {ron : List Nat} {I0 : Nat → Nat → Prop} {pin : Nat → Nat → Nat → Prop} {rd rd' : Option Nat} {df df' : List Deferred} {g : Gh} {bl : List (Nat × List AV)} {ow : List Nat} {w w' : World} {row : Option Nat}
    (h : Mem ⟨P, B, w0, nt, M, ron, I0, pin, rd, df⟩ g bl ow w) (hg : w.grownBy w' row) (hr : ∀ r, row = some r → ∃ o : Obj, w.heap[r]? = some o ∧ o.isCells = false) (hb : BelowM B M w0' w') :
    Mem ⟨P, B, w0', nt, M, ron, I0, pin, rd', df'⟩ g bl ow w' ∧ Goes g w g w' := by
  have keeps : Keeps g.I w w' := fun b o hI => by
    obtain ⟨v, hv⟩ := Option.isSome_iff_exists.1 (h.cell b o hI)
    rw [hv]
    exact cell_kept hv hg hr
  have hc : ∀ {k : Nat} {arr : Array Value} {T : TypeId} {fr : Nat × Nat}, w.heap[k]? = some (.cells arr T fr) → w'.heap[k]? = some (.cells arr T fr) := fun hk => (grownBy_keeps_cells hg hr hk rfl).trans hk
  have goes : Goes g w g w' := ⟨fun _ _ h => h, keeps, fun _ _ h => h, fun _ _ _ => rfl, fun n T e rows y hy => by
    obtain ⟨h1, h2, xs, h3, h4, h5, h6⟩ := hy
    refine ⟨h1, h2, xs, ⟨h3.1, ?_⟩, dreps_mono (fun _ _ h => h) keeps h4, h5, h6⟩
    rcases h3.2 with h7 | ⟨b, cap, cur, rfl, k1, k2, k3⟩
    · exact .inl h7
    · exact .inr ⟨b, cap, cur, rfl, k1, hc k2, k3⟩, fun _ _ _ _ _ ⟨A, T, k1, k2⟩ => ⟨A, T, hc k1, k2⟩⟩
  exact ⟨{ below := hb, base := Nat.le_trans h.base hg.size, cell := fun b o hI => by rw [keeps b o hI]; exact h.cell b o hI, mfr := fun n b hn => ⟨(h.mfr n b hn).1, Nat.lt_of_lt_of_le (h.mfr n b hn).2 hg.size⟩,
           ofr := fun n b h1 h2 => ⟨(h.ofr n b h1 h2).1, Nat.lt_of_lt_of_le (h.ofr n b h1 h2).2 hg.size⟩, minj := h.minj, oinj := h.oinj, disj := h.disj,
           blk := fun n cs hn => let ⟨b, arr, h1, h2, h3, h4⟩ := h.blk n cs hn; ⟨b, arr, h1, hc h2, reps_goes goes h3, h4⟩, key := h.key, own := h.own, inew := h.inew, iold := h.iold, pin := h.pin }, goes⟩

theorem Mem.re {P : Program} {B : Nat} {w0 : World} {nt : Nat} {M : Nat → Prop} {ron : List Nat} {I0 : Nat → Nat → Prop} {pin : Nat → Nat → Nat → Prop} {rd rd' : Option Nat} {df df' : List Deferred} {g : Gh} {bl : List (Nat × List AV)} {ow : List Nat} {w : World}
    (h : Mem ⟨P, B, w0, nt, M, ron, I0, pin, rd, df⟩ g bl ow w) : Mem ⟨P, B, w0, nt, M, ron, I0, pin, rd', df'⟩ g bl ow w :=
  ⟨h.below, h.base, h.cell, h.mfr, h.ofr, h.minj, h.oinj, h.disj, h.blk, h.key, h.own, h.inew, h.iold, h.pin⟩
theorem foldl_set_size : ∀ (l : List (Nat × Value)) (a : Array Value), (l.foldl (fun t p => t.setIfInBounds p.1 p.2) a).size = a.size
  | [], _ => rfl
  | p :: l, a => by rw [List.foldl_cons, foldl_set_size l]; simp
theorem afoldl_set_size {l : Array (Nat × Value)} {a : Array Value} : (l.foldl (fun t (p, v) => t.setIfInBounds p v) a).size = a.size := by
  rw [← Array.foldl_toList]; exact foldl_set_size _ _
theorem BelowM.trans' {B : Nat} {M : Nat → Prop} {a b c : World} (h : BelowM B M a b) (k : BelowM B M b c) : BelowM B M a c :=
  ⟨k.os.trans h.os, k.tape.trans h.tape, k.output.trans h.output, Nat.le_trans h.size k.size, fun j hj hM => (k.block j hj hM).trans (h.block j hj hM)⟩
theorem BelowM.grown {B : Nat} {M : Nat → Prop} {w w' : World} {row : Option Nat} (hg : w.grownBy w' row) (hB : B ≤ w.heap.size) (hr : ∀ r, row = some r → B ≤ r ∨ M r) : BelowM B M w w' :=
  ⟨hg.os, hg.tape, hg.output, hg.size, fun k hk hM => hg.block k (Nat.lt_of_lt_of_le hk hB) fun e => (hr k e.symm).elim (fun h => by omega) hM⟩
theorem BelowM.put {B : Nat} {M : Nat → Prop} {w0 w : World} (h : BelowM B M w0 w) {l : Nat} (o : Obj) (h0 : l < w0.heap.size) : BelowM B M (w0.putObj l o) (w.putObj l o) :=
  ⟨h.os, h.tape, h.output, by simpa using h.size, fun k hk hM => by
    by_cases e : k = l
    · subst e
      rw [World.putObj_heap_same h0, World.putObj_heap_same (Nat.lt_of_lt_of_le h0 h.size)]
    · rw [World.putObj_heap_other e, World.putObj_heap_other e]; exact h.block k hk hM⟩
theorem BelowM.back {B : Nat} {M : Nat → Prop} {w0 w : World} {l : Nat} {o o' : Obj} (h : BelowM B M (w0.putObj l o) w) (h0 : w0.heap[l]? = some o') : BelowM B M w0 (w.putObj l o') :=
  ⟨h.os, h.tape, h.output, by simpa using h.size, fun k hk hM => by
    have hl : l < w0.heap.size := (Array.getElem?_eq_some_iff.1 h0).1
    by_cases e : k = l
    · subst e
      rw [World.putObj_heap_same (Nat.lt_of_lt_of_le hl (by simpa using h.size)), h0]
    · rw [World.putObj_heap_other e, h.block k hk hM, World.putObj_heap_other e]⟩

def Ob (g : Gh) (b : Nat) : Prop := (∃ n, g.m n = some b) ∨ ∃ n, g.ow n ∧ g.om n = some b
abbrev E0 (P : Program) (w0 : World) (nt : Nat) (I0 : Nat → Nat → Prop) (rd : Option Nat) (df : List Deferred) : En := ⟨P, w0.heap.size, w0, nt, fun _ => False, [], I0, fun _ _ _ => False, rd, df⟩
section
variable {P : Program} {w0 : World} {nt : Nat} {I0 : Nat → Nat → Prop} {rd : Option Nat} {df : List Deferred} {g : Gh} {bl : List (Nat × List AV)} {ow : List Nat} {w : World}
theorem ob_new (h : Mem (E0 P w0 nt I0 rd df) g bl ow w) {b : Nat} (hb : Ob g b) : w0.heap.size ≤ b ∧ b < w.heap.size := by
  rcases hb with ⟨n, hn⟩ | ⟨n, h1, h2⟩
  · have h3 := (h.mfr n b hn).1
    simp only [List.not_mem_nil, false_or, or_false] at h3
    exact ⟨h3, (h.mfr n b hn).2⟩
  · have h3 := (h.ofr n b h1 h2).1
    simp only [or_false] at h3
    exact ⟨h3, (h.ofr n b h1 h2).2⟩
theorem Mem.reroot (h : Mem (E0 P w0 nt I0 rd df) g bl ow w) {pin : Nat → Nat → Nat → Prop} (hp : ∀ n b T, pin n b T → g.m n = some b ∧ g.mt n = T) (rd' : Option Nat) (df' : List Deferred) :
    Mem ⟨P, w.heap.size, w, nt, Ob g, [], g.I, pin, rd', df'⟩ g bl ow w :=
  { below := BelowM.refl _ _ _, base := Nat.le_refl _, cell := h.cell, mfr := fun n b hn => ⟨.inr (.inr (.inl ⟨n, hn⟩)), (h.mfr n b hn).2⟩, ofr := fun n b h1 h2 => ⟨.inr (.inr ⟨n, h1, h2⟩), (h.ofr n b h1 h2).2⟩,
    minj := h.minj, oinj := h.oinj, disj := h.disj, blk := h.blk, key := h.key, own := h.own, inew := fun _ _ h => .inl h, iold := fun _ _ h => h, pin := hp }
theorem Mem.unroot {g' : Gh} {bl' : List (Nat × List AV)} {ow' : List Nat} {w' w1 : World} {pin : Nat → Nat → Nat → Prop} {rd' : Option Nat} {df' : List Deferred} (h : Mem (E0 P w0 nt I0 rd df) g bl ow w)
    (h' : Mem ⟨P, w.heap.size, w1, nt, Ob g, [], g.I, pin, rd', df'⟩ g' bl' ow' w') (h1 : BelowM w0.heap.size (fun _ => False) w0 w1) (rd2 : Option Nat) (df2 : List Deferred) : Mem (E0 P w0 nt I0 rd2 df2) g' bl' ow' w' := by
  have hw := h.base
  have hO : ∀ k, (w.heap.size ≤ k ∨ Ob g k) → w0.heap.size ≤ k := fun k hk => hk.elim (fun h2 => Nat.le_trans hw h2) (fun h2 => (ob_new h h2).1)
  exact { below := ⟨h'.below.os.trans h1.os, h'.below.tape.trans h1.tape, h'.below.output.trans h1.output, Nat.le_trans h1.size h'.below.size, fun k hk _ => (h'.below.block k (Nat.lt_of_lt_of_le hk hw) (fun hOb => by have := hO k (.inr hOb); simp only at hk; omega)).trans (h1.block k hk (fun h => h))⟩
          base := Nat.le_trans hw h'.base, cell := h'.cell, mfr := fun n b hn => ⟨.inr (.inl (hO b (by have := (h'.mfr n b hn).1; simpa using this))), (h'.mfr n b hn).2⟩
          ofr := fun n b k1 k2 => ⟨.inl (hO b (by have := (h'.ofr n b k1 k2).1; simpa using this)), (h'.ofr n b k1 k2).2⟩, minj := h'.minj, oinj := h'.oinj, disj := h'.disj, blk := h'.blk, key := h'.key, own := h'.own
          inew := fun b o hI => by
            rcases h'.inew b o hI with h2 | h2
            · exact h.inew b o h2
            · exact .inr (.inl (hO b (by simpa using h2)))
          iold := fun b o hI => h'.iold b o (h.iold b o hI), pin := fun _ _ _ h => h.elim }
end

def WK (E : En) (c : Code) (K : Exit → Act → World → Prop) (s : St) : Prop := ∀ g a w, Inv E g s a w → c.wpIn (fo E.rd) 0 E.P K a w
def seqK (E : En) (y : Code) (K : Exit → Act → World → Prop) : Exit → St → Prop
  | .normal, s => WK E y K s
  | e, s => ∀ g a w, Inv E g s a w → K e a w
section
variable {E : En} {x y c : Code} {K : Exit → Act → World → Prop} {s : St}
theorem WK_seq (h : W E x (seqK E y K) s) : WK E (.seq x y) K s := fun g a w hi => wpIn_seq (wpIn_mono (h g a w hi) fun e a' w' hq => by
  obtain ⟨g', s', h1, h2⟩ := hq
  cases e with
  | normal => exact h1 g' a' w' h2
  | _ => exact h1 g' a' w' h2)
theorem WK_seqL (h : WK E x (Exit.then (fun a w => y.wpIn (fo E.rd) 0 E.P K a w) K) s) : WK E (.seq x y) K s := fun g a w hi => wpIn_seq (h g a w hi)
theorem WK_block {id : Nat} (h : WK E c (Exit.inBlock id K) s) : WK E (.block id c) K s := fun g a w hi => wpIn_block (h g a w hi)
theorem WK_weak {s' : St} (hw : Weak E s s') (h : WK E c K s') : WK E c K s := fun g a w hi => let ⟨g', hi'⟩ := hw g a w hi; h g' a w hi'
end
def callP (I0 : Nat → Nat → Prop) (w0 : World) (R : AV → Prop) : Ending → World → Prop := fun e w' => ∃ y r g', e = .returned y ∧ R r ∧ rep g' w' r y ∧ Ret I0 w0 g' w'
abbrev markK (P : Program) (fn : Func) (I0 : Nat → Nat → Prop) (w0 : World) (R : AV → Prop) : Exit → Act → World → Prop := bodyPostM (fo none) 0 P fn (callP I0 w0 R)
theorem ret_of {P : Program} {w0 : World} {nt : Nat} {I0 : Nat → Nat → Prop} {rd : Option Nat} {df : List Deferred} {g : Gh} {s : St} {a : Act} {w : World} {fn : Func} {xs : List AV} {R : AV → Prop} (hi : Inv (E0 P w0 nt I0 rd df) g s a w) (h1 : resA P s fn.results.toList xs) (h2 : R (oneA xs)) (h3 : refs [] s.ow (oneA xs) = true) :
    ∃ v, (results fn a.tmps).run P w = .ok v w ∧ callP I0 w0 R (.returned v) w := by
  obtain ⟨y, k1, k2⟩ := run_results hi h1
  let g2 : Gh := { g with m := fun _ => none }
  refine ⟨y, k1, y, oneA xs, g2, rfl, h2, rep_refs (g := g) (g' := g2) rfl (fun n b hn => by simp at hn) rfl (fun n _ h => ⟨h, rfl⟩) h3 k2, ?_⟩
  exact ⟨⟨hi.mem.below.os, hi.mem.below.tape, hi.mem.below.output, hi.mem.below.size, hi.mem.below.block⟩, hi.mem.iold, fun b o h => (hi.mem.inew b o h).imp id (fun h => h.resolve_right (fun h => h)), hi.mem.cell, fun n b h1 h2 => ⟨(hi.mem.ofr n b h1 h2).1.resolve_right (fun h => h), (hi.mem.ofr n b h1 h2).2⟩, hi.mem.oinj⟩
theorem mark_ret {P : Program} {w0 : World} {nt : Nat} {I0 : Nat → Nat → Prop} {fn : Func} {rs : Array ResultVar} {R : AV → Prop} {s : St} (hrs : fn.results = rs) (h : retQ (E0 P w0 nt I0 none []) rs.toList R .ret s) : ∀ g a w, Inv (E0 P w0 nt I0 none []) g s a w → markK P fn I0 w0 R .ret a w := by
  subst hrs
  intro g a w hi
  obtain ⟨s1, hw, xs, h1, h2, h3⟩ := h
  obtain ⟨g1, hi1⟩ := hw g a w hi
  have hd := hi1.de
  show LeavesInM _ _ _ _ _ _ a.defers .returning w
  rw [hd]
  exact ret_of hi1 h1 h2 h3
abbrev markD (D : Nat) : List Deferred := [{ target := .collected D, args := #[] }]
theorem rest_wp {P : Program} {w0 : World} {nt : Nat} {I0 : Nat → Nat → Prop} {fn : Func} {rs : Array ResultVar} {R : AV → Prop} {g : Gh} {tm : List (Nat × AV)} {bl : List (Nat × List AV)} {ow : List Nat} {tmps : Array Value} {w : World} {c : Code} {D : Nat} {rd : Option Nat} {df : List Deferred} (hrs : fn.results = rs)
    (hm : Mem (E0 P w0 nt I0 rd df) g bl ow w) (ht : ∀ t, rep g w (look tm t) (tmps.getD t undef)) (hs : tmps.size = nt) (hD : w.heap[D]? = some (.deferred (some []))) (hB : w0.heap.size ≤ D) (hO : ¬ Ob g D)
    (hW : ∀ (B : Nat) (w1 : World) (M : Nat → Prop) (I1 : Nat → Nat → Prop) (df : List Deferred), W ⟨P, B, w1, nt, M, [], I1, fun _ _ _ => False, none, df⟩ c (retQ ⟨P, B, w1, nt, M, [], I1, fun _ _ _ => False, none, df⟩ rs.toList R) ⟨tm, bl, ow⟩) :
    c.wpIn (fo none) 0 P (markK P fn I0 w0 R) { tmps := tmps, defers := markD D } w := by
  subst hrs
  have hlt : D < w.heap.size := (Array.getElem?_eq_some_iff.1 hD).1
  have hmem := hm.reroot (pin := fun _ _ _ => False) (fun _ _ _ h => h.elim) none (markD D)
  refine wpIn_mono (hW w.heap.size w (Ob g) g.I (markD D) g _ w ⟨hmem, ht, rfl, hs⟩) fun e a' w' hq => ?_
  obtain ⟨g', s', h1, h2⟩ := hq
  have fin : (∃ s1, Weak ⟨P, w.heap.size, w, nt, Ob g, [], g.I, fun _ _ _ => False, none, markD D⟩ s' s1 ∧ ∃ xs, resA P s1 fn.results.toList xs ∧ R (oneA xs) ∧ refs [] s1.ow (oneA xs) = true) → LeavesInM (fo none) 0 P fn a'.tmps (callP I0 w0 R) a'.defers .returning w' := by
    rintro ⟨s1, hw, xs, k1, k2, k3⟩
    obtain ⟨g1, hi1⟩ := hw g' a' w' h2
    have hD' : w'.heap[D]? = some (.deferred (some [])) := (hi1.mem.below.block D hlt hO).trans hD
    have hlt' : D < w'.heap.size := (Array.getElem?_eq_some_iff.1 hD').1
    have hde := hi1.de
    simp only at hde
    rw [hde]
    refine ⟨by simp, .inl ⟨D, w'.putObj D (.deferred none), rfl, run_takeDeferred hD', ?_⟩⟩
    have m0 := hm.unroot hi1.mem (hm.below) none (markD D)
    have hg := grownBy_putObj' w' D (.deferred none)
    obtain ⟨m1, go⟩ := m0.carry (rd' := none) (df' := markD D) hg (fun r e => by cases e; exact ⟨_, hD', rfl⟩) (m0.below.trans' (BelowM.grown hg m0.base (fun r e => by cases e; exact .inl hB)))
    exact ret_of (df := markD D) ⟨m1, fun t => rep_goes go (hi1.tm t), hde, hi1.sz⟩ k1 k2 k3
  cases e with
  | normal => exact fin h1
  | ret => exact fin h1
  | _ => exact h1.elim
theorem callOk_of_WK {P : Program} {f nt : Nat} {fn : Func} {rs : Array ResultVar} {c : Code} {args : List AV} {tm : List (Nat × AV)} {R : AV → Prop} (hf : P.funcs[f]? = some fn) (hnt : fn.ntmps = nt) (hrs : fn.results = rs) (hb : fn.body = some c) (hn : Nat.ble args.length nt = true)
    (htm : ((args.zipIdx 0).map fun p => (p.2, p.1)) = tm) (h : ∀ (w0 : World) (I0 : Nat → Nat → Prop) (fn : Func), fn.results = rs → WK (E0 P w0 nt I0 none []) c (markK P fn I0 w0 R) ⟨tm, [], []⟩) : CallOk P f args R := by
  subst hnt; subst htm
  intro I w vals hI hargs
  have hn' := Nat.le_of_ble_eq_true hn
  let g : Gh := ⟨I, fun _ => none, fun _ => none, fun _ => False, fun _ => 0⟩
  have hlen := dreps_length hargs
  have hargs' : reps g w args vals.toList := reps_of_dreps hargs
  refine callsIn_wide.1 (callsIn_of_wp_marks (F := fo none) (n := 0) hf hb trivial ?_ rfl)
  refine h w I fn hrs g _ w ⟨⟨BelowM.refl _ _ _, Nat.le_refl _, hI, fun n b h => by simp [g] at h, fun n b h => by simp [g] at h, fun n n' b h => by simp [g] at h, fun n n' b h => by simp [g] at h, fun n n' b h => by simp [g] at h,
    fun n cs h => by simp at h, fun n b h => by simp [g] at h, fun n h => by simp [g] at h, fun b o h => .inl h, fun b o h => h, fun n b T h => h.elim⟩, fun t => ?_, rfl, ?_⟩
  · simp only [look_zip, Nat.zero_le, if_true, Nat.sub_zero]
    rcases Nat.lt_or_ge t args.length with h1 | h1
    · obtain ⟨y, hy, hr⟩ := reps_get hargs' (List.getElem?_eq_getElem h1)
      have : t < vals.size := by simpa [← hlen] using h1
      have hy' : vals[t] = y := by simpa [this] using hy
      simp only [List.getD_eq_getElem?_getD, List.getElem?_eq_getElem h1, Option.getD_some]
      simp only [Array.getD_eq_getD_getElem?, Array.getElem?_append_left this, Array.getElem?_eq_getElem this, Option.getD_some, hy']
      exact hr
    · simp only [List.getD_eq_getElem?_getD, List.getElem?_eq_none h1, Option.getD_none, rep]
  · have : vals.size = args.length := by simpa using hlen
    simp; omega

theorem wpIn_any {rd : Option Nat} {n : Nat} {P : Program} {c : Code} {Q : Exit → Act → World → Prop} {a : Act} {w : World} (h : c.wpIn (fo rd) 0 P Q a w) : c.wpIn (fo rd) n P Q a w :=
  fun b k cs h1 h2 _ => h b k cs h1 h2 (fun d hd => by simp at hd)
def TmPin (p : Nat → Nat → Nat → Prop) (tmps : Array Value) : List (Nat × AV) → Prop
  | [] => True
  | (t, v) :: r => (match v with
    | .v x => tmps.getD t undef = x
    | .ptr n off => ∃ b T, p n b T ∧ tmps.getD t undef = .pointer (some ⟨b, off, none⟩)
    | .top => True
    | _ => False) ∧ TmPin p tmps r
theorem tmPin_rep {P : Program} {B : Nat} {w0 : World} {nt : Nat} {M : Nat → Prop} {ron : List Nat} {I0 : Nat → Nat → Prop} {p : Nat → Nat → Nat → Prop} {rd : Option Nat} {df : List Deferred} {g : Gh} {bl : List (Nat × List AV)} {ow : List Nat} {w : World} (hm : Mem ⟨P, B, w0, nt, M, ron, I0, p, rd, df⟩ g bl ow w) {tmps : Array Value} :
    ∀ {tm : List (Nat × AV)}, TmPin p tmps tm → ∀ t, rep g w (look tm t) (tmps.getD t undef)
  | [], _, t => by simp [look, rep]
  | (k, v) :: r, h, t => by
    simp only [TmPin] at h
    simp only [look]
    cases hb : Nat.beq k t
    · exact tmPin_rep hm h.2 t
    · have := Nat.eq_of_beq_eq_true hb
      subst this
      simp only [cond_true]
      have h1 := h.1
      cases v <;> simp only at h1
      case top => simp [rep]
      case v x => simp only [rep]; exact h1
      case ptr n off =>
        obtain ⟨b, T, h2, h3⟩ := h1
        simp only [rep]
        exact ⟨b, (hm.pin n b T h2).1, h3⟩
abbrev Er (P : Program) (B : Nat) (w0 : World) (nt : Nat) (M : Nat → Prop) (I0 : Nat → Nat → Prop) (pn : List Nat) (p : Nat → Nat → Nat → Prop) (l : Nat) : En := ⟨P, B, w0, nt, M, [], I0, fun n b T => n ∈ pn ∧ p n b T, some l, []⟩
def roundE (E : En) (bl : List (Nat × List AV)) (ow : List Nat) : Exit → St → Prop
  | .normal, s => ∃ tm, Weak E s ⟨tm, bl, ow⟩
  | _, _ => False
theorem range_wp {P : Program} {w0 : World} {nt : Nat} {I0 : Nat → Nat → Prop} {g : Gh} {s : St} {a : Act} {w : World} (hi : Inv (E0 P w0 nt I0 none []) g s a w) (how : s.ow = [])
    {α : Type} {f : Operand} {ps : Array Tmp} {assign body : Code} {gf : Nat} {lb : Array Value} (hf : a.eval f = .func (.func gf) #[] lb) [hfn : FnOk P gf] {encs : α → Array Value} {S Sp : List α → Prop} {N : Nat}
    (hseq : SeqStopsK Fence.wide 4 P gf lb encs (fun A C => ∀ b o, g.I b o → C.cell? ⟨b, o, none⟩ = A.cell? ⟨b, o, none⟩) S Sp N w) (hps : ∀ x, (encs x).size = ps.size)
    (pn : List Nat) (tmI : List (Nat × AV)) (hT : TmPin (fun n b T => n ∈ pn ∧ g.m n = some b ∧ g.mt n = T) a.tmps tmI) (blI : List α → List (Nat × List AV)) (owI : List α → List Nat) (h0 : ∀ (B : Nat) (w1 : World), Weak ⟨P, B, w1, nt, Ob g, [], g.I, fun n b T => n ∈ pn ∧ g.m n = some b ∧ g.mt n = T, none, []⟩ s ⟨tmI, blI [], owI []⟩)
    (ptm : α → List (Nat × AV)) (hptm : ∀ (x : α) (g' : Gh) (W : World), (∀ t, rep g' W (look tmI t) (a.tmps.getD t undef)) → ∀ t, rep g' W (look (ptm x ++ tmI) t) (((ps.zip (encs x)).foldl (fun t (p, v) => t.setIfInBounds p v) a.tmps).getD t undef))
    (hround : ∀ (pre : List α) (x : α), pre.length < N → ∀ (B : Nat) (w1 w2 : World) (M : Nat → Prop) (I1 : Nat → Nat → Prop) (p : Nat → Nat → Nat → Prop) (l : Nat),
      W (Er P B w1 nt M I1 pn p l) assign (fun e s1 => e = .normal ∧ W (Er P B w2 nt M I1 pn p l) body (roundE (Er P B w2 nt M I1 pn p l) (blI (pre ++ [x])) (owI (pre ++ [x]))) s1) ⟨ptm x ++ tmI, blI pre, owI pre⟩)
    {K : Exit → Act → World → Prop}
    (hdone : ∀ (xs : List α) (g' : Gh) (W : World) (D : Nat), S xs → Mem (E0 P w0 nt I0 none []) g' (blI xs) (owI xs) W → (∀ t, rep g' W (look tmI t) (a.tmps.getD t undef)) → a.tmps.size = nt → W.heap[D]? = some (.deferred (some [])) → w0.heap.size ≤ D → ¬ Ob g' D → K .normal { tmps := a.tmps, defers := markD D } W) :
    (Code.rangeFunc f ps assign body).wpIn (fo none) 0 P K a w := by
  obtain ⟨gfn, f1, f2, f3⟩ := hfn.ok
  have f2' : gfn.name ≠ "runtime.NumGoroutine" := by simpa using f2
  have f3' : gfn.body ≠ none := fun e => by rw [e] at f3; simp at f3
  have eg : ∀ args w, (callFunc gf args).run P w = .ok (.enter gf args) w := fun args w => by simp [callFunc, f1, f2', f3']
  have hde : a.defers = [] := hi.de
  have hsz := hi.sz
  have hbase := hi.mem.base
  refine wpIn_rangeFunc ?_
  intro fn _
  show ∃ (l : Nat) (mark : List Deferred) (w₁ : World) (d : Deferred) (w₁' : World) (f' : FuncId) (args : Array Value) (w₂ : World), (Instr.enterLoop fn a.tmps ps assign body none).run P w = .ok (l, mark) w₁ ∧ _
  obtain ⟨rec, hrec⟩ : ∃ rec : LoopState → Option Code → Loop, rec = fun st pe => { state := st, pending := pe, fn, tmps := a.tmps, params := ps, assign, body, defers := w.heap.size } := ⟨_, rfl⟩
  obtain ⟨W1, hW1⟩ : ∃ W1, (w.alloc (.deferred (some []))).alloc (.loop (rec .ready none)) = W1 := ⟨_, rfl⟩
  have hsz1 : W1.heap.size = w.heap.size + 2 := by rw [← hW1]; simp
  have hL1 : W1.heap[w.heap.size + 1]? = some (.loop (rec .ready none)) := by
    rw [← hW1]; have := World.alloc_heap_new (w.alloc (.deferred (some []))) (.loop (rec .ready none)); rwa [World.size_alloc] at this
  have hK1 : W1.heap[w.heap.size]? = some (.deferred (some [])) := by
    rw [← hW1]; exact (Below.heap_alloc _ _ _ (by simp)).trans (World.alloc_heap_new w _)
  have hgr : w.grownBy W1 none := by
    rw [← hW1]
    exact ⟨rfl, rfl, rfl, by simp; omega, fun k hk _ => (Below.heap_alloc _ _ k (by simp; omega)).trans (Below.heap_alloc _ _ k hk)⟩
  -- the state, rooted at the world in which the loop begins
  obtain ⟨m1, go1⟩ := hi.mem.carry (rd' := none) (df' := []) hgr (fun r e => by cases e) (hi.mem.below.trans' (BelowM.grown hgr hbase (fun r e => by cases e)))
  let p0 : Nat → Nat → Nat → Prop := fun n b T => n ∈ pn ∧ g.m n = some b ∧ g.mt n = T
  have m2 := m1.reroot (pin := p0) (fun n b T h => h.2) none []
  let E1 : En := ⟨P, W1.heap.size, W1, nt, Ob g, [], g.I, p0, none, []⟩
  have hlO : ∀ k, w.heap.size ≤ k → ¬ Ob g k := fun k hk hO => by have := (ob_new hi.mem hO).2; omega
  have hIO : ∀ b o, g.I b o → b < W1.heap.size ∧ ¬ Ob g b := fun b o hI => by
    refine ⟨?_, fun hO => ?_⟩
    · have := cell_lt (m1.cell b o hI); exact this
    · rcases hO with ⟨n, hn⟩ | ⟨n, h1, _⟩
      · obtain ⟨cs, hk⟩ := hi.mem.key n b hn
        obtain ⟨b', _, k1, _, _, k4⟩ := hi.mem.blk n cs hk
        rw [hn] at k1
        cases k1
        exact k4 o hI
      · have := hi.mem.own n h1
        rw [how] at this
        cases this
  let I : List α → World → Prop := fun pre W => ∃ g', Mem E1 g' (blI pre) (owI pre) W
  have hIat : ∀ pre W, I pre W → W.heap[w.heap.size + 1]? = some (.loop (rec .ready none)) ∧ W.heap[w.heap.size]? = some (.deferred (some [])) := fun pre W ⟨g', hm⟩ =>
    ⟨(hm.below.block _ (by show _ < W1.heap.size; omega) (hlO _ (by omega))).trans hL1, (hm.below.block _ (by show _ < W1.heap.size; omega) (hlO _ (by omega))).trans hK1⟩
  have hIW : I [] W1 := by
    obtain ⟨g', hi'⟩ := h0 W1.heap.size W1 g a W1 ⟨m2, fun t => rep_goes go1 (hi.tm t), hde, hsz⟩
    exact ⟨g', hi'.mem⟩
  have hlW : w.heap.size + 1 < W1.heap.size := by omega
  refine ⟨w.heap.size + 1, [{ target := .collected w.heap.size, args := #[] }], W1, { target := .fn (.func gf) lb, args := #[.func (.yield (w.heap.size + 1)) #[] #[]] }, W1, gf, #[.func (.yield (w.heap.size + 1)) #[] #[]] ++ lb, W1, ?_, ?_, fun _ _ => trivial, ?_, fun h => by simp at h, ?_⟩
  · rw [← hW1, hrec]; exact run_enterLoop_outer _ _ _ _ _
  · simp only [resolve, hf]
    simp [go_sem]
  · simp [invoke, go_sem, eg]
  refine callsIn_wide.2 (callsIn_wide.1 ((hseq (w.heap.size + 1) I (fun _ _ => False) W1 ?_ ?_ (fun _ _ _ _ h _ _ => h) ?_ hIW).mono ?_))
  · rw [← hW1]
    exact ((Below.refl _ w).alloc (Nat.le_refl _) _).alloc (by simp) _
  · rintro pre A C row ⟨g', hm⟩ hg hr
    exact ⟨g', (hm.carry hg (fun r e => let ⟨_, o, ho, hw⟩ := hr r e; ⟨o, ho, Obj.not_cells_of_walk hw⟩) (hm.below.trans' (BelowM.grown hg hm.base (fun r e => .inl (hr r e).1)))).1⟩
  · -- one round
    rintro pre x W ⟨g', hm⟩ hlen
    have hl := (hIat pre W ⟨g', hm⟩).1
    have hy := run_yield (P := P) (args := encs x) hl (by rw [hrec]; exact hps x)
    rw [hrec] at hy
    refine ⟨fn, _, assign, body, hy, roundIn_of_wpIn trivial ?_⟩
    clear hy
    let p1 : Nat → Nat → Nat → Prop := fun n b T => g.m n = some b ∧ g.mt n = T
    obtain ⟨busy, hbusy⟩ : ∃ o : Obj, o = .loop { rec .ready none with state := .busy } := ⟨_, rfl⟩
    have hw := hround pre x hlen W1.heap.size W1 (W1.putObj (w.heap.size + 1) busy) (Ob g) g.I p1 (w.heap.size + 1)
    have htm := tmPin_rep hm hT
    have hm0 : Mem (Er P W1.heap.size W1 nt (Ob g) g.I pn p1 (w.heap.size + 1)) g' (blI pre) (owI pre) W := hm.re
    refine wpIn_any (rd := some (w.heap.size + 1)) (wpIn_mono (hw g' _ W ⟨hm0, hptm x g' W htm, rfl, afoldl_set_size.trans hsz⟩) fun e a1 w1 hq => ?_)
    obtain ⟨g1, s1, ⟨rfl, hB⟩, hi1⟩ := hq
    have hl1 : w1.heap[w.heap.size + 1]? = some (.loop (rec .ready none)) := (hi1.mem.below.block _ hlW (hlO _ (by omega))).trans hL1
    have hbr := run_beginRound (P := P) hl1 (by rw [hrec])
    rw [← hbusy] at hbr
    have hgr1 := grownBy_putObj' w1 (w.heap.size + 1) busy
    obtain ⟨m5, go5⟩ := hi1.mem.carry (rd' := some (w.heap.size + 1)) (df' := []) hgr1 (fun r e => by cases e; exact ⟨_, hl1, rfl⟩) (hi1.mem.below.put busy hlW)
    refine ⟨_, hbr, wpIn_any (rd := some (w.heap.size + 1)) (wpIn_mono (hB g1 a1 _ ⟨m5, fun t => rep_goes go5 (hi1.tm t), hi1.de, hi1.sz⟩) fun e a3 w3 hq => ?_)⟩
    obtain ⟨g3, s3, h5, hi3⟩ := hq
    cases e with
    | normal =>
      obtain ⟨tm3, hwk⟩ := h5
      obtain ⟨g4, hi4⟩ := hwk g3 a3 w3 hi3
      have hl3 : w3.heap[w.heap.size + 1]? = some (.loop { rec .ready none with state := .busy }) := by
        rw [hi4.mem.below.block _ hlW (hlO _ (by omega)), World.putObj_heap_same hlW, hbusy]
      have hend := run_endRound (P := P) none hl3
      have hrr : (Obj.loop { ({ rec .ready none with state := .busy } : Loop) with state := if (none : Option Code).isNone then .ready else .done, pending := none }) = .loop (rec .ready none) := by rw [hrec]; rfl
      rw [hrr] at hend
      have hgr3 := grownBy_putObj' w3 (w.heap.size + 1) (.loop (rec .ready none))
      obtain ⟨m6, _⟩ := hi4.mem.carry (rd' := none) (df' := []) hgr3 (fun r e => by cases e; exact ⟨_, hl3, rfl⟩) (hi4.mem.below.back hL1)
      refine ⟨_, _, hend, .inl ⟨rfl, ⟨g4, m6⟩, fun b o hI => ?_⟩⟩
      obtain ⟨k1, k2⟩ := hIO b o hI
      exact World.cell?_of_block (a := ⟨b, o, none⟩) ((m6.below.block b k1 k2).trans (hm.below.block b k1 k2).symm)
    | _ => exact h5.elim
  · -- behind the iterator
    rintro e W2 ⟨⟨v, rfl⟩, (⟨xs, hS, hI⟩ | ⟨_, _, hf⟩)⟩
    · obtain ⟨hl, hk⟩ := hIat xs W2 hI
      obtain ⟨g', hm⟩ := hI
      have hend := run_endLoop (P := P) hl (by rw [hrec]; simp)
      obtain ⟨ex, hex⟩ : ∃ o : Obj, o = .loop { rec .ready none with state := .exhausted } := ⟨_, rfl⟩
      rw [← hex] at hend
      have hpd : (rec .ready none).pending = none := by rw [hrec]
      rw [hpd] at hend
      refine ⟨none, _, hend, ?_⟩
      have m7 := m1.unroot hm m1.below none []
      have hgr7 := grownBy_putObj' W2 (w.heap.size + 1) ex
      obtain ⟨m8, go8⟩ := m7.carry (rd' := none) (df' := []) hgr7 (fun r e => by cases e; exact ⟨_, hl, rfl⟩) (m7.below.trans' (BelowM.grown hgr7 m7.base (fun r e => by cases e; exact .inl (by omega))))
      have := hdone xs g' _ w.heap.size hS m8 (fun t => rep_goes go8 (tmPin_rep hm hT t)) hsz ((World.putObj_heap_other (by omega)).trans hk) hbase ?_
      · show K .normal { tmps := a.tmps, defers := [{ target := .collected w.heap.size, args := #[] }] ++ a.defers } _
        rw [hde]; exact this
      · intro hO
        have hc : W1.heap.size ≤ w.heap.size ∨ Ob g w.heap.size := by
          rcases hO with ⟨n, hn⟩ | ⟨n, h1, h2⟩
          · have := (hm.mfr n _ hn).1; simpa [E1] using this
          · have := (hm.ofr n _ h1 h2).1; simpa [E1] using this
        rcases hc with h9 | h9
        · omega
        · exact hlO _ (Nat.le_refl _) h9
    · exact hf.elim
end Go.Eng
