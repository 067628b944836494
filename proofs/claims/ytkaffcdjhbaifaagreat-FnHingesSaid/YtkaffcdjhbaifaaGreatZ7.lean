/- My walking engine, part 7: abstract values of Go, and the rules of a walk over them. No program in sight. -/
import Derived.Test.YtkaffcdjhbaifaaGreatZ3
namespace Go.Eng
open Go

theorem Mem.later {E : En} {g : Gh} {bl : List (Nat × List AV)} {ow : List Nat} {w w' : World} (hm : Mem E g bl ow w) (hB : BelowM w.heap.size (fun _ => False) w w') : Goes g w g w' ∧ Mem E g bl ow w' := by
  have heap : ∀ k, k < w.heap.size → w'.heap[k]? = w.heap[k]? := fun k hk => hB.block k hk (fun h => h)
  have hsz := hB.size
  have keeps : Keeps g.I w w' := fun b o hb => World.cell?_of_block (a := ⟨b, o, none⟩) (heap b (cell_lt (hm.cell b o hb)))
  have goes : Goes g w g w' := ⟨fun _ _ h => h, keeps, fun _ _ h => h, fun _ _ _ => rfl, fun k T' e' rows' y' hy' => ownRep_goes (g := g) (g' := g) (fun _ _ h => h) keeps (fun k hk => ⟨hk, rfl⟩) (fun k b' k1 k2 => heap b' (hm.ofr k b' k1 k2).2) (fun _ _ _ _ _ h => h) hy', fun _ b _ _ _ hc => hc.same (heap b hc.lt)⟩
  exact ⟨goes, { below := ⟨hB.os.trans hm.below.os, hB.tape.trans hm.below.tape, hB.output.trans hm.below.output, Nat.le_trans hm.below.size hsz, fun k hk hM => (heap k (Nat.lt_of_lt_of_le hk hm.base)).trans (hm.below.block k hk hM)⟩
                 base := Nat.le_trans hm.base hsz, cell := fun b' o hbo => by rw [keeps b' o hbo]; exact hm.cell b' o hbo, mfr := fun k b' hk => ⟨(hm.mfr k b' hk).1, Nat.lt_of_lt_of_le (hm.mfr k b' hk).2 hsz⟩
                 ofr := fun k b' k1 k2 => ⟨(hm.ofr k b' k1 k2).1, Nat.lt_of_lt_of_le (hm.ofr k b' k1 k2).2 hsz⟩, minj := hm.minj, oinj := hm.oinj, disj := hm.disj
                 blk := fun k ds hk => let ⟨b', arr', q1, q2, q3, q4⟩ := hm.blk k ds hk; ⟨b', arr', q1, (heap b' (hm.mfr k b' q1).2).trans q2, reps_goes goes q3, q4⟩
                 key := hm.key, own := hm.own, inew := hm.inew, iold := hm.iold, pin := hm.pin }⟩
theorem Mem.adopt {E : En} {g : Gh} {bl : List (Nat × List AV)} {ow : List Nat} {w : World} (hm : Mem E g bl ow w) {N T b : Nat} {cs : List AV} {arr : Array Value} (hN : ∀ q ∈ bl, q.1 ≠ N) (hbB : E.B ≤ b) (hb : w.heap[b]? = some (.cells arr T (0, 0))) (hpl : ∀ x ∈ cs, plain x = true) (hr : reps g w cs arr.toList)
    (hfm : ∀ k, g.m k ≠ some b) (hfo : ∀ k, g.ow k → g.om k ≠ some b) (hfI : ∀ o, ¬ g.I b o) : ∃ gc, Goes g w gc w ∧ Mem E gc ((N, cs) :: bl) ow w ∧ gc.m N = some b ∧ gc.mt N = T ∧ (∀ k, k ≠ N → gc.m k = g.m k) ∧ gc.ow = g.ow ∧ gc.om = g.om ∧ gc.I = g.I := by
  have hlt : b < w.heap.size := (Array.getElem?_eq_some_iff.1 hb).1
  have hnone : g.m N = none := by
    cases hmN : g.m N with
    | none => rfl
    | some b' => obtain ⟨cs, hc⟩ := hm.key N b' hmN; exact absurd rfl (hN _ hc)
  let gc : Gh := { g with m := fun k => if k = N then some b else g.m k, mt := fun k => if k = N then T else g.mt k }
  have hmm : ∀ k b', gc.m k = some b' → (k = N ∧ b' = b) ∨ (k ≠ N ∧ g.m k = some b') := fun k b' hk => by
    by_cases e : k = N
    · simp only [gc, e, if_true, Option.some.injEq] at hk; exact .inl ⟨e, hk.symm⟩
    · simp only [gc, e, if_false] at hk; exact .inr ⟨e, hk⟩
  have goes : Goes g w gc w := by
    refine ⟨fun _ _ h => h, fun _ _ _ => rfl, fun k b' hk => ?_, fun k b' hk => ?_, fun k T' e' rows' y' hy' => ownRep_goes (g := g) (g' := gc) (fun _ _ h => h) (fun _ _ _ => rfl) (fun k hk => ⟨hk, rfl⟩) (fun k b' k1 k2 => rfl) (fun _ _ _ _ _ h => h) hy', fun _ _ _ _ _ h => h⟩
    · have : k ≠ N := fun e => by rw [e, hnone] at hk; cases hk
      simp only [gc, this, if_false]; exact hk
    · have : k ≠ N := fun e => by rw [e, hnone] at hk; cases hk
      simp only [gc, this, if_false]
  refine ⟨gc, goes, ?_, by simp only [gc, if_true], by simp only [gc, if_true], fun k hk => by simp only [gc, hk, if_false], rfl, rfl, rfl⟩
  exact { below := hm.below, base := hm.base, cell := hm.cell
          mfr := fun k b' hk => by
            rcases hmm k b' hk with ⟨rfl, rfl⟩ | ⟨_, k2⟩
            · exact ⟨.inr (.inl hbB), hlt⟩
            · exact hm.mfr k b' k2
          ofr := hm.ofr
          minj := fun k k' b' k1 k2 => by
            rcases hmm k b' k1 with ⟨rfl, rfl⟩ | ⟨_, k3⟩ <;> rcases hmm k' _ k2 with ⟨rfl, k4⟩ | ⟨_, k4⟩
            · rfl
            · exact absurd k4 (hfm k')
            · subst k4; exact absurd k3 (hfm k)
            · exact hm.minj k k' b' k3 k4
          oinj := hm.oinj
          disj := fun k k' b' k1 k2 k3 => by
            rcases hmm k b' k1 with ⟨rfl, rfl⟩ | ⟨_, k4⟩
            · exact hfo k' k2 k3
            · exact hm.disj k k' b' k4 k2 k3
          blk := fun k ds hk => by
            rcases List.mem_cons.1 hk with hk | hk
            · cases hk
              exact ⟨b, arr, by simp only [gc, if_true], by simp only [gc, if_true]; exact hb, reps_plain hpl hr, hfI⟩
            · obtain ⟨b', arr', q1, q2, q3, q4⟩ := hm.blk k ds hk
              exact ⟨b', arr', goes.m k b' q1, by rw [goes.mt k b' q1]; exact q2, reps_goes goes q3, q4⟩
          key := fun k b' hk => by
            rcases hmm k b' hk with ⟨rfl, rfl⟩ | ⟨_, k2⟩
            · exact ⟨_, List.mem_cons_self ..⟩
            · obtain ⟨cs, hc⟩ := hm.key k b' k2; exact ⟨cs, List.mem_cons_of_mem _ hc⟩
          own := hm.own, inew := hm.inew, iold := hm.iold
          pin := fun k b' T' hp => ⟨goes.m k b' (hm.pin k b' T' hp).1, (goes.mt k b' (hm.pin k b' T' hp).1).trans (hm.pin k b' T' hp).2⟩ }
section
variable {E : En} {ops : Array Oper} {rest : List Oper} {Q : Exit → St → Prop} {tm : List (Nat × AV)} {bl : List (Nat × List AV)} {ow : List Nat} {d : Nat} {ty : TypeId} {pos : String} {af : Array Edge}
end
section
variable {E : En} {bl : List (Nat × List AV)} {tm : List (Nat × AV)} {d : Option Tmp} {ty : TypeId} {pos : String} {af : Array Edge} {gd : Option (Nat × Bool)}
theorem q_call2 {x : Operand} {xs : Array Operand} {ts : Array TypeId} {f : Nat} {ys : List AV} {r v : AV} (k n n' : Nat) [hf : FnOk E.P f] (h : CallOk E.P f ys (fun r' => r' = r)) (hx : ev tm x = .v (.func (.func f) #[] #[])) (ha : LeDs (xs.toList.map (ev tm)) ys) (ho : ownsIn [n, n'] r = true) (hv : renO k r = some v) :
    QV E bl tm ⟨d, .call ⟨.value x, xs, ts⟩, ty, pos, af, gd⟩ v [] [k + n, k + n'] := by
  have := QV_call (E := E) (bl := bl) (tm := tm) (d := d) (ty := ty) (pos := pos) (af := af) (gd := gd) (ts := ts) k [n, n'] h hx ha ho
  rw [renO_eq] at hv
  rw [← Option.some.inj hv]; exact this
end
section
variable {E : En} {ops : Array Oper} {rest : List Oper} {Q : Exit → St → Prop} {tm : List (Nat × AV)} {bl : List (Nat × List AV)} {ow : List Nat} {d n n' : Nat} {op : Op} {ty : TypeId} {pos : String} {af : Array Edge} {gd : Option (Nat × Bool)} {v : AV}
theorem wln2 (h : QV E bl tm ⟨some d, op, ty, pos, af, none⟩ v [] [n, n']) (hd : Nat.blt d E.nt = true) (hf : (ow.all fun k => !Nat.beq n k && !Nat.beq n' k) = true) (hk : WL E ops rest Q ⟨(d, v) :: tm, bl, n :: n' :: ow⟩) : WL E ops (⟨some d, op, ty, pos, af, none⟩ :: rest) Q ⟨tm, bl, ow⟩ := by
  refine WL_t (s' := ⟨(d, v) :: tm, bl, n :: n' :: ow⟩) rfl (fun g a w hi next Q hn => ?_) hk
  refine wp_of_uponQ (h g w a.eval bl ow hi.mem (fun p hp => hp) (fun p hp => by simp at hp) (fun k hk hm => ?_) (fun x _ => rep_ev hi.tm x)) fun y w' hK => ?_
  · have := List.all_eq_true.1 hf k hm
    simp only [Bool.and_eq_true, Bool.not_eq_true'] at this
    simp only [List.mem_cons, List.not_mem_nil, or_false] at hk
    rcases hk with rfl | rfl
    · have := this.1; simp at this
    · have := this.2; simp at this
  · obtain ⟨g', h1, h2, h3⟩ := hK
    have hd' : ∀ k, some d = some k → k < E.nt := fun k hk => by cases hk; exact Nat.le_of_ble_eq_true hd
    have := hi.app (d := some d) (nb := []) (no := [n, n']) hd' h1 h2 h3
    exact hn _ _ _ this
end
end Go.Eng

namespace Go.Eng
open Go

def CallPtrN (P : Program) (f T e : Nat) (args cs : List AV) (R : List (List AV) → List AV → Prop) : Prop :=
  ∀ (I : Nat → Nat → Prop) (w : World) (b T0 : Nat) (vals arr : Array Value), (∀ b o, I b o → (w.cell? ⟨b, o, none⟩).isSome = true) → (∀ o, ¬ I b o) → w.heap[b]? = some (.cells arr T0 (0, 0)) → reps (gP I b T0) w cs arr.toList → reps (gP I b T0) w args vals.toList →
    Calls P f vals w fun e' w' => ∃ b2 c rows more cs' arr' arr2, ∃ g' : Gh, e' = .returned (.agg #[.slice (some ⟨b2, 0, none⟩) rows.length c]) ∧ R rows cs' ∧ RetP I b w g' w' ∧ w'.heap[b]? = some (.cells arr' T0 (0, 0)) ∧ reps g' w' cs' arr'.toList ∧ (∀ o, ¬ g'.I b o) ∧
      rows.length ≤ c ∧ c ≤ maxLen ∧ arr2.size = c * e ∧ w'.heap[b2]? = some (.cells arr2 T (0, 0)) ∧ w.heap.size ≤ b2 ∧ MoreOk e more ∧ (∀ x ∈ rows.flatten, plain x = true) ∧ reps g' w' (rows ++ more).flatten arr2.toList ∧ ∀ o, ¬ g'.I b2 o
def endN (E : En) (rs : List ResultVar) (T e : Nat) (R : List (List AV) → List AV → Prop) (s : St) : Prop :=
  ∃ s', Weak E s s' ∧ ∃ N rows more cs', resA E.P s' rs [.agg [.arr N T e rows.length]] ∧ (1000000, cs') ∈ s'.bl ∧ (N, (rows ++ more).flatten) ∈ s'.bl ∧ Nat.ble 7000000 N = true ∧ MoreOk e more ∧ (∀ x ∈ rows.flatten, plain x = true) ∧ R rows cs' ∧ dtL cs' = true
def ptrNQ (E : En) (rs : List ResultVar) (T e : Nat) (R : List (List AV) → List AV → Prop) : Exit → St → Prop
  | .normal, s => endN E rs T e R s
  | .ret, s => endN E rs T e R s
  | _, _ => False
theorem plain_more {e : Nat} {rows more : List (List AV)} (hm : MoreOk e more) (hp : ∀ x ∈ rows.flatten, plain x = true) : ∀ x ∈ (rows ++ more).flatten, plain x = true := fun x hx => by
  rw [List.flatten_append, List.mem_append] at hx
  rcases hx with hx | hx
  · exact hp x hx
  · obtain ⟨l, hl, hx⟩ := List.mem_flatten.1 hx
    exact (hm l hl).2 x hx
theorem refs_more {α : Type} {ks os : List Nat} {f : α → List AV} {l : List α} {e : Nat} {more : List (List AV)} (hm : MoreOk e more) (hf : ∀ p, refsL ks os (f p) = true) : refsL ks os (l.map f ++ more).flatten = true := refsL_flat fun r hr => by
  rcases List.mem_append.1 hr with h | h
  · obtain ⟨p, _, rfl⟩ := List.mem_map.1 h; exact hf p
  · have hp := (hm r h).2
    have : ∀ xs : List AV, (∀ x ∈ xs, plain x = true) → refsL ks os xs = true := by
      intro xs
      induction xs with
      | nil => intro _; rfl
      | cons x xs ih =>
        intro hq
        have h1 := hq x (by simp)
        simp only [refsL, Bool.and_eq_true]
        refine ⟨?_, ih fun y hy => hq y (by simp [hy])⟩
        cases x <;> simp [plain] at h1 <;> rfl
    exact this r hp
theorem callPtrN {P : Program} {f nt T e : Nat} {fn : Func} {rs : Array ResultVar} {co : Code} {args cs : List AV} {tm : List (Nat × AV)} {R : List (List AV) → List AV → Prop} (hf : P.funcs[f]? = some fn) (hnt : fn.ntmps = nt) (hrs : fn.results = rs) (hb : fn.body = some co) (hn : Nat.ble args.length nt = true) (htm : iniO 0 args = some tm)
    (h : ∀ (B : Nat) (w0 : World) (b T0 : Nat) (I0 : Nat → Nat → Prop), W (enP P B w0 nt b T0 I0) co (ptrNQ (enP P B w0 nt b T0 I0) rs.toList T e R) ⟨tm, [(1000000, cs)], []⟩) : CallPtrN P f T e args cs R := by
  subst hnt; subst hrs
  intro I w b T0 vals arr hI hIb hh hreps hargs'
  have htm' := iniO_eq htm
  have hn' := Nat.le_of_ble_eq_true hn
  have hblt : b < w.heap.size := (Array.getElem?_eq_some_iff.1 hh).1
  let E : En := enP P w.heap.size w fn.ntmps b T0 I
  let g : Gh := gP I b T0
  have hlen := reps_length hargs'
  have hgm : ∀ n c, g.m n = some c → n = 1000000 ∧ c = b := fun n c h => by
    by_cases e1 : n = 1000000
    · simp only [g, gP, e1, if_true, Option.some.injEq] at h; exact ⟨e1, h.symm⟩
    · simp only [g, gP, e1, if_false] at h; cases h
  refine calls_of_wp hf hb ?_
  refine wp_W (h w.heap.size w b T0 I g _ w ⟨⟨BelowM.refl _ _ _, Nat.le_refl _, hI, fun n c h => ?_, fun _ _ h => h.elim, fun n n' c h1 h2 => (hgm n c h1).1.trans (hgm n' c h2).1.symm, fun _ _ _ h => h.elim, fun _ _ _ _ h => h.elim,
    fun n cs h => ?_, fun n c h => ?_, fun _ h => h.elim, fun _ _ h => .inl h, fun _ _ h => h, fun n c U h => ?_⟩, fun t => ?_, rfl, ?_⟩) fun ex a' w' hq => ?_
  · obtain ⟨rfl, rfl⟩ := hgm n c h
    exact ⟨.inr (.inr rfl), hblt⟩
  · simp only [List.mem_singleton, Prod.mk.injEq] at h
    obtain ⟨rfl, rfl⟩ := h
    exact ⟨b, arr, by simp [g, gP], hh, hreps, hIb⟩
  · obtain ⟨rfl, rfl⟩ := hgm n c h
    exact ⟨_, List.mem_singleton.2 rfl⟩
  · obtain ⟨rfl, rfl, rfl⟩ := h
    exact ⟨by simp [g, gP], rfl⟩
  · rw [← htm']
    simp only [look_zip, Nat.zero_le, if_true, Nat.sub_zero]
    rcases Nat.lt_or_ge t args.length with h1 | h1
    · obtain ⟨y, hy, hr⟩ := reps_get hargs' (List.getElem?_eq_getElem h1)
      have : t < vals.size := by simpa [← hlen] using h1
      have hy' : vals[t] = y := by simpa [this] using hy
      simp only [List.getD_eq_getElem?_getD, List.getElem?_eq_getElem h1, Option.getD_some]
      simp only [Array.getD_eq_getD_getElem?, Array.getElem?_append_left this, Array.getElem?_eq_getElem this, Option.getD_some, hy']
      exact hr
    · simp only [List.getD_eq_getElem?_getD, List.getElem?_eq_none h1, Option.getD_none, rep]
  · have : vals.size = args.length := by simpa using hlen
    simp; omega
  · obtain ⟨g', s', hq, hi⟩ := hq
    have fin : endN (enP P w.heap.size w fn.ntmps b T0 I) fn.results.toList T e R s' → a'.defers = [] ∧ ∃ v, (results fn a'.tmps).run P w' = .ok v w' ∧
        ∃ b2 c rows more cs' arr' arr2, ∃ g' : Gh, Ending.returned v = .returned (.agg #[.slice (some ⟨b2, 0, none⟩) rows.length c]) ∧ R rows cs' ∧ RetP I b w g' w' ∧ w'.heap[b]? = some (.cells arr' T0 (0, 0)) ∧ reps g' w' cs' arr'.toList ∧ (∀ o, ¬ g'.I b o) ∧
          rows.length ≤ c ∧ c ≤ maxLen ∧ arr2.size = c * e ∧ w'.heap[b2]? = some (.cells arr2 T (0, 0)) ∧ w.heap.size ≤ b2 ∧ MoreOk e more ∧ (∀ x ∈ rows.flatten, plain x = true) ∧ reps g' w' (rows ++ more).flatten arr2.toList ∧ ∀ o, ¬ g'.I b2 o := by
      rintro ⟨s2, hw, N, rows, more, cs', h1, h2, h3, h4, h5, h6, h7, h8⟩
      obtain ⟨g', hi⟩ := hw g' a' w' hi
      obtain ⟨y, k1, k2⟩ := run_results hi h1
      obtain ⟨c0, arr', m1, m2, m3, m4⟩ := hi.mem.blk _ _ h2
      obtain ⟨p1, p2⟩ := hi.mem.pin 1000000 b T0 ⟨rfl, rfl, rfl⟩
      have : c0 = b := by rw [p1] at m1; exact (Option.some.inj m1).symm
      subst this
      rw [p2] at m2
      have h4' := Nat.le_of_ble_eq_true h4
      obtain ⟨b2, arr2, n1, n2, n3, n4⟩ := hi.mem.blk _ _ h3
      simp only [oneA, rep, reps] at k2
      obtain ⟨A, rfl, u, _, eA, ⟨b3, c, q1, q2, rfl, q3, _, q4⟩, rfl⟩ := k2
      have : b3 = b2 := by rw [n1] at q1; exact (Option.some.inj q1).symm
      subst this
      obtain ⟨q5, A2, T2, q6, q7⟩ := q4 h4'
      rw [n2] at q6
      cases q6
      rw [q2] at n2
      have hAe : A = #[.slice (some ⟨b3, 0, none⟩) rows.length c] := Array.ext' eA
      subst hAe
      have hne : b3 ≠ c0 := fun e => by
        subst e
        have := hi.mem.minj N 1000000 b3 n1 p1
        omega
      let g2 : Gh := { g' with m := fun _ => none }
      refine ⟨hi.de, _, k1, b3, c, rows, more, cs', arr', arr2, g2, rfl, h7,
        ⟨hi.mem.below, hi.mem.iold, fun k o h => (hi.mem.inew k o h).imp id (fun h' => h'.resolve_right (fun e => by rw [e] at h; exact m4 o h)), hi.mem.cell, fun n k h1 h2 => ⟨(hi.mem.ofr n k h1 h2).1.resolve_right (fun e => hi.mem.disj 1000000 n k (by rw [e]; exact p1) h1 h2), (hi.mem.ofr n k h1 h2).2⟩, hi.mem.oinj⟩, m2, reps_dt (g := g') (g' := g2) rfl h8 m3, m4,
        q3, q5, q7, n2, ?_, h5, h6, reps_plain (g := g') (g' := g2) (w' := w') (plain_more h5 h6) n3, n4⟩
      rcases (hi.mem.mfr N b3 n1).1 with h | h | h
      · simp at h
      · exact h
      · exact absurd h hne
    cases ex with
    | normal => exact fin hq
    | ret => exact fin hq
    | _ => exact hq.elim
section
variable {E : En} {ops : Array Oper} {rest : List Oper} {Q : Exit → St → Prop} {tm : List (Nat × AV)} {bl : List (Nat × List AV)} {ow : List Nat} {d : Nat} {ty : TypeId} {pos : String} {af : Array Edge}
theorem wlptrN {x : Operand} {xs : Array Operand} {ts : Array TypeId} {f N T e : Nat} {args cs : List AV} {R : List (List AV) → List AV → Prop} (M : Nat) [hf : FnOk E.P f] (h : CallPtrN E.P f T e args cs R) (hx : ev tm x = .v (.func (.func f) #[] #[])) (ha : PtA N (xs.toList.map (ev tm)) args) (hb : lookB bl N = some cs) (hcs : dtL cs = true) (hro : N ∉ E.ron)
    (hR : ∀ r cs', R r cs' → dtL cs' = true) (hM : Nat.ble 7000000 M = true) (hfr : bl.all (fun q => !Nat.beq q.1 M) = true) (hd : Nat.blt d E.nt = true)
    (hk : ∀ rows more cs', R rows cs' → MoreOk e more → WL E ops rest Q ⟨(d, .agg [.arr M T e rows.length]) :: tm, (M, (rows ++ more).flatten) :: setB bl N cs', ow⟩) (hn7 : Nat.blt N 7000000 = true := by rfl) : WL E ops (⟨some d, .call ⟨.value x, xs, ts⟩, ty, pos, af, none⟩ :: rest) Q ⟨tm, bl, ow⟩ := by
  intro g a w hi
  unfold wpListIn
  rw [show Region.wanted ⟨some d, .call ⟨.value x, xs, ts⟩, ty, pos, af, none⟩ (yielded ops a.tmps) = true by simp [Region.wanted]]
  refine wpIn_of_wp (fun _ h => by cases h) ?_
  have h1 := rep_ev hi.tm x
  have h2 : reps g w (xs.toList.map (ev tm)) (xs.toList.map a.eval) := reps_map _ fun y _ => rep_ev hi.tm y
  rw [hx] at h1
  simp only [rep] at h1
  obtain ⟨fn, f1, f2, f3⟩ := hf.ok
  have f2' : fn.name ≠ "runtime.NumGoroutine" := by simpa using f2
  have f3' : fn.body ≠ none := fun e => by rw [e] at f3; simp at f3
  have hrun : (execOp a.eval ⟨some d, .call ⟨.value x, xs, ts⟩, ty, pos, af, none⟩).run E.P w = .ok (.enter f (xs.map a.eval)) w := by
    simp [execOp, resolve, Deferred.ofValue, h1, invoke, callFunc, f1, f2', f3']
  unfold Oper.wp
  rw [hrun]
  have hm := hi.mem
  obtain ⟨b, arr, m1, m2, m3, m4⟩ := hm.blk _ _ (lookB_mem hb)
  refine (h g.I w b (g.mt N) (xs.map a.eval) arr hm.cell m4 m2 (reps_dt (g := g) (g' := gP g.I b (g.mt N)) rfl hcs m3) (by rw [Array.toList_map]; exact reps_ptA m1 ha h2)).mono fun e' w' he => ?_
  obtain ⟨b2, c, rows, more, cs', arr', arr2, g', rfl, hr, k2, k3, k4, k5, l1, l2, l3, l4, l5, l6, l7, l8, l9⟩ := he
  have q2 := hR rows cs' hr
  obtain ⟨gc, p1, p2, p3, _, p5, p6, p7⟩ := hm.turned m1 hro k2 k3 k4 q2 k5 0 [] (fun n hn => by simp at hn) hn7
  have p2' : Mem E gc (setB bl N cs') ow w' := by simpa using p2
  have hMf : ∀ q ∈ setB bl N cs', q.1 ≠ M := fun q hq => by
    simp only [setB, List.mem_map] at hq
    obtain ⟨q0, h0, he⟩ := hq
    have hq1 : q.1 = q0.1 := by
      cases hb' : Nat.beq q0.1 N <;> simp only [hb', cond_false, cond_true] at he <;> rw [← he]
    have := List.all_eq_true.1 hfr q0 h0
    rw [hq1]
    exact fun e => by simp [e] at this
  obtain ⟨g3, s1, s2, s3, s4, _⟩ := p2'.adopt (N := M) hMf (Nat.le_trans hm.base l5) l4 (plain_more l6 l7) (reps_plain (g := g') (g' := gc) (w' := w') (plain_more l6 l7) l8)
    (fun k hk => by rw [p5] at hk; have := (hm.mfr k b2 hk).2; omega)
    (fun k hk hk2 => by
      rcases p7 k b2 hk hk2 with ⟨h3, h4⟩ | ⟨n, hn, _⟩
      · have := (hm.ofr k b2 h3 h4).2; omega
      · simp at hn)
    (fun o ho => by rw [p3] at ho; exact l9 o ho)
  have goes := p1.trans s1
  have hz : rep g3 w' (.agg [.arr M T e rows.length]) (.agg #[.slice (some ⟨b2, 0, none⟩) rows.length c]) := by
    simp only [rep, reps]
    exact ⟨_, rfl, _, _, rfl, ⟨b2, c, s3, s4, rfl, l1, fun h => by have := Nat.le_of_ble_eq_true hM; omega, fun _ => ⟨l2, _, _, l4, l3⟩⟩, rfl⟩
  have hput := look_put (E := E) (g := g3) (w := w') (a := a) (s := ⟨tm, (M, (rows ++ more).flatten) :: setB bl N cs', ow⟩) (d := some d) (v := .agg [.arr M T e rows.length]) (y := .agg #[.slice (some ⟨b2, 0, none⟩) rows.length c]) [] [] (fun k hk => by cases hk; exact Nat.le_of_ble_eq_true hd) hi.sz (fun t => rep_goes goes (hi.tm t)) hz
  exact hk rows more cs' hr l6 g3 _ w' ⟨s2, hput, hi.de, by simp [Act.put, hi.sz]⟩
end
def OLe (ks os : List Nat) (n m T e : Nat) (rows : List (List AV)) (x v : AV) : Prop := (x = .arr n T e rows.length ∧ v = .own m T e rows) ∨ (x = v ∧ refs ks os v = true) ∨ v = .top
def OPick (ks os : List Nat) (n m T e : Nat) (rows : List (List AV)) (tm : List (Nat × AV)) : List (Nat × AV) → Prop
  | [] => True
  | (t, v) :: r => OLe ks os n m T e rows (look tm t) v ∧ OPick ks os n m T e rows tm r
inductive OLes (ks os : List Nat) (n m T e : Nat) (rows : List (List AV)) : List AV → List AV → Prop where
  | nil : OLes ks os n m T e rows [] []
  | cons {x y : AV} {xs ys : List AV} (h : OLe ks os n m T e rows x y) (hs : OLes ks os n m T e rows xs ys) : OLes ks os n m T e rows (x :: xs) (y :: ys)
theorem OLes.refl {ks os : List Nat} {n m T e : Nat} {rows : List (List AV)} : ∀ {xs : List AV}, refsL ks os xs = true → OLes ks os n m T e rows xs xs
  | [], _ => .nil
  | _ :: xs, h => by
    simp only [refsL, Bool.and_eq_true] at h
    exact .cons (.inr (.inl ⟨rfl, h.1⟩)) (OLes.refl h.2)
def OPickB (ks os : List Nat) (n m T e : Nat) (rows : List (List AV)) (bl : List (Nat × List AV)) : List (Nat × List AV) → Prop
  | [] => True
  | (k, cs) :: r => (∃ cs0, lookB bl k = some cs0 ∧ OLes ks os n m T e rows cs0 cs) ∧ OPickB ks os n m T e rows bl r
theorem oPickB_mem {ks os : List Nat} {n m T e : Nat} {rows : List (List AV)} {bl : List (Nat × List AV)} : ∀ {l : List (Nat × List AV)}, OPickB ks os n m T e rows bl l → ∀ k cs, (k, cs) ∈ l → ∃ cs0, lookB bl k = some cs0 ∧ OLes ks os n m T e rows cs0 cs
  | [], _, _, _, h => by simp at h
  | (k', cs') :: r, hp, k, cs, h => by
    simp only [OPickB] at hp
    rcases List.mem_cons.1 h with h | h
    · cases h; exact hp.1
    · exact oPickB_mem hp.2 k cs h
theorem weak_own {E : En} {s s' : St} (n m T e : Nat) (rows : List (List AV)) (rest : List AV) (hro : E.ron = []) (hM : ∀ b, E.M b → ∃ k U, k ≠ n ∧ E.pin k b U) (hb : lookB s.bl n = some (rows.flatten ++ rest)) (hl : ∀ r ∈ rows, r.length = e) (hD : ∀ x ∈ rows.flatten, plain x = true) (hn7 : Nat.ble 7000000 n = true) (hm : m ∉ s.ow)
    (h1 : OPick (s'.bl.map (·.1)) s.ow n m T e rows s.tm s'.tm) (h2 : OPickB (s'.bl.map (·.1)) s.ow n m T e rows s.bl s'.bl) (h4 : s'.ow = m :: s.ow) (hnb : (s'.bl.map (·.1)).any (Nat.beq n) = false) (hpin : ∀ k b U, E.pin k b U → k ∈ s'.bl.map (·.1)) : Weak E s s' := by
  intro g a w hi
  obtain ⟨b, arr, b1, b2, b3, b4⟩ := hi.mem.blk n _ (lookB_mem hb)
  have hno : ¬ g.ow m := fun h => hm (hi.mem.own m h)
  have hnk : n ∉ s'.bl.map (·.1) := fun h => by
    rw [List.any_eq_true.2 ⟨n, h, by simp⟩] at hnb; cases hnb
  have hflen : rows.flatten.length = rows.length * e := flatten_length hl
  have hasz : rows.length * e ≤ arr.size := by
    have := reps_length b3
    simp only [List.length_append, Array.length_toList] at this
    omega
  have hbB : E.B ≤ b := by
    rcases (hi.mem.mfr n b b1).1 with h | h | h
    · rw [hro] at h; simp at h
    · exact h
    · obtain ⟨k, U, hk, hp⟩ := hM b h
      exact absurd (hi.mem.minj k n b (hi.mem.pin k b U hp).1 b1) hk
  let g' : Gh := { I := fun c o => g.I c o ∨ (c = b ∧ o < rows.length * e), m := fun k => if k ∈ s'.bl.map (·.1) then g.m k else none, om := fun k => if k = m then some b else g.om k, ow := fun k => k = m ∨ g.ow k, mt := g.mt }
  have hmm : ∀ k c, g'.m k = some c → k ∈ s'.bl.map (·.1) ∧ g.m k = some c := fun k c h => by
    by_cases e : k ∈ s'.bl.map (·.1)
    · exact ⟨e, by simpa only [g', e, if_true] using h⟩
    · simp only [g', e, if_false] at h; cases h
  have hoo : ∀ k c, g'.ow k → g'.om k = some c → (k = m ∧ c = b) ∨ (g.ow k ∧ g.om k = some c ∧ k ≠ m) := fun k c h1 h2 => by
    by_cases e : k = m
    · simp only [g', e, if_true, Option.some.injEq] at h2; exact .inl ⟨e, h2.symm⟩
    · exact .inr ⟨h1.resolve_left e, by simpa only [g', e, if_false] using h2, e⟩
  have keepI : ∀ c o, g.I c o → g'.I c o := fun c o h => .inl h
  have goes : Goes { g with m := g'.m } w g' w := by
    refine ⟨keepI, fun _ _ _ => rfl, fun k c h => h, fun _ _ _ => rfl, fun k T' e' rows' y hy => ?_, fun _ _ _ _ _ h => h⟩
    refine ownRep_goes (g := { g with m := g'.m }) (g' := g') keepI (fun _ _ _ => rfl) (fun j hj => ⟨.inr hj, ?_⟩) (fun _ _ _ _ => rfl) (fun j c o hj hc hI => ?_) hy
    · have : j ≠ m := fun e => hno (e ▸ hj)
      simp only [g', this, if_false]
    · rcases hI with hI | ⟨rfl, _⟩
      · exact hI
      · exact (hi.mem.disj n j c b1 hj hc).elim
  have refsRep : ∀ (x : AV) (y : Value), refs (s'.bl.map (·.1)) s.ow x = true → rep g w x y → rep g' w x y := fun x y hr h =>
    rep_goes goes (rep_refs (g := g) (g' := { g with m := g'.m }) (ks := s'.bl.map (·.1)) (os := s.ow) rfl (fun k c hk hc => by simp only [g', hk, if_true]; exact hc) rfl (fun _ _ h => ⟨h, rfl⟩) hr h)
  have conv : ∀ (y : Value), rep g w (.arr n T e rows.length) y → rep g' w (.own m T e rows) y := fun y h => by
    simp only [rep] at h
    obtain ⟨b', c', k1, k2, rfl, k3, _, k4⟩ := h
    have : b' = b := by rw [b1] at k1; exact (Option.some.inj k1).symm
    subst this
    obtain ⟨k5, A, T', k6, k7⟩ := k4 (Nat.le_of_ble_eq_true hn7)
    rw [b2] at k6
    cases k6
    simp only [rep]
    have hdr := dreps_take (I := g'.I) (w' := w) hD b3
    rw [hflen] at hdr
    refine ⟨.inl rfl, by simp [g', Value.ownBlock], arr.toList.take (rows.length * e), ⟨by simp; omega, .inr ⟨b', c', arr, rfl, Nat.zero_le _, by rw [← k2]; exact b2, k3, k5, k7, rfl⟩⟩, hdr, hl, fun c hc => ?_⟩
    simp only [g', if_true, Option.some.injEq] at hc
    subst hc
    refine ⟨fun o ho => .inr ⟨rfl, ho⟩, fun o ho hI => ?_⟩
    rcases hI with hI | ⟨_, hI⟩
    · exact b4 o hI
    · omega
  have one : ∀ (x v : AV) (y : Value), OLe (s'.bl.map (·.1)) s.ow n m T e rows x v → rep g w x y → rep g' w v y := fun x v y hd h => by
    rcases hd with ⟨rfl, rfl⟩ | ⟨rfl, hr⟩ | rfl
    · exact conv y h
    · exact refsRep _ _ hr h
    · simp [rep]
  refine ⟨g', ⟨⟨hi.mem.below, hi.mem.base, fun c o hc => ?_, fun k c h => hi.mem.mfr k c (hmm k c h).2, fun k c k1 k2 => ?_, fun k k' c k1 k2 => hi.mem.minj k k' c (hmm k c k1).2 (hmm k' c k2).2, fun k k' c k1 k2 k3 k4 => ?_, fun k k' c k1 k2 k3 => ?_, fun k cs h => ?_, fun k c h => ?_, fun k h => ?_, fun c o hc => ?_, fun c o hc => .inl (hi.mem.iold c o hc), fun k c U h => ?_⟩, fun t => ?_, hi.de, hi.sz⟩⟩
  · rcases hc with hc | ⟨rfl, ho⟩
    · exact hi.mem.cell c o hc
    · rw [cell_of_heap b2]
      rw [Array.getElem?_eq_getElem (by omega)]
      rfl
  · rcases hoo k c k1 k2 with ⟨_, rfl⟩ | ⟨h7, h8, _⟩
    · exact ⟨.inl hbB, (hi.mem.mfr n c b1).2⟩
    · exact hi.mem.ofr k c h7 h8
  · rcases hoo k c k1 k3 with ⟨h7, rfl⟩ | ⟨h7, h8, _⟩ <;> rcases hoo k' c k2 k4 with ⟨h9, h10⟩ | ⟨h9, h10, _⟩
    · rw [h7, h9]
    · exact (hi.mem.disj n k' c b1 h9 h10).elim
    · subst h10; exact (hi.mem.disj n k c b1 h7 h8).elim
    · exact hi.mem.oinj k k' c h7 h9 h8 h10
  · obtain ⟨h5, h6⟩ := hmm k c k1
    rcases hoo k' c k2 k3 with ⟨_, rfl⟩ | ⟨h7, h8, _⟩
    · have := hi.mem.minj k n c h6 b1
      subst this
      exact hnk h5
    · exact hi.mem.disj k k' c h6 h7 h8
  · obtain ⟨cs0, q1, q2⟩ := oPickB_mem h2 k cs h
    obtain ⟨c, ar, k1, k2, k3, k4⟩ := hi.mem.blk k cs0 (lookB_mem q1)
    have hk : k ∈ s'.bl.map (·.1) := List.mem_map.2 ⟨_, h, rfl⟩
    have go : ∀ (xs vs : List AV) (ys : List Value), OLes (s'.bl.map (·.1)) s.ow n m T e rows xs vs → reps g w xs ys → reps g' w vs ys := by
      intro xs vs ys hd
      induction hd generalizing ys with
      | nil => intro h; simpa [reps] using h
      | cons h hs ih =>
        intro hq
        simp only [reps] at hq ⊢
        obtain ⟨y, zs, e1, q3, q4⟩ := hq
        exact ⟨y, zs, e1, one _ _ _ h q3, ih _ q4⟩
    refine ⟨c, ar, by simp only [g', hk, if_true]; exact k1, k2, go _ _ _ q2 k3, fun o ho => ?_⟩
    rcases ho with ho | ⟨rfl, _⟩
    · exact k4 o ho
    · have := hi.mem.minj k n c k1 b1
      subst this
      exact hnk hk
  · obtain ⟨h7, _⟩ := hmm k c h
    obtain ⟨p, hp, rfl⟩ := List.mem_map.1 h7
    exact ⟨p.2, hp⟩
  · rw [h4]
    rcases h with rfl | h
    · exact List.mem_cons_self ..
    · exact List.mem_cons_of_mem _ (hi.mem.own k h)
  · rcases hc with hc | ⟨rfl, _⟩
    · exact hi.mem.inew c o hc
    · exact .inr (.inl hbB)
  · have hk := hpin k c U h
    obtain ⟨p1, p2⟩ := hi.mem.pin k c U h
    exact ⟨by simp only [g', hk, if_true]; exact p1, p2⟩
  · have pick : ∀ (l : List (Nat × AV)), OPick (s'.bl.map (·.1)) s.ow n m T e rows s.tm l → look l t = .top ∨ OLe (s'.bl.map (·.1)) s.ow n m T e rows (look s.tm t) (look l t) := by
      intro l
      induction l with
      | nil => intro _; exact .inl rfl
      | cons p l ih =>
        intro hp
        obtain ⟨k, v⟩ := p
        simp only [OPick] at hp
        simp only [look]
        cases hb' : Nat.beq k t
        · exact ih hp.2
        · have := Nat.eq_of_beq_eq_true hb'
          subst this
          exact .inr hp.1
    rcases pick _ h1 with h | h
    · rw [h]; simp [rep]
    · exact one _ _ _ h (hi.tm t)
end Go.Eng
