/- My walking engine, part 16: abstract values of Go, and the rules of a walk over them. No program in sight. -/
import Derived.Test.YtpcahgedkmgllaaGreatZ5
import Derived.Test.YtpcahgedkmgllaaGreatZ14
import Derived.Test.YtpcahgedkmgllaaGreatZ15
namespace Go.Eng
open Go
section
variable {α : Type} {row : α → List AV} {mk : Int → Nat → α} {k : Int} {l : List α} {more : List (List AV)} {i e : Nat}
def mks (mk : Int → Nat → α) (k : Int) (n : Nat) : List α := (List.range n).map (mk k)
theorem mks_len {n : Nat} : (mks mk k n).length = n := by simp [mks]
theorem len_map {β : Type} {f : α → β} {l : List α} : l.length = (l.map f).length := (List.length_map _).symm
theorem len_mks {β : Type} {f : α → β} {n : Nat} : n = ((mks mk k n).map f).length := by rw [List.length_map, mks_len]
theorem map_plain (hf : ∀ a, ∀ x ∈ row a, plain x = true) (l : List α) : ∀ x ∈ (l.map row).flatten, plain x = true := by
  intro x hx
  obtain ⟨r, hr, hx⟩ := List.mem_flatten.1 hx
  obtain ⟨p, _, rfl⟩ := List.mem_map.1 hr
  exact hf p x hx
theorem map_plainB (hf : ∀ a, (row a).all plain = true) : ∀ x ∈ (l.map row).flatten, plain x = true :=
  map_plain (fun a x hx => List.all_eq_true.1 (hf a) x hx) l
theorem map_lens (hf : ∀ a, (row a).length = e) : ∀ r ∈ l.map row, r.length = e := by
  intro r hr
  obtain ⟨p, _, rfl⟩ := List.mem_map.1 hr
  exact hf p
end
structure RowAt (rows : List (List AV)) (i e : Nat) (r : List AV) : Prop where
  at_ : rows[i]? = some r
  len : ∀ r ∈ rows, r.length = e
theorem RowAt.set {rows : List (List AV)} {i e : Nat} {r r' : List AV} (h : RowAt rows i e r) (h' : r'.length = e) : RowAt (rows.set i r') i e r' :=
  ⟨by rw [List.getElem?_set_self (List.getElem?_eq_some_iff.1 h.at_).1], fun s hs => by
    rcases List.mem_or_eq_of_mem_set hs with hs | rfl
    · exact h.len s hs
    · exact h'⟩
end Go.Eng

namespace Go.Eng
open Go Go.Conc

theorem Mem.adopt {E : En} {g : Gh} {bl : List (Nat × List AV)} {ow : List Nat} {w : World} (hm : Mem E g bl ow w) {N T b : Nat} {cs : List AV} {arr : Array Value} (hN : ∀ q ∈ bl, q.1 ≠ N) (hbB : E.B ≤ b) (hb : w.heap[b]? = some (.cells arr T (0, 0))) (hpl : ∀ x ∈ cs, plain x = true) (hr : reps g w cs arr.toList)
    (hfm : ∀ k, g.m k ≠ some b) (hfo : ∀ k, g.ow k → g.om k ≠ some b) (hfI : ∀ o, ¬ g.I b o) : ∃ gc, Goes g w gc w ∧ Mem E gc ((N, cs) :: bl) ow w ∧ gc.m N = some b ∧ gc.mt N = T ∧ (∀ k, k ≠ N → gc.m k = g.m k) ∧ gc.ow = g.ow ∧ gc.om = g.om ∧ gc.I = g.I := by
  have hlt : b < w.heap.size := (Array.getElem?_eq_some_iff.1 hb).1
  have hnone : g.m N = none := by
    cases hmN : g.m N with
    | none => rfl
    | some b' => obtain ⟨cs, hc⟩ := hm.key N b' hmN; exact absurd rfl (hN _ hc)
  let gc : Gh := { g with m := fun k => if k = N then some b else g.m k, mt := fun k => if k = N then T else g.mt k }
  have hmm : ∀ k b', gc.m k = some b' → (k = N ∧ b' = b) ∨ (k ≠ N ∧ g.m k = some b') := fun k b' hk => by
    by_cases e : k = N
    · simp only [gc, e, if_true, Option.some.injEq] at hk; exact .inl ⟨e, hk.symm⟩
    · simp only [gc, e, if_false] at hk; exact .inr ⟨e, hk⟩
  have goes : Goes g w gc w := by
    refine ⟨fun _ _ h => h, fun _ _ _ => rfl, fun k b' hk => ?_, fun k b' hk => ?_, fun k T' e' rows' y' hy' => ownRep_goes (g := g) (g' := gc) (fun _ _ h => h) (fun _ _ _ => rfl) (fun k hk => ⟨hk, rfl⟩) (fun k b' k1 k2 => rfl) (fun _ _ _ _ _ h => h) hy', fun _ _ _ _ _ h => h⟩
    · have : k ≠ N := fun e => by rw [e, hnone] at hk; cases hk
      simp only [gc, this, if_false]; exact hk
    · have : k ≠ N := fun e => by rw [e, hnone] at hk; cases hk
      simp only [gc, this, if_false]
  refine ⟨gc, goes, ?_, by simp only [gc, if_true], by simp only [gc, if_true], fun k hk => by simp only [gc, hk, if_false], rfl, rfl, rfl⟩
  exact { below := hm.below, base := hm.base, cell := hm.cell
          mfr := fun k b' hk => by
            rcases hmm k b' hk with ⟨rfl, rfl⟩ | ⟨_, k2⟩
            · exact ⟨.inr (.inl hbB), hlt⟩
            · exact hm.mfr k b' k2
          ofr := hm.ofr
          minj := fun k k' b' k1 k2 => by
            rcases hmm k b' k1 with ⟨rfl, rfl⟩ | ⟨_, k3⟩ <;> rcases hmm k' _ k2 with ⟨rfl, k4⟩ | ⟨_, k4⟩
            · rfl
            · exact absurd k4 (hfm k')
            · subst k4; exact absurd k3 (hfm k)
            · exact hm.minj k k' b' k3 k4
          oinj := hm.oinj
          disj := fun k k' b' k1 k2 k3 => by
            rcases hmm k b' k1 with ⟨rfl, rfl⟩ | ⟨_, k4⟩
            · exact hfo k' k2 k3
            · exact hm.disj k k' b' k4 k2 k3
          blk := fun k ds hk => by
            rcases List.mem_cons.1 hk with hk | hk
            · cases hk
              exact ⟨b, arr, by simp only [gc, if_true], by simp only [gc, if_true]; exact hb, reps_plain hpl hr, hfI⟩
            · obtain ⟨b', arr', q1, q2, q3, q4⟩ := hm.blk k ds hk
              exact ⟨b', arr', goes.m k b' q1, by rw [goes.mt k b' q1]; exact q2, reps_goes goes q3, q4⟩
          key := fun k b' hk => by
            rcases hmm k b' hk with ⟨rfl, rfl⟩ | ⟨_, k2⟩
            · exact ⟨_, List.mem_cons_self ..⟩
            · obtain ⟨cs, hc⟩ := hm.key k b' k2; exact ⟨cs, List.mem_cons_of_mem _ hc⟩
          own := hm.own, inew := hm.inew, iold := hm.iold
          pin := fun k b' T' hp => ⟨goes.m k b' (hm.pin k b' T' hp).1, (goes.mt k b' (hm.pin k b' T' hp).1).trans (hm.pin k b' T' hp).2⟩ }
def CallPtrN (P : Program) (f T e : Nat) (args cs : List AV) (R : List (List AV) → List AV → Prop) : Prop :=
  ∀ (L : Lg P) (I : Nat → Nat → Prop) (x : CW) (b T0 : Nat) (vals arr : Array Value), SeesI I x → Rigged x → x.V.mine b → (∀ o, ¬ I b o) → x.w.heap[b]? = some (.cells arr T0 (0, 0)) → reps (gP I b T0) x.w cs arr.toList → reps (gP I b T0) x.w args vals.toList →
    CallsV L f vals x fun y x' => ∃ b2 c rows more cs' arr' arr2, ∃ g' : Gh, y = .agg #[.slice (some ⟨b2, 0, none⟩) rows.length c] ∧ R rows cs' ∧ RetP I b x g' x' ∧ x'.w.heap[b]? = some (.cells arr' T0 (0, 0)) ∧ reps g' x'.w cs' arr'.toList ∧ (∀ o, ¬ g'.I b o) ∧
      rows.length ≤ c ∧ c ≤ maxLen ∧ arr2.size = c * e ∧ x'.w.heap[b2]? = some (.cells arr2 T (0, 0)) ∧ (x.w.heap.size ≤ b2 ∧ x'.V.mine b2) ∧ MoreOk e more ∧ (∀ x ∈ rows.flatten, plain x = true) ∧ reps g' x'.w (rows ++ more).flatten arr2.toList ∧ ∀ o, ¬ g'.I b2 o
def endN (E : En) (rs : List ResultVar) (T e : Nat) (R : List (List AV) → List AV → Prop) (s : St) : Prop :=
  ∃ s', Weak E s s' ∧ ∃ N rows more cs', resA E.P s' rs [.agg [.arr N T e rows.length]] ∧ (1000000, cs') ∈ s'.bl ∧ (N, (rows ++ more).flatten) ∈ s'.bl ∧ Nat.ble 7000000 N = true ∧ MoreOk e more ∧ (∀ x ∈ rows.flatten, plain x = true) ∧ R rows cs' ∧ dtL cs' = true
def ptrNQ (E : En) (rs : List ResultVar) (T e : Nat) (R : List (List AV) → List AV → Prop) : Exit → St → Prop
  | .normal, s => endN E rs T e R s
  | .ret, s => endN E rs T e R s
  | _, _ => False
theorem plain_more {e : Nat} {rows more : List (List AV)} (hm : MoreOk e more) (hp : ∀ x ∈ rows.flatten, plain x = true) : ∀ x ∈ (rows ++ more).flatten, plain x = true := fun x hx => by
  rw [List.flatten_append, List.mem_append] at hx
  rcases hx with hx | hx
  · exact hp x hx
  · obtain ⟨l, hl, hx⟩ := List.mem_flatten.1 hx
    exact (hm l hl).2 x hx
theorem refs_more {α : Type} {ks os : List Nat} {f : α → List AV} {l : List α} {e : Nat} {more : List (List AV)} (hm : MoreOk e more) (hf : ∀ p, refsL ks os (f p) = true) : refsL ks os (l.map f ++ more).flatten = true := refsL_flat fun r hr => by
  rcases List.mem_append.1 hr with h | h
  · obtain ⟨p, _, rfl⟩ := List.mem_map.1 h; exact hf p
  · have hp := (hm r h).2
    have : ∀ xs : List AV, (∀ x ∈ xs, plain x = true) → refsL ks os xs = true := by
      intro xs
      induction xs with
      | nil => intro _; rfl
      | cons x xs ih =>
        intro hq
        have h1 := hq x (by simp)
        simp only [refsL, Bool.and_eq_true]
        refine ⟨?_, ih fun y hy => hq y (by simp [hy])⟩
        cases x <;> simp [plain] at h1 <;> rfl
    exact this r hp
theorem callPtrN {P : Program} {f nt T e : Nat} {fn : Func} {rs : Array ResultVar} {co : Code} {args cs : List AV} {tm : List (Nat × AV)} {R : List (List AV) → List AV → Prop} (hf : P.funcs[f]? = some fn) (hnt : fn.ntmps = nt) (hrs : fn.results = rs) (hb : fn.body = some co) (hn : Nat.ble args.length nt = true) (htm : iniO 0 args = some tm)
    (h : ∀ (B : Nat) (w0 : World) (b T0 : Nat) (I0 : Nat → Nat → Prop) (V0 : Rig), W (enP P B w0 nt b T0 I0 V0) co (ptrNQ (enP P B w0 nt b T0 I0 V0) rs.toList T e R) ⟨tm, [(1000000, cs)], []⟩) : CallPtrN P f T e args cs R := by
  subst hnt; subst hrs
  intro L I x b T0 vals arr hI hx hmine hIb hh hreps hargs'
  have htm' := iniO_eq htm
  have hn' := Nat.le_of_ble_eq_true hn
  have hblt : b < x.w.heap.size := (Array.getElem?_eq_some_iff.1 hh).1
  let E : En := enP P x.w.heap.size x.w fn.ntmps b T0 I x.V
  let g : Gh := gP I b T0
  have hlen := reps_length hargs'
  have hgm : ∀ n c, g.m n = some c → n = 1000000 ∧ c = b := fun n c h => by
    by_cases e1 : n = 1000000
    · simp only [g, gP, e1, if_true, Option.some.injEq] at h; exact ⟨e1, h.symm⟩
    · simp only [g, gP, e1, if_false] at h; cases h
  have hi0 : Inv E g ⟨tm, [(1000000, cs)], []⟩ { tmps := vals ++ Array.replicate (fn.ntmps - vals.size) undef, defers := [] } x := by
    refine ⟨⟨⟨BelowM.refl _ _ _, Nat.le_refl _, fun b o h => (hI b o h).1, fun n c h => ?_, fun _ _ h => h.elim, fun n n' c h1 h2 => (hgm n c h1).1.trans (hgm n' c h2).1.symm, fun _ _ _ h => h.elim, fun _ _ _ _ h => h.elim,
      fun n cs h => ?_, fun n c h => ?_, fun _ h => h.elim, fun _ _ h => .inl h, fun _ _ h => h, fun n c U h => ?_⟩,
      ⟨fun b o h => (hI b o h).2, fun n c h => ?_, fun _ _ h => h.elim, hx.sub, hx.lt, fun _ h => h, fun _ h => h, fun _ h => .inl h, fun _ h => .inl h, fun c h => Classical.not_not.1 fun h' => h (.inr h'), rfl⟩⟩, fun t => ?_, rfl, ?_⟩
    · obtain ⟨rfl, rfl⟩ := hgm n c h
      exact ⟨.inr (.inr (.inl rfl)), hblt⟩
    · simp only [List.mem_singleton, Prod.mk.injEq] at h
      obtain ⟨rfl, rfl⟩ := h
      exact ⟨b, arr, by simp [g, gP], hh, hreps, hIb⟩
    · obtain ⟨rfl, rfl⟩ := hgm n c h
      exact ⟨_, List.mem_singleton.2 rfl⟩
    · obtain ⟨rfl, rfl, rfl⟩ := h
      exact ⟨by simp [g, gP], rfl⟩
    · obtain ⟨rfl, rfl⟩ := hgm n c h
      exact ⟨hx.sub _ hmine, fun _ => hmine⟩
    · rw [← htm']
      simp only [look_zip, Nat.zero_le, if_true, Nat.sub_zero]
      rcases Nat.lt_or_ge t args.length with h1 | h1
      · obtain ⟨y, hy, hr⟩ := reps_get hargs' (List.getElem?_eq_getElem h1)
        have : t < vals.size := by simpa [← hlen] using h1
        have hy' : vals[t] = y := by simpa [this] using hy
        simp only [List.getD_eq_getElem?_getD, List.getElem?_eq_getElem h1, Option.getD_some]
        simp only [Array.getD_eq_getD_getElem?, Array.getElem?_append_left this, Array.getElem?_eq_getElem this, Option.getD_some, hy']
        exact hr
      · simp only [List.getD_eq_getElem?_getD, List.getElem?_eq_none h1, Option.getD_none, rep]
    · have : vals.size = args.length := by simpa using hlen
      show (vals ++ Array.replicate (fn.ntmps - vals.size) undef).size = fn.ntmps
      simp; omega
  refine ⟨fn, co, hf, hb, wpV_mono (h x.w.heap.size x.w b T0 I x.V L g _ x hi0) fun ex a' x' hq => ?_⟩
  obtain ⟨g', s', hq, hi⟩ := hq
  have fin : endN (enP P x.w.heap.size x.w fn.ntmps b T0 I x.V) fn.results.toList T e R s' → a'.defers = [] ∧ ∀ w₁, Rely x'.V x'.w w₁ → ∃ v, (results fn a'.tmps).run P w₁ = .ok v w₁ ∧
      (∀ e ∈ (results fn a'.tmps).events P w₁ #[], EvG x'.V w₁.heap.size w₁.heap.size e) ∧
      ∃ b2 c rows more cs' arr' arr2, ∃ g' : Gh, v = .agg #[.slice (some ⟨b2, 0, none⟩) rows.length c] ∧ R rows cs' ∧ RetP I b x g' ⟨x'.V, w₁⟩ ∧ w₁.heap[b]? = some (.cells arr' T0 (0, 0)) ∧ reps g' w₁ cs' arr'.toList ∧ (∀ o, ¬ g'.I b o) ∧
      rows.length ≤ c ∧ c ≤ maxLen ∧ arr2.size = c * e ∧ w₁.heap[b2]? = some (.cells arr2 T (0, 0)) ∧ (x.w.heap.size ≤ b2 ∧ x'.V.mine b2) ∧ MoreOk e more ∧ (∀ x ∈ rows.flatten, plain x = true) ∧ reps g' w₁ (rows ++ more).flatten arr2.toList ∧ ∀ o, ¬ g'.I b2 o := by
    rintro ⟨s2, hw, N, rows, more, cs', h1, h2, h3, h4, h5, h6, h7, h8⟩
    obtain ⟨g', hi⟩ := hw _ _ _ hi
    refine ⟨hi.de, fun w₁ rl => ?_⟩
    have hi := hi.rely rl
    obtain ⟨y, k1, k2, k3⟩ := run_results hi h1
    obtain ⟨c0, arr', m1, m2, m3, m4⟩ := hi.mem.mem.blk _ _ h2
    obtain ⟨p1, p2⟩ := hi.mem.mem.pin 1000000 b T0 ⟨rfl, rfl, rfl⟩
    have : c0 = b := by rw [p1] at m1; exact (Option.some.inj m1).symm
    subst this
    rw [p2] at m2
    have h4' := Nat.le_of_ble_eq_true h4
    obtain ⟨b2, arr2, n1, n2, n3, n4⟩ := hi.mem.mem.blk _ _ h3
    simp only [oneA, rep, reps] at k2
    obtain ⟨A, rfl, u, _, eA, ⟨b3, c, q1, q2, rfl, q3, _, q4⟩, rfl⟩ := k2
    have : b3 = b2 := by rw [n1] at q1; exact (Option.some.inj q1).symm
    subst this
    obtain ⟨q5, A2, T2, q6, q7⟩ := q4 h4'
    rw [n2] at q6
    cases q6
    rw [q2] at n2
    have hAe : A = #[.slice (some ⟨b3, 0, none⟩) rows.length c] := Array.ext' eA
    subst hAe
    have hne : b3 ≠ c0 := fun e => by
      subst e
      have := hi.mem.mem.minj N 1000000 b3 n1 p1
      omega
    let g2 : Gh := { g' with m := fun _ => none }
    have hm := hi.mem.mem
    have hv := hi.mem.vis
    have nM : ∀ b, x'.V.vis b → (¬ x.V.vis b) → x.w.heap.size ≤ b := fun b h1 h2 => (hv.dn b h1).resolve_left h2
    refine ⟨_, k1, fun e he => ?_, b3, c, rows, more, cs', arr', arr2, g2, rfl, h7,
      ⟨hm.below, hm.iold, fun k o h => (hm.inew k o h).imp id (fun h' => h'.elim id fun h'' => h''.elim (fun e => by rw [e] at h; exact absurd h (m4 o)) (nM k (hv.I k o h))), hm.cell,
        fun n k h1 h2 => ⟨(hm.ofr n k h1 h2).1.elim id fun h'' => h''.elim (fun e => absurd (e ▸ h2) (hm.disj 1000000 n c0 p1 h1)) (nM k (hv.sub k (hv.o n k h1 h2))), (hm.ofr n k h1 h2).2⟩, hm.oinj,
        ⟨⟨hv.sub, hv.lt⟩, hv.up, hv.upm, hv.dn, hv.dnm, hv.ext⟩, hv.I, hv.o⟩, m2, reps_dt (g := g') (g' := g2) rfl h8 m3, m4, q3, q5, q7, n2, ⟨?_, (hv.m N b3 n1).2 (by simp)⟩, h5, h6, reps_plain (g := g') (g' := g2) (w' := w₁) (plain_more h5 h6) n3, n4⟩
    · rcases k3 e he with ⟨a, rfl, ha⟩ | hk
      · exact .inl ⟨a, false, rfl, .inl ⟨seen_vis hi.mem.vis ha, fun h => by cases h⟩⟩
      · exact .inr (.inl hk)
    · rcases (hm.mfr N b3 n1).1 with h | h | h
      · simp at h
      · exact h
      · exact h.elim (fun e => absurd e hne) (nM b3 (hv.m N b3 n1).1)
  cases ex with
  | normal => exact Or.inl (fin hq)
  | ret => exact Or.inl (fin hq)
  | _ => exact hq.elim
section
variable {E : En} {ops : Array Oper} {rest : List Oper} {Q : Exit → St → Prop} {tm : List (Nat × AV)} {bl : List (Nat × List AV)} {ow : List Nat} {d : Nat} {ty : TypeId} {pos : String} {af : Array Edge}
theorem wlptrN {x : Operand} {xs : Array Operand} {ts : Array TypeId} {f N T e : Nat} {args cs : List AV} {R : List (List AV) → List AV → Prop} (M : Nat) [hf : FnOk E.P f] (h : CallPtrN E.P f T e args cs R) (hx : ev tm x = .v (.func (.func f) #[] #[])) (ha : PtA N (xs.toList.map (ev tm)) args) (hb : lookB bl N = some cs) (hcs : dtL cs = true) (hro : N ∉ E.ron)
    (hR : ∀ r cs', R r cs' → dtL cs' = true) (hM : Nat.ble 7000000 M = true) (hfr : bl.all (fun q => !Nat.beq q.1 M) = true) (hd : Nat.blt d E.nt = true)
    (hk : ∀ rows more cs', R rows cs' → MoreOk e more → WL E ops rest Q ⟨(d, .agg [.arr M T e rows.length]) :: tm, (M, (rows ++ more).flatten) :: setB bl N cs', ow⟩) (hn7 : Nat.blt N 7000000 = true := by rfl) : WL E ops (⟨some d, .call ⟨.value x, xs, ts⟩, ty, pos, af, none⟩ :: rest) Q ⟨tm, bl, ow⟩ := by
  refine WL_call hx fun L g a w hi h2 => ?_
  have hm := hi.mem.mem
  obtain ⟨b, arr, m1, m2, m3, m4⟩ := hm.blk _ _ (lookB_mem hb)
  refine (h L g.I w b (g.mt N) (xs.map a.eval) arr hi.seesI hi.rigged ((hi.mem.vis.m _ b m1).2 hro) m4 m2 (reps_dt (g := g) (g' := gP g.I b (g.mt N)) rfl hcs m3) (reps_ptA m1 ha h2)).mono fun y w' he => ?_
  obtain ⟨b2, c, rows, more, cs', arr', arr2, g', rfl, hr, k2, k3, k4, k5, l1, l2, l3, l4, ⟨l5, l5'⟩, l6, l7, l8, l9⟩ := he
  have q2 := hR rows cs' hr
  obtain ⟨gc, p1, p2, p3, _, p5, p6, p7⟩ := hi.mem.turned hn7 m1 hro k2 k3 k4 q2 k5 0 [] (fun n hn => by simp at hn)
  have p2' : MemV E gc (setB bl N cs') ow w' := by simpa using p2
  have hMf : ∀ q ∈ setB bl N cs', q.1 ≠ M := fun q hq => by
    simp only [setB, List.mem_map] at hq
    obtain ⟨q0, h0, he⟩ := hq
    have hq1 : q.1 = q0.1 := by
      cases hb' : Nat.beq q0.1 N <;> simp only [hb', cond_false, cond_true] at he <;> rw [← he]
    have := List.all_eq_true.1 hfr q0 h0
    rw [hq1]
    exact fun e => by simp [e] at this
  obtain ⟨g3, s1, s2, s3, s4, s5, s6, s7, s8⟩ := p2'.mem.adopt (N := M) hMf (Nat.le_trans hm.base l5) l4 (plain_more l6 l7) (reps_plain (g := g') (g' := gc) (w' := w'.w) (plain_more l6 l7) l8)
    (fun k hk => by rw [p5] at hk; have := (hm.mfr k b2 hk).2; omega)
    (fun k hk hk2 => by
      rcases p7 k b2 hk hk2 with ⟨h3, h4⟩ | ⟨n, hn, _⟩
      · have := (hm.ofr k b2 h3 h4).2; omega
      · simp at hn)
    (fun o ho => by rw [p3] at ho; exact l9 o ho)
  have hv := p2'.vis
  have hvm : ∀ k c, g3.m k = some c → w'.V.vis c ∧ (k ∉ E.ron → w'.V.mine c) := fun k c h => by
    by_cases e : k = M
    · subst e
      rw [s3] at h; cases h
      exact ⟨hv.sub _ l5', fun _ => l5'⟩
    · rw [s5 k e] at h; exact hv.m k c h
  have s2' : MemV E g3 ((M, (rows ++ more).flatten) :: setB bl N cs') ow w' := ⟨s2, { I := fun b o h => hv.I b o (by rw [← s8]; exact h), m := hvm, o := fun k c h1 h2 => hv.o k c (by rw [← s6]; exact h1) (by rw [← s7]; exact h2), sub := hv.sub, lt := hv.lt, up := hv.up, upm := hv.upm, dn := hv.dn, dnm := hv.dnm, nM := hv.nM, ext := hv.ext }⟩
  have goes := p1.trans s1
  have hz : rep g3 w'.w (.agg [.arr M T e rows.length]) (.agg #[.slice (some ⟨b2, 0, none⟩) rows.length c]) := by
    simp only [rep, reps]
    exact ⟨_, rfl, _, _, rfl, ⟨b2, c, s3, s4, rfl, l1, fun h => by have := Nat.le_of_ble_eq_true hM; omega, fun _ => ⟨l2, _, _, l4, l3⟩⟩, rfl⟩
  have hput := look_put (E := E) (g := g3) (w := w'.w) (a := a) (s := ⟨tm, (M, (rows ++ more).flatten) :: setB bl N cs', ow⟩) (d := some d) (v := .agg [.arr M T e rows.length]) (y := .agg #[.slice (some ⟨b2, 0, none⟩) rows.length c]) [] [] (fun k hk => by cases hk; exact Nat.le_of_ble_eq_true hd) hi.sz (fun t => rep_goes goes (hi.tm t)) hz
  exact hk rows more cs' hr l6 L g3 _ w' ⟨s2', hput, hi.de, by simp [Act.put, hi.sz]⟩
end
def OLe (ks os : List Nat) (n m T e : Nat) (rows : List (List AV)) (x v : AV) : Prop := (x = .arr n T e rows.length ∧ v = .own m T e rows) ∨ (x = v ∧ refs ks os v = true) ∨ v = .top
def OPick (ks os : List Nat) (n m T e : Nat) (rows : List (List AV)) (tm : List (Nat × AV)) : List (Nat × AV) → Prop
  | [] => True
  | (t, v) :: r => OLe ks os n m T e rows (look tm t) v ∧ OPick ks os n m T e rows tm r
inductive OLes (ks os : List Nat) (n m T e : Nat) (rows : List (List AV)) : List AV → List AV → Prop where
  | nil : OLes ks os n m T e rows [] []
  | cons {x y : AV} {xs ys : List AV} (h : OLe ks os n m T e rows x y) (hs : OLes ks os n m T e rows xs ys) : OLes ks os n m T e rows (x :: xs) (y :: ys)
theorem OLes.refl {ks os : List Nat} {n m T e : Nat} {rows : List (List AV)} : ∀ {xs : List AV}, refsL ks os xs = true → OLes ks os n m T e rows xs xs
  | [], _ => .nil
  | _ :: xs, h => by
    simp only [refsL, Bool.and_eq_true] at h
    exact .cons (.inr (.inl ⟨rfl, h.1⟩)) (OLes.refl h.2)
def OPickB (ks os : List Nat) (n m T e : Nat) (rows : List (List AV)) (bl : List (Nat × List AV)) : List (Nat × List AV) → Prop
  | [] => True
  | (k, cs) :: r => (∃ cs0, lookB bl k = some cs0 ∧ OLes ks os n m T e rows cs0 cs) ∧ OPickB ks os n m T e rows bl r
theorem oPickB_mem {ks os : List Nat} {n m T e : Nat} {rows : List (List AV)} {bl : List (Nat × List AV)} : ∀ {l : List (Nat × List AV)}, OPickB ks os n m T e rows bl l → ∀ k cs, (k, cs) ∈ l → ∃ cs0, lookB bl k = some cs0 ∧ OLes ks os n m T e rows cs0 cs
  | [], _, _, _, h => by simp at h
  | (k', cs') :: r, hp, k, cs, h => by
    simp only [OPickB] at hp
    rcases List.mem_cons.1 h with h | h
    · cases h; exact hp.1
    · exact oPickB_mem hp.2 k cs h
theorem weak_own {E : En} {s s' : St} (n m T e : Nat) (rows : List (List AV)) (rest : List AV) (hro : E.ron = []) (hb : lookB s.bl n = some (rows.flatten ++ rest)) (hl : ∀ r ∈ rows, r.length = e) (hD : ∀ x ∈ rows.flatten, plain x = true) (hn7 : Nat.ble 7000000 n = true) (hm : m ∉ s.ow)
    (h1 : OPick (s'.bl.map (·.1)) s.ow n m T e rows s.tm s'.tm) (h2 : OPickB (s'.bl.map (·.1)) s.ow n m T e rows s.bl s'.bl) (h4 : s'.ow = m :: s.ow) (hnb : (s'.bl.map (·.1)).any (Nat.beq n) = false) (hpin : ∀ k b U, E.pin k b U → k ∈ s'.bl.map (·.1)) : Weak E s s' := by
  intro g a x hi
  obtain ⟨V, w⟩ := x
  have hm0 := hi.mem.mem
  have hv := hi.mem.vis
  simp only at hm0 hv
  obtain ⟨b, arr, b1, b2, b3, b4⟩ := hm0.blk n _ (lookB_mem hb)
  have hno : ¬ g.ow m := fun h => hm (hm0.own m h)
  have hnk : n ∉ s'.bl.map (·.1) := fun h => by
    rw [List.any_eq_true.2 ⟨n, h, by simp⟩] at hnb; cases hnb
  have hflen : rows.flatten.length = rows.length * e := flatten_length hl
  have hasz : rows.length * e ≤ arr.size := by
    have := reps_length b3
    simp only [List.length_append, Array.length_toList] at this
    omega
  have hbB : E.B ≤ b ∨ E.M b := (hm0.mfr n b b1).1.resolve_left (by rw [hro]; simp)
  let g' : Gh := { I := fun c o => g.I c o ∨ (c = b ∧ o < rows.length * e), m := fun k => if k ∈ s'.bl.map (·.1) then g.m k else none, om := fun k => if k = m then some b else g.om k, ow := fun k => k = m ∨ g.ow k, mt := g.mt }
  have hmm : ∀ k c, g'.m k = some c → k ∈ s'.bl.map (·.1) ∧ g.m k = some c := fun k c h => by
    by_cases e : k ∈ s'.bl.map (·.1)
    · exact ⟨e, by simpa only [g', e, if_true] using h⟩
    · simp only [g', e, if_false] at h; cases h
  have hoo : ∀ k c, g'.ow k → g'.om k = some c → (k = m ∧ c = b) ∨ (g.ow k ∧ g.om k = some c ∧ k ≠ m) := fun k c h1 h2 => by
    by_cases e : k = m
    · simp only [g', e, if_true, Option.some.injEq] at h2; exact .inl ⟨e, h2.symm⟩
    · exact .inr ⟨h1.resolve_left e, by simpa only [g', e, if_false] using h2, e⟩
  have keepI : ∀ c o, g.I c o → g'.I c o := fun c o h => .inl h
  have goes : Goes { g with m := g'.m } w g' w := by
    refine ⟨keepI, fun _ _ _ => rfl, fun k c h => h, fun _ _ _ => rfl, fun k T' e' rows' y hy => ?_, fun _ _ _ _ _ h => h⟩
    refine ownRep_goes (g := { g with m := g'.m }) (g' := g') keepI (fun _ _ _ => rfl) (fun j hj => ⟨.inr hj, ?_⟩) (fun _ _ _ _ => rfl) (fun j c o hj hc hI => ?_) hy
    · have : j ≠ m := fun e => hno (e ▸ hj)
      simp only [g', this, if_false]
    · rcases hI with hI | ⟨rfl, _⟩
      · exact hI
      · exact (hm0.disj n j c b1 hj hc).elim
  have refsRep : ∀ (x : AV) (y : Value), refs (s'.bl.map (·.1)) s.ow x = true → rep g w x y → rep g' w x y := fun x y hr h =>
    rep_goes goes (rep_refs (g := g) (g' := { g with m := g'.m }) (ks := s'.bl.map (·.1)) (os := s.ow) rfl (fun k c hk hc => by simp only [g', hk, if_true]; exact hc) rfl (fun _ _ h => ⟨h, rfl⟩) hr h)
  have conv : ∀ (y : Value), rep g w (.arr n T e rows.length) y → rep g' w (.own m T e rows) y := fun y h => by
    simp only [rep] at h
    obtain ⟨b', c', k1, k2, rfl, k3, _, k4⟩ := h
    have : b' = b := by rw [b1] at k1; exact (Option.some.inj k1).symm
    subst this
    obtain ⟨k5, A, T', k6, k7⟩ := k4 (Nat.le_of_ble_eq_true hn7)
    rw [b2] at k6
    cases k6
    simp only [rep]
    have hdr := dreps_take (I := g'.I) (w' := w) hD b3
    rw [hflen] at hdr
    refine ⟨.inl rfl, by simp [g', Value.ownBlock], arr.toList.take (rows.length * e), ⟨by simp; omega, .inr ⟨b', c', arr, rfl, Nat.zero_le _, by rw [← k2]; exact b2, k3, k5, k7, rfl⟩⟩, hdr, hl, fun c hc => ?_⟩
    simp only [g', if_true, Option.some.injEq] at hc
    subst hc
    refine ⟨fun o ho => .inr ⟨rfl, ho⟩, fun o ho hI => ?_⟩
    rcases hI with hI | ⟨_, hI⟩
    · exact b4 o hI
    · omega
  have one : ∀ (x v : AV) (y : Value), OLe (s'.bl.map (·.1)) s.ow n m T e rows x v → rep g w x y → rep g' w v y := fun x v y hd h => by
    rcases hd with ⟨rfl, rfl⟩ | ⟨rfl, hr⟩ | rfl
    · exact conv y h
    · exact refsRep _ _ hr h
    · simp [rep]
  refine ⟨g', ⟨⟨⟨hm0.below, hm0.base, fun c o hc => ?_, fun k c h => hm0.mfr k c (hmm k c h).2, fun k c k1 k2 => ?_, fun k k' c k1 k2 => hm0.minj k k' c (hmm k c k1).2 (hmm k' c k2).2, fun k k' c k1 k2 k3 k4 => ?_, fun k k' c k1 k2 k3 => ?_, fun k cs h => ?_, fun k c h => ?_, fun k h => ?_, fun c o hc => ?_, fun c o hc => .inl (hm0.iold c o hc), fun k c U h => ?_⟩, { I := fun c o hc => hc.elim (hv.I c o) (fun h => h.1 ▸ (hv.m n b b1).1), m := fun k c h => hv.m k c (hmm k c h).2, o := fun k c k1 k2 => (hoo k c k1 k2).elim (fun h => h.2 ▸ (hv.m n b b1).2 (by rw [hro]; simp)) (fun h => hv.o k c h.1 h.2.1), sub := hv.sub, lt := hv.lt, up := hv.up, upm := hv.upm, dn := hv.dn, dnm := hv.dnm, nM := hv.nM, ext := hv.ext }⟩, fun t => ?_, hi.de, hi.sz⟩⟩
  · rcases hc with hc | ⟨rfl, ho⟩
    · exact hm0.cell c o hc
    · rw [cell_of_heap b2]
      rw [Array.getElem?_eq_getElem (by omega)]
      rfl
  · rcases hoo k c k1 k2 with ⟨_, rfl⟩ | ⟨h7, h8, _⟩
    · exact ⟨hbB, (hm0.mfr n c b1).2⟩
    · exact hm0.ofr k c h7 h8
  · rcases hoo k c k1 k3 with ⟨h7, rfl⟩ | ⟨h7, h8, _⟩ <;> rcases hoo k' c k2 k4 with ⟨h9, h10⟩ | ⟨h9, h10, _⟩
    · rw [h7, h9]
    · exact (hm0.disj n k' c b1 h9 h10).elim
    · subst h10; exact (hm0.disj n k c b1 h7 h8).elim
    · exact hm0.oinj k k' c h7 h9 h8 h10
  · obtain ⟨h5, h6⟩ := hmm k c k1
    rcases hoo k' c k2 k3 with ⟨_, rfl⟩ | ⟨h7, h8, _⟩
    · have := hm0.minj k n c h6 b1
      subst this
      exact hnk h5
    · exact hm0.disj k k' c h6 h7 h8
  · obtain ⟨cs0, q1, q2⟩ := oPickB_mem h2 k cs h
    obtain ⟨c, ar, k1, k2, k3, k4⟩ := hm0.blk k cs0 (lookB_mem q1)
    have hk : k ∈ s'.bl.map (·.1) := List.mem_map.2 ⟨_, h, rfl⟩
    have go : ∀ (xs vs : List AV) (ys : List Value), OLes (s'.bl.map (·.1)) s.ow n m T e rows xs vs → reps g w xs ys → reps g' w vs ys := by
      intro xs vs ys hd
      induction hd generalizing ys with
      | nil => intro h; simpa [reps] using h
      | cons h hs ih =>
        intro hq
        simp only [reps] at hq ⊢
        obtain ⟨y, zs, e1, q3, q4⟩ := hq
        exact ⟨y, zs, e1, one _ _ _ h q3, ih _ q4⟩
    refine ⟨c, ar, by simp only [g', hk, if_true]; exact k1, k2, go _ _ _ q2 k3, fun o ho => ?_⟩
    rcases ho with ho | ⟨rfl, _⟩
    · exact k4 o ho
    · have := hm0.minj k n c k1 b1
      subst this
      exact hnk hk
  · obtain ⟨h7, _⟩ := hmm k c h
    obtain ⟨p, hp, rfl⟩ := List.mem_map.1 h7
    exact ⟨p.2, hp⟩
  · rw [h4]
    rcases h with rfl | h
    · exact List.mem_cons_self ..
    · exact List.mem_cons_of_mem _ (hm0.own k h)
  · rcases hc with hc | ⟨rfl, _⟩
    · exact hm0.inew c o hc
    · exact .inr hbB
  · have hk := hpin k c U h
    obtain ⟨p1, p2⟩ := hm0.pin k c U h
    exact ⟨by simp only [g', hk, if_true]; exact p1, p2⟩
  · have pick : ∀ (l : List (Nat × AV)), OPick (s'.bl.map (·.1)) s.ow n m T e rows s.tm l → look l t = .top ∨ OLe (s'.bl.map (·.1)) s.ow n m T e rows (look s.tm t) (look l t) := by
      intro l
      induction l with
      | nil => intro _; exact .inl rfl
      | cons p l ih =>
        intro hp
        obtain ⟨k, v⟩ := p
        simp only [OPick] at hp
        simp only [look]
        cases hb' : Nat.beq k t
        · exact ih hp.2
        · have := Nat.eq_of_beq_eq_true hb'
          subst this
          exact .inr hp.1
    rcases pick _ h1 with h | h
    · rw [h]; simp [rep]
    · exact one _ _ _ h (hi.tm t)
theorem WL_weak {E : En} {ops : Array Oper} {l : List Oper} {Q : Exit → St → Prop} {s : St} (s' : St) (hw : Weak E s s') (h : WL E ops l Q s') : WL E ops l Q s := by
  unfold WL Weak at *
  intro L g a w hi
  obtain ⟨g', hi'⟩ := hw g a w hi
  exact h L g' a w hi'
end Go.Eng
