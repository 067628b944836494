/- Calls that hand back new arrays, empty ones too, and calls that mark two arrays. No program in sight. -/
import Derived.Test.YtikbndfbjgdldaaES
namespace Go.Eng
open Go

/-- THE CONTRACT OF A FUNCTION THAT HANDS BACK NEW ARRAYS: r, in it arrays by the names of nb, with their cells. -/
def CallNew (P : Program) (f : Nat) (args : List AV) (nb : List (Nat × List AV)) (r : AV) : Prop :=
  ∀ (I : Nat → Nat → Prop) (w : World) (vals : Array Value), (∀ b o, I b o → (w.cell? ⟨b, o, none⟩).isSome = true) → dreps I w args vals.toList →
    Calls P f vals w fun e w' => ∃ y, ∃ g' : Gh, e = .returned y ∧ rep g' w' r y ∧ BelowM w.heap.size (fun _ => False) w w' ∧
      (∀ n cs, (n, cs) ∈ nb → ∃ b arr, g'.m n = some b ∧ w.heap.size ≤ b ∧ b < w'.heap.size ∧ w'.heap[b]? = some (.cells arr (g'.mt n) (0, 0)) ∧ reps g' w' cs arr.toList) ∧
      ∀ n n' b, g'.m n = some b → g'.m n' = some b → n = n'
def newQ (E : En) (rs : List ResultVar) (nb : List (Nat × List AV)) (r : AV) : Exit → St → Prop
  | .normal, s => (∃ xs, resA E.P s rs xs ∧ oneA xs = r) ∧ ∀ p ∈ nb, p ∈ s.bl
  | .ret, s => (∃ xs, resA E.P s rs xs ∧ oneA xs = r) ∧ ∀ p ∈ nb, p ∈ s.bl
  | _, _ => False
theorem callNew {P : Program} {f nt : Nat} {fn : Func} {rs : Array ResultVar} {c : Code} {args : List AV} {tm : List (Nat × AV)} {nb : List (Nat × List AV)} {r : AV} (hf : P.funcs[f]? = some fn) (hnt : fn.ntmps = nt) (hrs : fn.results = rs) (hb : fn.body = some c) (hn : Nat.ble args.length nt = true) (htm : iniO 0 args = some tm)
    (h : ∀ (B : Nat) (w0 : World) (I0 : Nat → Nat → Prop), W ⟨P, B, w0, nt, fun _ => False, [], I0, fun _ _ _ => False⟩ c (newQ ⟨P, B, w0, nt, fun _ => False, [], I0, fun _ _ _ => False⟩ rs.toList nb r) ⟨tm, [], []⟩) : CallNew P f args nb r := by
  subst hnt; subst hrs
  intro I w vals hI hargs
  have htm' := iniO_eq htm
  let E : En := ⟨P, w.heap.size, w, fn.ntmps, fun _ => False, [], I, fun _ _ _ => False⟩
  let g : Gh := ⟨I, fun _ => none, fun _ => none, fun _ => False, fun _ => 0⟩
  have hlen := dreps_length hargs
  have hn' := Nat.le_of_ble_eq_true hn
  have hargs' : reps g w args vals.toList := reps_of_dreps hargs
  refine calls_of_wp hf hb ?_
  refine wp_mono (h w.heap.size w I g _ w ⟨⟨BelowM.refl _ _ _, Nat.le_refl _, hI, fun n b h => by simp [g] at h, fun n b h => by simp [g] at h, fun n n' b h => by simp [g] at h, fun n n' b h => by simp [g] at h, fun n n' b h => by simp [g] at h,
    fun n cs h => by simp at h, fun n b h => by simp [g] at h, fun n h => by simp [g] at h, fun b o h => .inl h, fun b o h => h, fun n b T h => h.elim⟩, fun t => ?_, rfl, ?_⟩) fun e a' w' hq => ?_
  · rw [← htm']
    simp only [look_zip, Nat.zero_le, if_true, Nat.sub_zero]
    rcases Nat.lt_or_ge t args.length with h1 | h1
    · obtain ⟨y, hy, hr⟩ := reps_get hargs' (List.getElem?_eq_getElem h1)
      have : t < vals.size := by simpa [← hlen] using h1
      have hy' : vals[t] = y := by simpa [this] using hy
      simp only [List.getD_eq_getElem?_getD, List.getElem?_eq_getElem h1, Option.getD_some]
      simp only [Array.getD_eq_getD_getElem?, Array.getElem?_append_left this, Array.getElem?_eq_getElem this, Option.getD_some, hy']
      exact hr
    · simp only [List.getD_eq_getElem?_getD, List.getElem?_eq_none h1, Option.getD_none, rep]
  · have : vals.size = args.length := by simpa using hlen
    simp; omega
  · obtain ⟨g', s', hq, hi⟩ := hq
    have fin : ((∃ xs, resA P s' fn.results.toList xs ∧ oneA xs = r) ∧ ∀ p ∈ nb, p ∈ s'.bl) → a'.defers = [] ∧ ∃ v, (results fn a'.tmps).run P w' = .ok v w' ∧ ∃ y, ∃ g' : Gh, Ending.returned v = .returned y ∧ rep g' w' r y ∧ BelowM w.heap.size (fun _ => False) w w' ∧
      (∀ n cs, (n, cs) ∈ nb → ∃ b arr, g'.m n = some b ∧ w.heap.size ≤ b ∧ b < w'.heap.size ∧ w'.heap[b]? = some (.cells arr (g'.mt n) (0, 0)) ∧ reps g' w' cs arr.toList) ∧
      ∀ n n' b, g'.m n = some b → g'.m n' = some b → n = n' := by
      rintro ⟨⟨xs, h1, rfl⟩, h3⟩
      obtain ⟨y, k1, k2⟩ := run_results hi h1
      refine ⟨hi.de, y, k1, y, g', rfl, k2, ⟨hi.mem.below.os, hi.mem.below.tape, hi.mem.below.output, hi.mem.below.size, hi.mem.below.block⟩, fun n cs hn => ?_, hi.mem.minj⟩
      obtain ⟨b, arr, m1, m2, m3, _⟩ := hi.mem.blk n cs (h3 _ hn)
      obtain ⟨m4, m5⟩ := hi.mem.mfr n b m1
      have m6 : w.heap.size ≤ b := by
        rcases m4 with m4 | m4 | m4
        · cases m4
        · exact m4
        · exact m4.elim
      exact ⟨b, arr, m1, m6, m5, m2, m3⟩
    cases e with
    | normal => exact fin hq
    | ret => exact fin hq
    | _ => exact hq.elim

/-- Names: the callee's, the caller's. -/
def outN : List (Nat × Nat) → Nat → Option Nat
  | [], _ => none
  | (n, N) :: r, k => bif Nat.beq n k then some N else outN r k
def inN : List (Nat × Nat) → Nat → Option Nat
  | [], _ => none
  | (n, N) :: r, k => bif Nat.beq N k then some n else inN r k
theorem inN_mem : ∀ {σ : List (Nat × Nat)} {k n : Nat}, inN σ k = some n → (n, k) ∈ σ
  | [], k, n, h => by simp [inN] at h
  | (m, N) :: r, k, n, h => by
    simp only [inN] at h
    cases hb : Nat.beq N k
    · rw [hb] at h; exact List.mem_cons_of_mem _ (inN_mem h)
    · rw [hb] at h
      simp only [cond_true, Option.some.injEq] at h
      subst h
      rw [Nat.eq_of_beq_eq_true hb]
      simp
theorem outN_mem : ∀ {σ : List (Nat × Nat)} {k N : Nat}, outN σ k = some N → (k, N) ∈ σ
  | [], k, n, h => by simp [outN] at h
  | (m, N) :: r, k, n, h => by
    simp only [outN] at h
    cases hb : Nat.beq m k
    · rw [hb] at h; exact List.mem_cons_of_mem _ (outN_mem h)
    · rw [hb] at h
      simp only [cond_true, Option.some.injEq] at h
      subst h
      rw [Nat.eq_of_beq_eq_true hb]
      simp
/-- The caller's names are pairwise different, the callee's too, and none is small. -/
def sepB : List (Nat × Nat) → Bool
  | [] => true
  | (n, N) :: r => Nat.ble 1000000 N && (r.all (fun p => !Nat.beq p.2 N && !Nat.beq p.1 n) && sepB r)
theorem sepB_in : ∀ {σ : List (Nat × Nat)}, sepB σ = true → ∀ {n N : Nat}, (n, N) ∈ σ → inN σ N = some n ∧ 1000000 ≤ N ∧ ∀ n' N', (n', N') ∈ σ → (N' = N → n' = n) ∧ (n' = n → N' = N)
  | [], _, n, N, h => by simp at h
  | (m, M) :: r, hs, n, N, h => by
    simp only [sepB, Bool.and_eq_true, List.all_eq_true, Bool.not_eq_true'] at hs
    obtain ⟨h1, h2, h3⟩ := hs
    have hne : ∀ a A, (a, A) ∈ r → A ≠ M ∧ a ≠ m := fun a A ha => ⟨fun e => by have := (h2 (a, A) ha).1; simp [e] at this, fun e => by have := (h2 (a, A) ha).2; simp [e] at this⟩
    rcases List.mem_cons.1 h with h | h
    · cases h
      refine ⟨by simp [inN], Nat.le_of_ble_eq_true h1, fun n' N' h' => ?_⟩
      rcases List.mem_cons.1 h' with h' | h'
      · cases h'; exact ⟨fun _ => rfl, fun _ => rfl⟩
      · exact ⟨fun e => absurd e (hne _ _ h').1, fun e => absurd e (hne _ _ h').2⟩
    · obtain ⟨k1, k2, k3⟩ := sepB_in h3 h
      have hM := hne _ _ h
      refine ⟨?_, k2, fun n' N' h' => ?_⟩
      · have : Nat.beq M N = false := by
          cases hb : Nat.beq M N
          · rfl
          · exact absurd (Nat.eq_of_beq_eq_true hb).symm hM.1
        simp only [inN, this, cond_false]; exact k1
      · rcases List.mem_cons.1 h' with h' | h'
        · cases h'; exact ⟨fun e => absurd e.symm hM.1, fun e => absurd e.symm hM.2⟩
        · exact k3 n' N' h'
mutual
def renS (σ : List (Nat × Nat)) : AV → Option AV
  | .v x => some (.v x)
  | .top => some .top
  | .arr n T e l => match outN σ n with | some N => some (.arr N T e l) | none => none
  | .agg cs => match renSL σ cs with | some ds => some (.agg ds) | none => none
  | .tup cs => match renSL σ cs with | some ds => some (.tup ds) | none => none
  | _ => none
def renSL (σ : List (Nat × Nat)) : List AV → Option (List AV)
  | [] => some []
  | x :: xs => match renS σ x, renSL σ xs with | some y, some ys => some (y :: ys) | _, _ => none
end
def renB (σ : List (Nat × Nat)) : List (Nat × List AV) → Option (List (Nat × List AV))
  | [] => some []
  | (n, cs) :: r => match outN σ n, renB σ r with | some N, some r' => some ((N, cs) :: r') | _, _ => none
theorem renB_mem {σ : List (Nat × Nat)} : ∀ {nb nb' : List (Nat × List AV)}, renB σ nb = some nb' → (∀ N cs, (N, cs) ∈ nb' → ∃ n, (n, cs) ∈ nb ∧ (n, N) ∈ σ) ∧ ∀ n cs, (n, cs) ∈ nb → ∃ N, (N, cs) ∈ nb' ∧ (n, N) ∈ σ
  | [], nb', h => by
    simp only [renB, Option.some.injEq] at h
    subst h
    exact ⟨fun _ _ h => by simp at h, fun _ _ h => by simp at h⟩
  | (n, cs) :: r, nb', h => by
    simp only [renB] at h
    cases h1 : outN σ n with
    | none => simp [h1] at h
    | some N =>
      cases h2 : renB σ r with
      | none => simp [h1, h2] at h
      | some r' =>
        simp only [h1, h2, Option.some.injEq] at h
        subst h
        obtain ⟨i1, i2⟩ := renB_mem h2
        refine ⟨fun M ds hm => ?_, fun m ds hm => ?_⟩
        · rcases List.mem_cons.1 hm with hm | hm
          · cases hm; exact ⟨n, by simp, outN_mem h1⟩
          · obtain ⟨m, k1, k2⟩ := i1 M ds hm; exact ⟨m, by simp [k1], k2⟩
        · rcases List.mem_cons.1 hm with hm | hm
          · cases hm; exact ⟨N, by simp, outN_mem h1⟩
          · obtain ⟨M, k1, k2⟩ := i2 m ds hm; exact ⟨M, by simp [k1], k2⟩
mutual
theorem rep_renS {g' gc : Gh} {w w' : World} {σ : List (Nat × Nat)} (hA : ∀ n N T e l y, (n, N) ∈ σ → rep g' w (.arr n T e l) y → rep gc w' (.arr N T e l) y) : ∀ {x z : AV} {y : Value}, renS σ x = some z → rep g' w x y → rep gc w' z y
  | .v x, z, y, h, hr => by
    simp only [renS, Option.some.injEq] at h
    subst h
    simpa only [rep] using hr
  | .top, z, y, h, hr => by
    simp only [renS, Option.some.injEq] at h
    subst h
    simp only [rep]
  | .arr n T e l, z, y, h, hr => by
    simp only [renS] at h
    cases h1 : outN σ n with
    | none => simp [h1] at h
    | some N =>
      simp only [h1, Option.some.injEq] at h
      subst h
      exact hA n N T e l y (outN_mem h1) hr
  | .agg cs, z, y, h, hr => by
    simp only [renS] at h
    cases h1 : renSL σ cs with
    | none => simp [h1] at h
    | some ds =>
      simp only [h1, Option.some.injEq] at h
      subst h
      simp only [rep] at hr ⊢
      obtain ⟨a, e, hr⟩ := hr
      exact ⟨a, e, reps_renS hA h1 hr⟩
  | .tup cs, z, y, h, hr => by
    simp only [renS] at h
    cases h1 : renSL σ cs with
    | none => simp [h1] at h
    | some ds =>
      simp only [h1, Option.some.injEq] at h
      subst h
      simp only [rep] at hr ⊢
      obtain ⟨a, e, hr⟩ := hr
      exact ⟨a, e, reps_renS hA h1 hr⟩
  | .sl .., z, y, h, _ => by simp [renS] at h
  | .own .., z, y, h, _ => by simp [renS] at h
  | .ptr .., z, y, h, _ => by simp [renS] at h
  | .eptr .., z, y, h, _ => by simp [renS] at h
  | .fn .., z, y, h, _ => by simp [renS] at h
theorem reps_renS {g' gc : Gh} {w w' : World} {σ : List (Nat × Nat)} (hA : ∀ n N T e l y, (n, N) ∈ σ → rep g' w (.arr n T e l) y → rep gc w' (.arr N T e l) y) : ∀ {xs zs : List AV} {ys : List Value}, renSL σ xs = some zs → reps g' w xs ys → reps gc w' zs ys
  | [], zs, ys, h, hr => by
    simp only [renSL, Option.some.injEq] at h
    subst h
    simpa only [reps] using hr
  | x :: xs, zs, ys, h, hr => by
    simp only [renSL] at h
    cases h1 : renS σ x with
    | none => simp [h1] at h
    | some z =>
      cases h2 : renSL σ xs with
      | none => simp [h1, h2] at h
      | some zs' =>
        simp only [h1, h2, Option.some.injEq] at h
        subst h
        simp only [reps] at hr ⊢
        obtain ⟨y, ys', e, k1, k2⟩ := hr
        exact ⟨y, ys', e, rep_renS hA h1 k1, reps_renS hA h2 k2⟩
end
/-- All cells are plain. -/
inductive AllPl : List (Nat × List AV) → Prop where
  | nil : AllPl []
  | cons {n : Nat} {rows : List (List AV)} {r : List (Nat × List AV)} (h : ∀ x ∈ rows.flatten, plain x = true) (hs : AllPl r) : AllPl ((n, (rows ++ []).flatten) :: r)
theorem AllPl.at {nb : List (Nat × List AV)} (h : AllPl nb) : ∀ p ∈ nb, ∀ x ∈ p.2, plain x = true := by
  induction h with
  | nil => intro p hp; simp at hp
  | cons h _ ih =>
    intro p hp x hx
    rcases List.mem_cons.1 hp with rfl | hp
    · rw [List.append_nil] at hx; exact h x hx
    · exact ih p hp x hx
theorem moreNil {e : Nat} : MoreOk e [] := fun r h => by simp at h
section
variable {E : En} {ops : Array Oper} {rest : List Oper} {Q : Exit → St → Prop} {tm : List (Nat × AV)} {bl bl' : List (Nat × List AV)} {ow : List Nat} {d : Nat} {ty : TypeId} {pos : String} {af : Array Edge}
/-- A call that hands back new arrays: the caller's own from now on. -/
theorem wlnew {x : Operand} {xs : Array Operand} {ts : Array TypeId} {f : Nat} {ys : List AV} {nb nb' : List (Nat × List AV)} {r z : AV} (σ : List (Nat × Nat)) [hf : FnOk E.P f] (h : CallNew E.P f ys nb r) (hsep : sepB σ = true) (hz : renS σ r = some z) (hnb : renB σ nb = some nb') (hσ : σ.all (fun p => nb.any fun q => Nat.beq q.1 p.1) = true) (hpl' : AllPl nb) (hx : ev tm x = .v (.func (.func f) #[] #[])) (ha : LeS bl (xs.toList.map (ev tm)) ys)
    (hd : Nat.blt d E.nt = true) (hfr : (nb'.all fun p => bl.all fun q => !Nat.beq p.1 q.1) = true) (hk : WL E ops rest Q ⟨(d, z) :: tm, nb' ++ bl, ow⟩) :
    WL E ops (⟨some d, .call ⟨.value x, xs, ts⟩, ty, pos, af, none⟩ :: rest) Q ⟨tm, bl, ow⟩ := by
  intro g a w hi
  have hpl := hpl'.at
  unfold wpList
  rw [show Region.wanted ⟨some d, .call ⟨.value x, xs, ts⟩, ty, pos, af, none⟩ (yielded ops a.tmps) = true by simp [Region.wanted]]
  refine .inl ?_
  have h1 := rep_ev hi.tm x
  have h2 : reps g w (xs.toList.map (ev tm)) (xs.toList.map a.eval) := reps_map _ fun y _ => rep_ev hi.tm y
  rw [hx] at h1
  simp only [rep] at h1
  obtain ⟨fn, f1, f2, f3⟩ := hf.ok
  have f2' : fn.name ≠ "runtime.NumGoroutine" := by simpa using f2
  have f3' : fn.body ≠ none := fun e => by rw [e] at f3; simp at f3
  have hrun : (execOp a.eval ⟨some d, .call ⟨.value x, xs, ts⟩, ty, pos, af, none⟩).run E.P w = .ok (.enter f (xs.map a.eval)) w := by
    simp [execOp, resolve, Deferred.ofValue, h1, invoke, callFunc, f1, f2', f3']
  unfold Oper.wp
  rw [hrun]
  have hm := hi.mem
  refine (h (seen g w) w (xs.map a.eval) (seen_cell hm) (by rw [Array.toList_map]; exact dreps_leS hm (fun _ h => h) ha h2)).mono fun e' w' he => ?_
  obtain ⟨y, g', rfl, h3, hB, hN, hinj⟩ := he
  have heap : ∀ k, k < w.heap.size → w'.heap[k]? = w.heap[k]? := fun k hk => hB.block k hk (fun h => h)
  have hsz := hB.size
  have hIlt : ∀ b o, g.I b o → b < w.heap.size := fun b o hb => cell_lt (hm.cell b o hb)
  have keeps : Keeps g.I w w' := fun b o hb => World.cell?_of_block (a := ⟨b, o, none⟩) (heap b (hIlt b o hb))
  have hfr' : ∀ p ∈ nb', ∀ q ∈ bl, p.1 ≠ q.1 := fun p hp q hq e => by
    have := List.all_eq_true.1 (List.all_eq_true.1 hfr p hp) q hq
    rw [e] at this; simp at this
  obtain ⟨r1, r2⟩ := renB_mem hnb
  have hof : ∀ n N, (n, N) ∈ σ → ∃ cs, (n, cs) ∈ nb ∧ (N, cs) ∈ nb' := fun n N hn => by
    have := List.all_eq_true.1 hσ _ hn
    obtain ⟨⟨n', cs⟩, hq, he⟩ := List.any_eq_true.1 this
    have := Nat.eq_of_beq_eq_true he
    simp only at this
    subst this
    obtain ⟨N', k1, k2⟩ := r2 n' cs hq
    have := ((sepB_in hsep hn).2.2 n' N' k2).2 rfl
    subst this
    exact ⟨cs, hq, k1⟩
  have hnone : ∀ n N, (n, N) ∈ σ → g.m N = none := fun n N hn => by
    cases hmN : g.m N with
    | none => rfl
    | some b' =>
      obtain ⟨cs, hc⟩ := hm.key N b' hmN
      obtain ⟨ds, _, hd'⟩ := hof n N hn
      exact absurd rfl (hfr' _ hd' (N, cs) hc)
  let gc : Gh := { g with m := fun k => match inN σ k with | some n => g'.m n | none => g.m k, mt := fun k => match inN σ k with | some n => g'.mt n | none => g.mt k }
  have gm1 : ∀ n N, (n, N) ∈ σ → gc.m N = g'.m n ∧ gc.mt N = g'.mt n := fun n N hn => by
    have := (sepB_in hsep hn).1
    simp only [gc, this]
    exact ⟨trivial, trivial⟩
  have gm2 : ∀ k, inN σ k = none → gc.m k = g.m k ∧ gc.mt k = g.mt k := fun k hk => by simp only [gc, hk]; exact ⟨trivial, trivial⟩
  have hmm : ∀ k b', gc.m k = some b' → (∃ n, (n, k) ∈ σ ∧ g'.m n = some b') ∨ (inN σ k = none ∧ g.m k = some b') := fun k b' hk => by
    cases hi : inN σ k with
    | none => rw [(gm2 k hi).1] at hk; exact .inr ⟨rfl, hk⟩
    | some n => have := inN_mem hi; rw [(gm1 n k this).1] at hk; exact .inl ⟨n, this, hk⟩
  have hold : ∀ k b', g.m k = some b' → inN σ k = none := fun k b' hk => by
    cases hi : inN σ k with
    | none => rfl
    | some n => rw [hnone n k (inN_mem hi)] at hk; cases hk
  have hnew : ∀ n k b', (n, k) ∈ σ → g'.m n = some b' → w.heap.size ≤ b' ∧ b' < w'.heap.size := fun n k b' hn hk => by
    obtain ⟨cs, q1, _⟩ := hof n k hn
    obtain ⟨b, arr, p1, p2, p3, _⟩ := hN n cs q1
    rw [p1] at hk
    cases hk
    exact ⟨p2, p3⟩
  have goes : Goes g w gc w' :=
    ⟨fun _ _ h => h, keeps, fun k b' hk => by rw [(gm2 k (hold k b' hk)).1]; exact hk, fun k b' hk => (gm2 k (hold k b' hk)).2, fun k T' e' rows' y' hy' => ownRep_goes (g := g) (g' := gc) (fun _ _ h => h) keeps (fun k hk => ⟨hk, rfl⟩) (fun k b' k1 k2 => heap b' (hm.ofr k b' k1 k2).2) (fun _ _ _ _ _ h => h) hy'⟩
  have hmem : Mem E gc (nb' ++ bl) ow w' :=
    { below := ⟨hB.os.trans hm.below.os, hB.tape.trans hm.below.tape, hB.output.trans hm.below.output, Nat.le_trans hm.below.size hsz, fun k hk hM => (heap k (Nat.lt_of_lt_of_le hk hm.base)).trans (hm.below.block k hk hM)⟩
      base := Nat.le_trans hm.base hsz
      cell := fun b' o hbo => by rw [keeps b' o hbo]; exact hm.cell b' o hbo
      mfr := fun k b' hk => by
        rcases hmm k b' hk with ⟨n, k1, k2⟩ | ⟨_, k2⟩
        · obtain ⟨q1, q2⟩ := hnew n k b' k1 k2
          exact ⟨.inr (.inl (Nat.le_trans hm.base q1)), q2⟩
        · exact ⟨(hm.mfr k b' k2).1, Nat.lt_of_lt_of_le (hm.mfr k b' k2).2 hsz⟩
      ofr := fun k b' k1 k2 => ⟨(hm.ofr k b' k1 k2).1, Nat.lt_of_lt_of_le (hm.ofr k b' k1 k2).2 hsz⟩
      minj := fun k k' b' k1 k2 => by
        rcases hmm k b' k1 with ⟨n, p1, p2⟩ | ⟨_, p2⟩ <;> rcases hmm k' b' k2 with ⟨n', q1, q2⟩ | ⟨_, q2⟩
        · have := hinj n n' b' p2 q2
          subst this
          exact ((sepB_in hsep q1).2.2 n k p1).2 rfl
        · have := (hm.mfr k' _ q2).2; have := (hnew _ _ _ p1 p2).1; omega
        · have := (hm.mfr k _ p2).2; have := (hnew _ _ _ q1 q2).1; omega
        · exact hm.minj k k' b' p2 q2
      oinj := hm.oinj
      disj := fun k k' b' k1 k2 k3 => by
        rcases hmm k b' k1 with ⟨n, p1, p2⟩ | ⟨_, p2⟩
        · have := (hm.ofr k' _ k2 k3).2; have := (hnew _ _ _ p1 p2).1; omega
        · exact hm.disj k k' b' p2 k2 k3
      blk := fun k ds hk => by
        rcases List.mem_append.1 hk with hk | hk
        · obtain ⟨n, q1, q2⟩ := r1 k ds hk
          obtain ⟨b, arr, p1, p2, p3, p4, p5⟩ := hN n ds q1
          obtain ⟨m1, m2⟩ := gm1 n k q2
          exact ⟨b, arr, m1.trans p1, by rw [m2]; exact p4, reps_plain (hpl _ q1) p5, fun o ho => by have := hIlt _ o ho; omega⟩
        · obtain ⟨b', arr', q1, q2, q3, q4⟩ := hm.blk k ds hk
          exact ⟨b', arr', goes.m k b' q1, by rw [goes.mt k b' q1]; exact (heap b' (hm.mfr k b' q1).2).trans q2, reps_goes goes q3, q4⟩
      key := fun k b' hk => by
        rcases hmm k b' hk with ⟨n, k1, _⟩ | ⟨_, k2⟩
        · obtain ⟨cs, _, hc⟩ := hof n k k1; exact ⟨cs, List.mem_append_left _ hc⟩
        · obtain ⟨cs, hc⟩ := hm.key k b' k2; exact ⟨cs, List.mem_append_right _ hc⟩
      own := hm.own
      inew := hm.inew
      iold := hm.iold
      pin := fun k b' T' hp => ⟨goes.m k b' (hm.pin k b' T' hp).1, (goes.mt k b' (hm.pin k b' T' hp).1).trans (hm.pin k b' T' hp).2⟩ }
  have hz' : rep gc w' z y := rep_renS (fun n N T e l u hn hu => by
    simp only [rep] at hu ⊢
    obtain ⟨b, c, q1, q2, q3, q4, _⟩ := hu
    obtain ⟨m1, m2⟩ := gm1 n N hn
    have := (sepB_in hsep hn).2.1
    exact ⟨b, c, m1.trans q1, m2.trans q2, q3, q4, fun h => by omega⟩) hz h3
  have hi' : Inv E g ⟨tm, bl, ow⟩ a w := hi
  have := hi'.app (d := some d) (v := z) (y := y) (nb := nb') (no := []) (fun k hk => by cases hk; exact Nat.le_of_ble_eq_true hd) goes (by simpa using hmem) hz'
  exact hk gc _ w' this
end

/-! ### New arrays, seen as data -/
inductive DatN (n e : Nat) (rows : List (List AV)) : List AV → List AV → Prop where
  | nil : DatN n e rows [] []
  | v {x : Value} {xs ys : List AV} (hs : DatN n e rows xs ys) : DatN n e rows (.v x :: xs) (.v x :: ys)
  | arr {T l : Nat} {xs ys : List AV} (hl : l = rows.length) (hs : DatN n e rows xs ys) : DatN n e rows (.arr n T e l :: xs) (.sl e rows :: ys)
  | agg {cs ds xs ys : List AV} (h : DatN n e rows cs ds) (hs : DatN n e rows xs ys) : DatN n e rows (.agg cs :: xs) (.agg ds :: ys)
inductive DatR (n e : Nat) (rows : List (List AV)) : AV → AV → Prop where
  | one {x y : AV} (h : DatN n e rows [x] [y]) : DatR n e rows x y
  | tup {cs ds : List AV} (h : DatN n e rows cs ds) : DatR n e rows (.tup cs) (.tup ds)
theorem reps_datN {g g2 : Gh} {w : World} {n e b : Nat} {rows : List (List AV)} (hm : g.m n = some b) (hd : drows g2.I w e b 0 rows) {xs ys : List AV} (h : DatN n e rows xs ys) : ∀ {zs : List Value}, reps g w xs zs → reps g2 w ys zs := by
  induction h with
  | nil => intro zs h; simpa only [reps] using h
  | v _ ih => intro zs h; simp only [reps, rep] at h ⊢; obtain ⟨y, zs', e, h1, h2⟩ := h; exact ⟨y, zs', e, h1, ih h2⟩
  | arr hl _ ih =>
    intro zs h
    subst hl
    simp only [reps, rep] at h ⊢
    obtain ⟨y, zs', e, ⟨c, k, k1, _, rfl, k4, _⟩, h2⟩ := h
    rw [hm] at k1
    cases k1
    refine ⟨_, zs', e, ?_, ih h2⟩
    simp only [drep]
    exact ⟨_, k, rfl, .inr ⟨b, 0, rfl, hd⟩, k4⟩
  | agg _ _ ih1 ih2 => intro zs h; simp only [reps, rep] at h ⊢; obtain ⟨y, zs', e, ⟨a, ea, h1⟩, h2⟩ := h; exact ⟨y, zs', e, ⟨a, ea, ih1 h1⟩, ih2 h2⟩
theorem callOk_of_new {P : Program} {f n e : Nat} {args : List AV} {rows : List (List AV)} {r z : AV} (h : CallNew P f args [(n, (rows ++ []).flatten)] r) (hp : ∀ x ∈ rows.flatten, plain x = true) (hl : ∀ r ∈ rows, r.length = e) (hz : DatR n e rows r z) : CallOk P f args (fun r => r = z) := by
  intro I w vals hI hargs
  refine (h I w vals hI hargs).mono fun e' w' he => ?_
  obtain ⟨y, g', rfl, h1, hB, hN, _⟩ := he
  obtain ⟨b, arr, m1, m2, m3, m4, m5⟩ := hN n _ List.mem_cons_self
  rw [List.append_nil] at m5
  have hsz : arr.toList.length = rows.length * e := by rw [reps_length m5, flatten_length hl]
  let g2 : Gh := ⟨fun b' o => I b' o ∨ (b' = b ∧ o < rows.length * e), fun _ => none, fun _ => none, fun _ => False, fun _ => 0⟩
  have hd5 : dreps g2.I w' rows.flatten arr.toList := by
    have := dreps_take (g := g') (w := w') (I := g2.I) (w' := w') (xs := rows.flatten) (zs := []) hp (by rw [List.append_nil]; exact m5)
    rw [List.take_of_length_le (by rw [hsz, flatten_length hl]; exact Nat.le_refl _)] at this
    exact this
  have hd : drows g2.I w' e b 0 rows := drows_iff.2 ⟨hl, dcells_of_list hd5 fun j v hj => by
    have hjl := (List.getElem?_eq_some_iff.1 hj).1
    rw [Nat.zero_add]
    exact ⟨by rw [cell_of_heap m4]; simpa using hj, .inr ⟨rfl, by omega⟩⟩⟩
  have hIlt : ∀ b' o, I b' o → b' < w.heap.size := fun b' o hb => cell_lt (hI b' o hb)
  refine ⟨y, z, g2, rfl, rfl, ?_, hB, fun _ _ h => .inl h, fun b' o hb => ?_, fun b' o hb => ?_, fun k b' h => h.elim, fun k k' b' h => h.elim⟩
  · cases hz with
    | one hz =>
      have := reps_datN (g := g') (g2 := g2) m1 hd hz (zs := [y]) (by simp only [reps]; exact ⟨y, _, rfl, h1, rfl⟩)
      simp only [reps] at this
      obtain ⟨y', _, e1, k, _⟩ := this
      cases e1
      exact k
    | tup hz =>
      simp only [rep] at h1 ⊢
      obtain ⟨a, ea, h1⟩ := h1
      exact ⟨a, ea, reps_datN (g := g') (g2 := g2) m1 hd hz h1⟩
  · rcases hb with hb | ⟨rfl, _⟩
    · exact .inl hb
    · exact .inr m2
  · rcases hb with hb | ⟨rfl, ho⟩
    · rw [World.cell?_of_block (a := ⟨b', o, none⟩) (hB.block b' (hIlt b' o hb) (fun h => h))]; exact hI b' o hb
    · rw [cell_of_heap m4]
      have : o < arr.size := by have : arr.toList.length = arr.size := by simp
                                omega
      simp [this]

/-! ### A callee that marks two arrays of its caller's -/
def gM2 (b T c U : Nat) : Gh := ⟨fun _ _ => False, fun n => if n = 1000000 then some b else if n = 1000001 then some c else none, fun _ => none, fun _ => False, fun n => if n = 1000000 then T else U⟩
abbrev enM2 (P : Program) (B : Nat) (w0 : World) (nt b c T U : Nat) : En := ⟨P, B, w0, nt, fun k => k = b ∨ k = c, [], fun _ _ => False, fun n k V => (n = 1000000 ∧ k = b ∧ V = T) ∨ (n = 1000001 ∧ k = c ∧ V = U)⟩
/-- THE CONTRACT OF A FUNCTION THAT MARKS TWO ARRAYS (1000000, 1000001). -/
def CallMark2 (P : Program) (f T e U k : Nat) (args : List AV) (rows rows' sows sows' : List (List AV)) (r : Value) : Prop :=
  ∀ (w : World) (b c : Nat) (vals arr brr : Array Value) (more nore : List (List AV)), b ≠ c → MoreOk e more → MoreOk k nore → w.heap[b]? = some (.cells arr T (0, 0)) → w.heap[c]? = some (.cells brr U (0, 0)) →
    reps (gM2 b T c U) w (rows ++ more).flatten arr.toList → reps (gM2 b T c U) w (sows ++ nore).flatten brr.toList → reps (gM2 b T c U) w args vals.toList →
    Calls P f vals w fun e' w' => e' = .returned r ∧ BelowM w.heap.size (fun k => k = b ∨ k = c) w w' ∧ (∃ arr', w'.heap[b]? = some (.cells arr' T (0, 0)) ∧ ∃ g' : Gh, reps g' w' (rows' ++ more).flatten arr'.toList) ∧
      ∃ arr', w'.heap[c]? = some (.cells arr' U (0, 0)) ∧ ∃ g' : Gh, reps g' w' (sows' ++ nore).flatten arr'.toList
def markQ2 (E : En) (rs : List ResultVar) (r : Value) (rows sows : List AV) : Exit → St → Prop
  | .normal, s => resA E.P s rs [.v r] ∧ (1000000, rows) ∈ s.bl ∧ (1000001, sows) ∈ s.bl
  | .ret, s => resA E.P s rs [.v r] ∧ (1000000, rows) ∈ s.bl ∧ (1000001, sows) ∈ s.bl
  | _, _ => False
theorem callMark2 {P : Program} {f nt T e U k : Nat} {fn : Func} {rs : Array ResultVar} {co : Code} {args : List AV} {tm : List (Nat × AV)} {rows rows' sows sows' : List (List AV)} {r : Value} (hf : P.funcs[f]? = some fn) (hnt : fn.ntmps = nt) (hrs : fn.results = rs) (hb : fn.body = some co) (hn : Nat.ble args.length nt = true) (htm : iniO 0 args = some tm)
    (h : ∀ (B : Nat) (w0 : World) (b c : Nat) (more nore : List (List AV)), MoreOk e more → MoreOk k nore → W (enM2 P B w0 nt b c T U) co (markQ2 (enM2 P B w0 nt b c T U) rs.toList r (rows' ++ more).flatten (sows' ++ nore).flatten) ⟨tm, [(1000000, (rows ++ more).flatten), (1000001, (sows ++ nore).flatten)], []⟩) : CallMark2 P f T e U k args rows rows' sows sows' r := by
  subst hnt; subst hrs
  intro w b c vals arr brr more nore hbc hmore hnore hh hh2 hreps hreps2 hargs'
  have htm' := iniO_eq htm
  have hn' := Nat.le_of_ble_eq_true hn
  have hblt : b < w.heap.size := (Array.getElem?_eq_some_iff.1 hh).1
  have hclt : c < w.heap.size := (Array.getElem?_eq_some_iff.1 hh2).1
  let E : En := enM2 P w.heap.size w fn.ntmps b c T U
  let g : Gh := gM2 b T c U
  have hlen := reps_length hargs'
  have hgm : ∀ n d, g.m n = some d → (n = 1000000 ∧ d = b) ∨ (n = 1000001 ∧ d = c) := fun n d h => by
    by_cases e1 : n = 1000000
    · simp only [g, gM2, e1, if_true, Option.some.injEq] at h; exact .inl ⟨e1, h.symm⟩
    · by_cases e2 : n = 1000001
      · subst e2
        simp [g, gM2] at h; exact .inr ⟨rfl, h.symm⟩
      · simp only [g, gM2, e1, e2, if_false] at h; cases h
  refine calls_of_wp hf hb ?_
  refine wp_mono (h w.heap.size w b c more nore hmore hnore g _ w ⟨⟨BelowM.refl _ _ _, Nat.le_refl _, fun _ _ h => h.elim, fun n d h => ?_, fun _ _ h => h.elim, fun n n' d h1 h2 => ?_, fun _ _ _ h => h.elim, fun _ _ _ _ h => h.elim,
    fun n cs h => ?_, fun n d h => ?_, fun _ h => h.elim, fun _ _ h => h.elim, fun _ _ h => h.elim, fun n d V h => ?_⟩, fun t => ?_, rfl, ?_⟩) fun e a' w' hq => ?_
  · rcases hgm n d h with ⟨rfl, rfl⟩ | ⟨rfl, rfl⟩
    · exact ⟨.inr (.inr (.inl rfl)), hblt⟩
    · exact ⟨.inr (.inr (.inr rfl)), hclt⟩
  · rcases hgm n d h1 with ⟨rfl, rfl⟩ | ⟨rfl, rfl⟩ <;> rcases hgm n' _ h2 with ⟨rfl, h3⟩ | ⟨rfl, h3⟩
    · rfl
    · exact absurd h3 hbc
    · exact absurd h3.symm hbc
    · rfl
  · simp only [List.mem_cons, List.not_mem_nil, or_false, Prod.mk.injEq] at h
    rcases h with ⟨rfl, rfl⟩ | ⟨rfl, rfl⟩
    · exact ⟨b, arr, by simp [g, gM2], by simpa [g, gM2] using hh, hreps, fun _ h => h⟩
    · exact ⟨c, brr, by simp [g, gM2], by simpa [g, gM2] using hh2, hreps2, fun _ h => h⟩
  · rcases hgm n d h with ⟨rfl, rfl⟩ | ⟨rfl, rfl⟩
    · exact ⟨_, List.mem_cons_self ..⟩
    · exact ⟨_, List.mem_cons_of_mem _ (List.mem_cons_self ..)⟩
  · rcases h with ⟨rfl, rfl, rfl⟩ | ⟨rfl, rfl, rfl⟩
    · exact ⟨by simp [g, gM2], by simp [g, gM2]⟩
    · exact ⟨by simp [g, gM2], by simp [g, gM2]⟩
  · rw [← htm']
    simp only [look_zip, Nat.zero_le, if_true, Nat.sub_zero]
    rcases Nat.lt_or_ge t args.length with h1 | h1
    · obtain ⟨y, hy, hr⟩ := reps_get hargs' (List.getElem?_eq_getElem h1)
      have : t < vals.size := by simpa [← hlen] using h1
      have hy' : vals[t] = y := by simpa [this] using hy
      simp only [List.getD_eq_getElem?_getD, List.getElem?_eq_getElem h1, Option.getD_some]
      simp only [Array.getD_eq_getD_getElem?, Array.getElem?_append_left this, Array.getElem?_eq_getElem this, Option.getD_some, hy']
      exact hr
    · simp only [List.getD_eq_getElem?_getD, List.getElem?_eq_none h1, Option.getD_none, rep]
  · have : vals.size = args.length := by simpa using hlen
    simp; omega
  · obtain ⟨g', s', hq, hi⟩ := hq
    have fin : resA P s' fn.results.toList [.v r] ∧ (1000000, (rows' ++ more).flatten) ∈ s'.bl ∧ (1000001, (sows' ++ nore).flatten) ∈ s'.bl → a'.defers = [] ∧ ∃ v, (results fn a'.tmps).run P w' = .ok v w' ∧ (Ending.returned v = .returned r ∧ BelowM w.heap.size (fun k => k = b ∨ k = c) w w' ∧ (∃ arr', w'.heap[b]? = some (.cells arr' T (0, 0)) ∧ ∃ g' : Gh, reps g' w' (rows' ++ more).flatten arr'.toList) ∧
        ∃ arr', w'.heap[c]? = some (.cells arr' U (0, 0)) ∧ ∃ g' : Gh, reps g' w' (sows' ++ nore).flatten arr'.toList) := by
      rintro ⟨h1, h2, h2'⟩
      obtain ⟨y, k1, k2⟩ := run_results hi h1
      have hy : y = r := by simpa only [oneA, rep] using k2
      subst hy
      obtain ⟨b', arr', m1, m2, m3, _⟩ := hi.mem.blk _ _ h2
      obtain ⟨c', brr', q1, q2, q3, _⟩ := hi.mem.blk _ _ h2'
      obtain ⟨p1, p2⟩ := hi.mem.pin 1000000 b T (.inl ⟨rfl, rfl, rfl⟩)
      obtain ⟨p3, p4⟩ := hi.mem.pin 1000001 c U (.inr ⟨rfl, rfl, rfl⟩)
      have : b' = b := by rw [p1] at m1; exact (Option.some.inj m1).symm
      subst this
      have : c' = c := by rw [p3] at q1; exact (Option.some.inj q1).symm
      subst this
      rw [p2] at m2
      rw [p4] at q2
      exact ⟨hi.de, y, k1, rfl, hi.mem.below, ⟨arr', m2, g', m3⟩, brr', q2, g', q3⟩
    cases e with
    | normal => exact fin hq
    | ret => exact fin hq
    | _ => exact hq.elim
/-- What is handed to it: the arrays n and m, by the pinned names. -/
inductive MkN2 (n m : Nat) : List AV → List AV → Prop where
  | nil : MkN2 n m [] []
  | v {x : Value} {xs ys : List AV} (hs : MkN2 n m xs ys) : MkN2 n m (.v x :: xs) (.v x :: ys)
  | arr {T e l : Nat} {xs ys : List AV} (hs : MkN2 n m xs ys) : MkN2 n m (.arr n T e l :: xs) (.arr 1000000 T e l :: ys)
  | arr2 {T e l : Nat} {xs ys : List AV} (hs : MkN2 n m xs ys) : MkN2 n m (.arr m T e l :: xs) (.arr 1000001 T e l :: ys)
  | agg {cs ds xs ys : List AV} (h : MkN2 n m cs ds) (hs : MkN2 n m xs ys) : MkN2 n m (.agg cs :: xs) (.agg ds :: ys)
theorem reps_mkN2 {g : Gh} {w : World} {n m b c T0 U0 : Nat} (hm : g.m n = some b) (ht : g.mt n = T0) (hm2 : g.m m = some c) (ht2 : g.mt m = U0) {xs ys : List AV} (h : MkN2 n m xs ys) : ∀ {zs : List Value}, reps g w xs zs → reps (gM2 b T0 c U0) w ys zs := by
  induction h with
  | nil => intro zs h; simpa only [reps] using h
  | v _ ih => intro zs h; simp only [reps, rep] at h ⊢; obtain ⟨y, zs', e, h1, h2⟩ := h; exact ⟨y, zs', e, h1, ih h2⟩
  | arr _ ih =>
    intro zs h
    simp only [reps, rep] at h ⊢
    obtain ⟨y, zs', e, ⟨c', k, k1, k2, k3, k4, _⟩, h2⟩ := h
    rw [hm] at k1
    cases k1
    exact ⟨y, zs', e, ⟨b, k, by simp [gM2], by rw [← k2, ht]; simp [gM2], k3, k4, fun h => by omega⟩, ih h2⟩
  | arr2 _ ih =>
    intro zs h
    simp only [reps, rep] at h ⊢
    obtain ⟨y, zs', e, ⟨c', k, k1, k2, k3, k4, _⟩, h2⟩ := h
    rw [hm2] at k1
    cases k1
    exact ⟨y, zs', e, ⟨c, k, by simp [gM2], by rw [← k2, ht2]; simp [gM2], k3, k4, fun h => by omega⟩, ih h2⟩
  | agg _ _ ih1 ih2 => intro zs h; simp only [reps, rep] at h ⊢; obtain ⟨y, zs', e, ⟨a, ea, h1⟩, h2⟩ := h; exact ⟨y, zs', e, ⟨a, ea, ih1 h1⟩, ih2 h2⟩
theorem belowM_mono {B : Nat} {M M' : Nat → Prop} {w w' : World} (h : BelowM B M w w') (hM : ∀ k, M k → M' k) : BelowM B M' w w' := ⟨h.os, h.tape, h.output, h.size, fun k hk hn => h.block k hk fun hm => hn (hM k hm)⟩
/-- Two of the call's own blocks have been written by a callee. -/
theorem Mem.marked2 {E : En} {g : Gh} {bl : List (Nat × List AV)} {ow : List Nat} {w w' : World} (h : Mem E g bl ow w) {n m b c : Nat} (hn : g.m n = some b) (hm : g.m m = some c) (hbc : b ≠ c) (hro : n ∉ E.ron) (hro2 : m ∉ E.ron) {cs ds : List AV} {arr brr : Array Value}
    (hB : BelowM w.heap.size (fun k => k = b ∨ k = c) w w') (hh : w'.heap[b]? = some (.cells arr (g.mt n) (0, 0))) (hh2 : w'.heap[c]? = some (.cells brr (g.mt m) (0, 0))) (hI : ∀ o, ¬ g.I b o) (hI2 : ∀ o, ¬ g.I c o) (hr : reps g w' cs arr.toList) (hr2 : reps g w' ds brr.toList) :
    Goes g w g w' ∧ Mem E g (setB (setB bl n cs) m ds) ow w' := by
  have other : ∀ k, k < w.heap.size → k ≠ b → k ≠ c → w'.heap[k]? = w.heap[k]? := fun k h1 h2 h3 => hB.block k h1 (by rintro (h | h) <;> contradiction)
  have keeps : Keeps g.I w w' := fun k o hk => World.cell?_of_block (a := ⟨k, o, none⟩) (other k (cell_lt (h.cell k o hk)) (fun e => hI o (e ▸ hk)) fun e => hI2 o (e ▸ hk))
  have goes : Goes g w g w' := ⟨fun _ _ h => h, keeps, fun _ _ h => h, fun _ _ _ => rfl, fun k T' e rows y hy =>
    ownRep_goes (g := g) (g' := g) (fun _ _ h => h) keeps (fun _ h => ⟨h, rfl⟩) (fun k d h1 h2 => other d (h.ofr k d h1 h2).2 (fun e => h.disj n k b hn h1 (e ▸ h2)) fun e => h.disj m k c hm h1 (e ▸ h2)) (fun _ _ _ _ _ h => h) hy⟩
  refine ⟨goes, ?_⟩
  have hbB : E.B ≤ b ∨ E.M b := (h.mfr n b hn).1.resolve_left hro
  have hcB : E.B ≤ c ∨ E.M c := (h.mfr m c hm).1.resolve_left hro2
  have hsz := hB.size
  have hmem : ∀ k ds', (k, ds') ∈ setB (setB bl n cs) m ds → ∃ ds0, (k, ds0) ∈ bl ∧ ((k = m ∧ ds' = ds) ∨ (k ≠ m ∧ k = n ∧ ds' = cs) ∨ (k ≠ m ∧ k ≠ n ∧ ds' = ds0)) := by
    intro k ds' hk
    simp only [setB, List.mem_map] at hk
    obtain ⟨⟨k1, d1⟩, ⟨⟨k0, d0⟩, hp, he0⟩, he⟩ := hk
    cases hb : Nat.beq k0 n
    · simp only [hb, cond_false, Prod.mk.injEq] at he0
      obtain ⟨rfl, rfl⟩ := he0
      cases hb2 : Nat.beq k0 m
      · simp only [hb2, cond_false, Prod.mk.injEq] at he
        obtain ⟨rfl, rfl⟩ := he
        exact ⟨_, hp, .inr (.inr ⟨fun e => by subst e; simp at hb2, fun e => by subst e; simp at hb, rfl⟩)⟩
      · simp only [hb2, cond_true, Prod.mk.injEq] at he
        obtain ⟨rfl, rfl⟩ := he
        exact ⟨_, hp, .inl ⟨Nat.eq_of_beq_eq_true hb2, rfl⟩⟩
    · simp only [hb, cond_true, Prod.mk.injEq] at he0
      obtain ⟨rfl, rfl⟩ := he0
      cases hb2 : Nat.beq k0 m
      · simp only [hb2, cond_false, Prod.mk.injEq] at he
        obtain ⟨rfl, rfl⟩ := he
        exact ⟨_, hp, .inr (.inl ⟨fun e => by subst e; simp at hb2, Nat.eq_of_beq_eq_true hb, rfl⟩)⟩
      · simp only [hb2, cond_true, Prod.mk.injEq] at he
        obtain ⟨rfl, rfl⟩ := he
        exact ⟨_, hp, .inl ⟨Nat.eq_of_beq_eq_true hb2, rfl⟩⟩
  refine { below := ⟨hB.os.trans h.below.os, hB.tape.trans h.below.tape, hB.output.trans h.below.output, Nat.le_trans h.below.size hsz, fun k hk hM => ?_⟩, base := Nat.le_trans h.base hsz, cell := fun c o hc => by rw [keeps c o hc]; exact h.cell c o hc,
           mfr := fun k c hk => ⟨(h.mfr k c hk).1, Nat.lt_of_lt_of_le (h.mfr k c hk).2 hsz⟩, ofr := fun k c h1 h2 => ⟨(h.ofr k c h1 h2).1, Nat.lt_of_lt_of_le (h.ofr k c h1 h2).2 hsz⟩, minj := h.minj, oinj := h.oinj, disj := h.disj, blk := ?_, key := fun k d hk => ?_, own := h.own, inew := h.inew, iold := h.iold, pin := h.pin }
  · rw [other k (Nat.lt_of_lt_of_le hk h.base) (fun e => by subst e; rcases hbB with h1 | h1 <;> first | omega | exact hM h1) (fun e => by subst e; rcases hcB with h1 | h1 <;> first | omega | exact hM h1)]
    exact h.below.block k hk hM
  · intro k ds' hk
    obtain ⟨ds0, hp, hq⟩ := hmem k ds' hk
    obtain ⟨d, arr', h1, h2, h3, h4⟩ := h.blk k ds0 hp
    rcases hq with ⟨rfl, rfl⟩ | ⟨_, rfl, rfl⟩ | ⟨n1, n2, rfl⟩
    · have : d = c := by rw [hm] at h1; exact (Option.some.inj h1).symm
      subst this
      exact ⟨d, brr, hm, hh2, hr2, h4⟩
    · have : d = b := by rw [hn] at h1; exact (Option.some.inj h1).symm
      subst this
      exact ⟨d, arr, hn, hh, hr, h4⟩
    · exact ⟨d, arr', h1, (other d (h.mfr _ _ h1).2 (fun e => n2 (h.minj k n b (e ▸ h1) hn)) fun e => n1 (h.minj k m c (e ▸ h1) hm)).trans h2, reps_goes goes h3, h4⟩
  · obtain ⟨d0, hd⟩ := h.key k d hk
    simp only [setB, List.mem_map]
    by_cases e1 : Nat.beq k n = true
    · by_cases e2 : Nat.beq k m = true
      · exact ⟨ds, (k, cs), ⟨(k, d0), hd, by simp only [e1, cond_true]⟩, by simp only [e2, cond_true]⟩
      · exact ⟨cs, (k, cs), ⟨(k, d0), hd, by simp only [e1, cond_true]⟩, by simp only [Bool.not_eq_true] at e2; simp only [e2, cond_false]⟩
    · simp only [Bool.not_eq_true] at e1
      by_cases e2 : Nat.beq k m = true
      · exact ⟨ds, (k, d0), ⟨(k, d0), hd, by simp only [e1, cond_false]⟩, by simp only [e2, cond_true]⟩
      · exact ⟨d0, (k, d0), ⟨(k, d0), hd, by simp only [e1, cond_false]⟩, by simp only [Bool.not_eq_true] at e2; simp only [e2, cond_false]⟩
section
variable {E : En} {ops : Array Oper} {rest : List Oper} {Q : Exit → St → Prop} {tm : List (Nat × AV)} {bl bl1 bl' : List (Nat × List AV)} {ow : List Nat} {d : Nat} {ty : TypeId} {pos : String} {af : Array Edge}
/-- A call that marks two of the call's own arrays. -/
theorem wlmk2 {x : Operand} {xs : Array Operand} {ts : Array TypeId} {f n m T e U k : Nat} {args : List AV} {rows rows' more sows sows' nore : List (List AV)} {r : Value} [hf : FnOk E.P f] (h : CallMark2 E.P f T e U k args rows rows' sows sows' r) (hmore : MoreOk e more) (hnore : MoreOk k nore) (hx : ev tm x = .v (.func (.func f) #[] #[])) (ha : MkN2 n m (xs.toList.map (ev tm)) args) (hat : hasAL n T (xs.toList.map (ev tm)) = true) (hat2 : hasAL m U (xs.toList.map (ev tm)) = true) (hnm : Nat.beq n m = false)
    (hb : lookB bl n = some (rows ++ more).flatten) (hb2 : lookB bl m = some (sows ++ nore).flatten) (hp : ∀ x ∈ rows.flatten, plain x = true) (hp' : ∀ x ∈ rows'.flatten, plain x = true) (hq : ∀ x ∈ sows.flatten, plain x = true) (hq' : ∀ x ∈ sows'.flatten, plain x = true) (hs : setBO bl n (rows' ++ more).flatten = some bl1) (hs2 : setBO bl1 m (sows' ++ nore).flatten = some bl') (hro : n ∉ E.ron) (hro2 : m ∉ E.ron) (hd : Nat.blt d E.nt = true)
    (hk : WL E ops rest Q ⟨(d, .v r) :: tm, bl', ow⟩) : WL E ops (⟨some d, .call ⟨.value x, xs, ts⟩, ty, pos, af, none⟩ :: rest) Q ⟨tm, bl, ow⟩ := by
  intro g a w hi
  unfold wpList
  rw [show Region.wanted ⟨some d, .call ⟨.value x, xs, ts⟩, ty, pos, af, none⟩ (yielded ops a.tmps) = true by simp [Region.wanted]]
  refine .inl ?_
  have h1 := rep_ev hi.tm x
  have h2 : reps g w (xs.toList.map (ev tm)) (xs.toList.map a.eval) := reps_map _ fun y _ => rep_ev hi.tm y
  rw [hx] at h1
  simp only [rep] at h1
  obtain ⟨fn, f1, f2, f3⟩ := hf.ok
  have f2' : fn.name ≠ "runtime.NumGoroutine" := by simpa using f2
  have f3' : fn.body ≠ none := fun e => by rw [e] at f3; simp at f3
  have hrun : (execOp a.eval ⟨some d, .call ⟨.value x, xs, ts⟩, ty, pos, af, none⟩).run E.P w = .ok (.enter f (xs.map a.eval)) w := by
    simp [execOp, resolve, Deferred.ofValue, h1, invoke, callFunc, f1, f2', f3']
  unfold Oper.wp
  rw [hrun]
  have hT : g.mt n = T := reps_hasA hat h2
  have hU : g.mt m = U := reps_hasA hat2 h2
  obtain ⟨b, arr, m1, m2, m3, m4⟩ := hi.mem.blk _ _ (lookB_mem hb)
  obtain ⟨c, brr, q1, q2, q3, q4⟩ := hi.mem.blk _ _ (lookB_mem hb2)
  have hbc : b ≠ c := fun e => by
    subst e
    have := hi.mem.minj n m b m1 q1
    subst this
    simp at hnm
  rw [hT] at m2
  rw [hU] at q2
  have pm : ∀ {e : Nat} {more : List (List AV)}, MoreOk e more → ∀ rs : List (List AV), (∀ x ∈ rs.flatten, plain x = true) → ∀ x ∈ (rs ++ more).flatten, plain x = true := fun hmore rs hr x hx => by
    rw [List.flatten_append, List.mem_append] at hx
    rcases hx with hx | hx
    · exact hr x hx
    · obtain ⟨l, hl, hx⟩ := List.mem_flatten.1 hx
      exact (hmore l hl).2 x hx
  have hc := h w b c (xs.map a.eval) arr brr more nore hbc hmore hnore m2 q2 (reps_plain (pm hmore rows hp) m3) (reps_plain (pm hnore sows hq) q3) (by rw [Array.toList_map]; exact reps_mkN2 m1 hT q1 hU ha h2)
  refine hc.mono fun e' w' he => ?_
  obtain ⟨rfl, hB, ⟨arr', n1, g1, n2⟩, brr', p1, g2, p2⟩ := he
  obtain ⟨k1, k2⟩ := hi.mem.marked2 m1 q1 hbc hro hro2 hB (by rw [hT]; exact n1) (by rw [hU]; exact p1) m4 q4 (reps_plain (g' := g) (w' := w') (pm hmore rows' hp') n2) (reps_plain (g' := g) (w' := w') (pm hnore sows' hq') p2)
  rw [setBO_eq hs, setBO_eq hs2] at k2
  have hi' : Inv E g ⟨tm, bl', ow⟩ a w' := ⟨k2, fun t => rep_goes k1 (hi.tm t), hi.de, hi.sz⟩
  have := hi'.app (d := some d) (v := .v r) (y := r) (nb := []) (no := []) (fun k hk => by cases hk; exact Nat.le_of_ble_eq_true hd) (Goes.refl _ _) (by simpa using k2) (by simp only [rep])
  exact hk g _ w' this
end
end Go.Eng
