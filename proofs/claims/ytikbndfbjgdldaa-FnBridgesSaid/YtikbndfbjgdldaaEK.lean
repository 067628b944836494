/- Closures that read their maker's variables and give a plain value. No program in sight. -/
import Derived.Test.YtikbndfbjgdldaaEH
namespace Go.Eng
open Go

def g0 (I : Nat → Nat → Prop) : Gh := ⟨I, fun _ => none, fun _ => none, fun _ => False, fun _ => 0⟩
/-- The contract of a function some of whose arguments are places that are only read. -/
def CallOkE (P : Program) (f : Nat) (args : List AV) (R : AV → Prop) : Prop :=
  ∀ (I : Nat → Nat → Prop) (w : World) (vals : Array Value), (∀ b o, I b o → (w.cell? ⟨b, o, none⟩).isSome = true) → reps (g0 I) w args vals.toList →
    Calls P f vals w fun e w' => ∃ y r g', e = .returned y ∧ R r ∧ rep g' w' r y ∧ Ret I w g' w'

theorem CallOkE_of_W {P : Program} {f nt : Nat} {fn : Func} {rs : Array ResultVar} {c : Code} {args : List AV} {R : AV → Prop} (hf : P.funcs[f]? = some fn) (hnt : fn.ntmps = nt) (hrs : fn.results = rs) (hb : fn.body = some c) (hn : args.length ≤ nt)
    (h : ∀ (B : Nat) (w0 : World) (I0 : Nat → Nat → Prop), W ⟨P, B, w0, nt, fun _ => False, [], I0, fun _ _ _ => False⟩ c (retQ ⟨P, B, w0, nt, fun _ => False, [], I0, fun _ _ _ => False⟩ rs.toList R) ⟨(args.zipIdx 0).map fun p => (p.2, p.1), [], []⟩) : CallOkE P f args R := by
  subst hnt; subst hrs
  intro I w vals hI hargs'
  let E : En := ⟨P, w.heap.size, w, fn.ntmps, fun _ => False, [], I, fun _ _ _ => False⟩
  let g : Gh := g0 I
  have hlen := reps_length hargs'
  refine calls_of_wp hf hb ?_
  refine wp_mono (h w.heap.size w I g _ w ⟨⟨BelowM.refl _ _ _, Nat.le_refl _, hI, fun n b h => by simp [g, g0] at h, fun n b h => by simp [g, g0] at h, fun n n' b h => by simp [g, g0] at h, fun n n' b h => by simp [g, g0] at h, fun n n' b h => by simp [g, g0] at h,
    fun n cs h => by simp at h, fun n b h => by simp [g, g0] at h, fun n h => by simp [g, g0] at h, fun b o h => .inl h, fun b o h => h, fun n b T h => h.elim⟩, fun t => ?_, rfl, ?_⟩) fun e a' w' hq => ?_
  · simp only [look_zip, Nat.zero_le, if_true, Nat.sub_zero]
    rcases Nat.lt_or_ge t args.length with h1 | h1
    · obtain ⟨y, hy, hr⟩ := reps_get hargs' (List.getElem?_eq_getElem h1)
      have : t < vals.size := by simpa [← hlen] using h1
      have hy' : vals[t] = y := by simpa [this] using hy
      simp only [List.getD_eq_getElem?_getD, List.getElem?_eq_getElem h1, Option.getD_some]
      simp only [Array.getD_eq_getD_getElem?, Array.getElem?_append_left this, Array.getElem?_eq_getElem this, Option.getD_some, hy']
      exact hr
    · simp only [List.getD_eq_getElem?_getD, List.getElem?_eq_none h1, Option.getD_none, rep]
  · have : vals.size = args.length := by simpa using hlen
    simp; omega
  · obtain ⟨g', s', hq, hi⟩ := hq
    have fin : ∀ s1, Weak E s' s1 → ∀ xs, resA P s1 fn.results.toList xs → R (oneA xs) → refs [] s1.ow (oneA xs) = true → a'.defers = [] ∧ ∃ v, (results fn a'.tmps).run P w' = .ok v w' ∧ ∃ y r g', Ending.returned v = .returned y ∧ R r ∧ rep g' w' r y ∧ Ret I w g' w' := by
      intro s1 hw xs h1 h2 h3
      obtain ⟨g', hi⟩ := hw _ _ _ hi
      obtain ⟨y, k1, k2⟩ := run_results hi h1
      let g2 : Gh := { g' with m := fun _ => none }
      refine ⟨hi.de, y, k1, y, oneA xs, g2, rfl, h2, rep_refs (g := g') (g' := g2) rfl (fun n b hn => by simp at hn) rfl (fun n _ h => ⟨h, rfl⟩) h3 k2, ?_⟩
      exact ⟨⟨hi.mem.below.os, hi.mem.below.tape, hi.mem.below.output, hi.mem.below.size, hi.mem.below.block⟩, hi.mem.iold, hi.mem.inew, hi.mem.cell, hi.mem.ofr, hi.mem.oinj⟩
    cases e with
    | normal => obtain ⟨s1, hw, xs, h1, h2, h3⟩ := hq; exact fin s1 hw xs h1 h2 h3
    | ret => obtain ⟨s1, hw, xs, h1, h2, h3⟩ := hq; exact fin s1 hw xs h1 h2 h3
    | _ => exact hq.elim
theorem callOkE {P : Program} {f nt : Nat} {fn : Func} {rs : Array ResultVar} {c : Code} {args : List AV} {tm : List (Nat × AV)} {R : AV → Prop} (hf : P.funcs[f]? = some fn) (hnt : fn.ntmps = nt) (hrs : fn.results = rs) (hb : fn.body = some c) (hn : Nat.ble args.length nt = true) (htm : iniO 0 args = some tm)
    (h : ∀ (B : Nat) (w0 : World) (I0 : Nat → Nat → Prop), W ⟨P, B, w0, nt, fun _ => False, [], I0, fun _ _ _ => False⟩ c (retQ ⟨P, B, w0, nt, fun _ => False, [], I0, fun _ _ _ => False⟩ rs.toList R) ⟨tm, [], []⟩) : CallOkE P f args R :=
  CallOkE_of_W hf hnt hrs hb (Nat.le_of_ble_eq_true hn) (by rw [iniO_eq htm]; exact h)

/-- What is handed to it: data, and the places of its maker's variables. -/
inductive LeE (bl : List (Nat × List AV)) : List AV → List AV → Prop where
  | nil : LeE bl [] []
  | v {x : Value} {xs ys : List AV} (hs : LeE bl xs ys) : LeE bl (.v x :: xs) (.v x :: ys)
  | sl {e : Nat} {rows : List (List AV)} {xs ys : List AV} (hs : LeE bl xs ys) : LeE bl (.sl e rows :: xs) (.sl e rows :: ys)
  | agg {cs ds xs ys : List AV} (h : LeDs cs ds) (hs : LeE bl xs ys) : LeE bl (.agg cs :: xs) (.agg ds :: ys)
  | own {n T e : Nat} {rows : List (List AV)} {xs ys : List AV} (hs : LeE bl xs ys) : LeE bl (.own n T e rows :: xs) (.sl e rows :: ys)
  | ptr {n : Nat} {cs ds xs ys : List AV} (hb : lookB bl n = some cs) (hd : cs.map toD = ds) (hs : LeE bl xs ys) : LeE bl (.ptr n 0 :: xs) (.eptr ds :: ys)
/-- What the maker's variables hold, seen as data. -/
def seen (g : Gh) (w : World) (b o : Nat) : Prop := g.I b o ∨ ((∃ n, g.m n = some b) ∧ (w.cell? ⟨b, o, none⟩).isSome = true)
theorem reps_leE {E : En} {g : Gh} {bl bl' : List (Nat × List AV)} {ow : List Nat} {w : World} (hm : Mem E g bl' ow w) (hbl : ∀ p ∈ bl, p ∈ bl') {xs ys : List AV} (h : LeE bl xs ys) : ∀ {zs : List Value}, reps g w xs zs → reps (g0 (seen g w)) w ys zs := by
  induction h with
  | nil => intro zs h; simpa only [reps] using h
  | v _ ih =>
    intro zs h
    simp only [reps] at h ⊢
    obtain ⟨y, zs', e, h1, h2⟩ := h
    exact ⟨y, zs', e, by simpa only [rep] using h1, ih h2⟩
  | sl _ ih =>
    intro zs h
    simp only [reps] at h ⊢
    obtain ⟨y, zs', e, h1, h2⟩ := h
    refine ⟨y, zs', e, ?_, ih h2⟩
    simp only [rep] at h1 ⊢
    exact drep_mono (fun b o hb => .inl hb) (fun _ _ _ => rfl) h1
  | agg hd _ ih =>
    intro zs h
    simp only [reps, rep] at h ⊢
    obtain ⟨y, zs', e, ⟨a, ea, h1⟩, h2⟩ := h
    exact ⟨y, zs', e, ⟨a, ea, reps_of_dreps (dreps_mono (I := g.I) (fun b o hb => .inl hb) (fun _ _ _ => rfl) (dreps_leDs hd h1))⟩, ih h2⟩
  | own _ ih =>
    intro zs h
    simp only [reps, rep] at h ⊢
    obtain ⟨y, zs', e, h1, h2⟩ := h
    exact ⟨y, zs', e, drep_mono (fun b o hb => .inl hb) (fun _ _ _ => rfl) (drep_of_own h1), ih h2⟩
  | ptr hb hd _ ih =>
    intro zs h
    subst hd
    simp only [reps] at h ⊢
    obtain ⟨y, zs', e, h1, h2⟩ := h
    refine ⟨y, zs', e, ?_, ih h2⟩
    simp only [rep] at h1 ⊢
    obtain ⟨b, h3, rfl⟩ := h1
    obtain ⟨b', arr, k1, k2, k3, k4⟩ := hm.blk _ _ (hbl _ (lookB_mem hb))
    have : b' = b := by rw [h3] at k1; exact (Option.some.inj k1).symm
    subst this
    refine ⟨b', 0, rfl, dcells_of_list (dreps_mono (I := g.I) (fun b o hb => .inl hb) (fun _ _ _ => rfl) (dreps_toD k3)) fun j z hj => ?_⟩
    have hc : w.cell? ⟨b', 0 + j, none⟩ = some z := by rw [cell_of_heap k2, Nat.zero_add]; simpa using hj
    exact ⟨hc, .inr ⟨⟨_, h3⟩, by rw [hc]; rfl⟩⟩
section
variable {E : En} {bl : List (Nat × List AV)} {tm : List (Nat × AV)} {d : Option Tmp} {ty : TypeId} {pos : String} {af : Array Edge} {gd : Option (Nat × Bool)}
theorem QV_callE {x : Operand} {xs : Array Operand} {ts : Array TypeId} {f : Nat} {caps ys : List AV} {v : Value} [hf : FnOk E.P f] (h : CallOkE E.P f ys (fun r' => r' = .v v)) (hx : ev tm x = .fn (.func f) [] caps) (ha : LeE bl (xs.toList.map (ev tm) ++ caps) ys) :
    QV E bl tm ⟨d, .call ⟨.value x, xs, ts⟩, ty, pos, af, gd⟩ (.v v) [] [] := by
  intro g w ρ bl' ow' hm hbl _ _ hop
  have h1 := hop x (by simp [Op.operands, Call.operands])
  have h2 : reps g w (xs.toList.map (ev tm)) (xs.toList.map ρ) := reps_map _ fun y hy => hop y (by simp [Op.operands, Call.operands] at hy ⊢; exact .inr hy)
  rw [hx] at h1
  simp only [rep, reps] at h1
  obtain ⟨a, b, h1, ha0, hcaps⟩ := h1
  have ha1 : a = #[] := by cases a; simp_all
  subst ha1
  obtain ⟨fn, f1, f2, f3⟩ := hf.ok
  have f2' : fn.name ≠ "runtime.NumGoroutine" := by simpa using f2
  have f3' : fn.body ≠ none := fun e => by rw [e] at f3; simp at f3
  have hrun : (execOp ρ ⟨d, .call ⟨.value x, xs, ts⟩, ty, pos, af, gd⟩).run E.P w = .ok (.enter f (xs.map ρ ++ b)) w := by
    simp [execOp, resolve, Deferred.ofValue, h1, invoke, callFunc, f1, f2', f3']
  rw [hrun]
  have hreps := reps_leE hm hbl ha (zs := (xs.map ρ ++ b).toList) (by
    rw [Array.toList_append, Array.toList_map]
    exact reps_append h2 hcaps)
  have hcell : ∀ b o, seen g w b o → (w.cell? ⟨b, o, none⟩).isSome = true := fun b o hb => by
    rcases hb with hb | hb
    · exact hm.cell b o hb
    · exact hb.2
  refine (h (seen g w) w (xs.map ρ ++ b) hcell hreps).mono fun e w' he => ?_
  obtain ⟨y, r', g', rfl, rfl, h3, h4⟩ := he
  simp only [rep] at h3
  subst h3
  have hr : Ret g.I w (g0 g.I) w' := ⟨h4.below, fun _ _ h => h, fun _ _ h => .inl h, fun b o hb => by
    rw [World.cell?_of_block (a := ⟨b, o, none⟩) (h4.below.block b (cell_lt (hm.cell b o hb)) (fun h => h))]; exact hm.cell b o hb, fun n b h => h.elim, fun n n' b h => h.elim⟩
  obtain ⟨gc, h5, h6, _, _⟩ := hm.called hr 0 [] (fun n hn => by simp at hn)
  exact ⟨_, rfl, gc, h5, by simpa using h6, by simp only [rep]⟩
end
end Go.Eng
