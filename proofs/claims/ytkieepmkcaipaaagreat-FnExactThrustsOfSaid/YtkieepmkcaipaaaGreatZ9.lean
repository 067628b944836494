/- My walking engine, part 9: abstract values of Go, and the rules of a walk over them. No program in sight. -/
import Derived.Test.YtkieepmkcaipaaaGreatZ5
import Derived.Test.YtkieepmkcaipaaaGreatZ4
namespace Go.Eng
open Go Go.Conc

def CallOkEA (P : Program) (f : Nat) (args : List AV) (R : AV → Prop) : Prop :=
  ∀ (L : Lg P) (I : Nat → Nat → Prop) (x : CW) (vals : Array Value), x.V.ext = .alone → SeesI I x → Rigged x → reps (g0 I) x.w args vals.toList →
    CallsV L f vals x fun y x' => ∃ r g', R r ∧ rep g' x'.w r y ∧ Ret I x g' x'
theorem CallOkEA_of_W {P : Program} {f nt : Nat} {fn : Func} {rs : Array ResultVar} {c : Code} {args : List AV} {R : AV → Prop} (hf : P.funcs[f]? = some fn) (hnt : fn.ntmps = nt) (hrs : fn.results = rs) (hb : fn.body = some c) (hn : args.length ≤ nt)
    (h : ∀ (B : Nat) (w0 : World) (M : Nat → Prop) (I0 : Nat → Nat → Prop) (V0 : Rig), V0.ext = .alone → W (enC P B w0 nt M I0 V0) c (retQ (enC P B w0 nt M I0 V0) rs.toList R) ⟨(args.zipIdx 0).map fun p => (p.2, p.1), [], []⟩) : CallOkEA P f args R := by
  intro L I x vals hal hI hx hargs'
  subst hnt; subst hrs
  let E : En := enC P x.w.heap.size x.w fn.ntmps (fun b => ¬ x.V.vis b) I x.V
  let g : Gh := ⟨I, fun _ => none, fun _ => none, fun _ => False, fun _ => 0⟩
  have hlen := reps_length hargs'
  have hi0 : Inv E g ⟨(args.zipIdx 0).map fun p => (p.2, p.1), [], []⟩ { tmps := vals ++ Array.replicate (fn.ntmps - vals.size) undef, defers := [] } x := by
    refine ⟨⟨⟨BelowM.refl _ _ _, Nat.le_refl _, fun b o h => (hI b o h).1, fun n b h => by simp [g] at h, fun n b h => by simp [g] at h, fun n n' b h => by simp [g] at h, fun n n' b h => by simp [g] at h, fun n n' b h => by simp [g] at h,
      fun n cs h => by simp at h, fun n b h => by simp [g] at h, fun n h => by simp [g] at h, fun b o h => .inl h, fun b o h => h, fun n b T h => h.elim⟩,
      ⟨fun b o h => (hI b o h).2, fun n b h => by simp [g] at h, fun n b h => by simp [g] at h, hx.sub, hx.lt, fun _ h => h, fun _ h => h, fun _ h => .inl h, fun _ h => .inl h, fun b h => Classical.not_not.1 h, rfl⟩⟩, fun t => ?_, rfl, ?_⟩
    · simp only [look_zip, Nat.zero_le, if_true, Nat.sub_zero]
      rcases Nat.lt_or_ge t args.length with h1 | h1
      · obtain ⟨y, hy, hr⟩ := reps_get hargs' (List.getElem?_eq_getElem h1)
        have : t < vals.size := by simpa [← hlen] using h1
        have hy' : vals[t] = y := by simpa [this] using hy
        simp only [List.getD_eq_getElem?_getD, List.getElem?_eq_getElem h1, Option.getD_some]
        simp only [Array.getD_eq_getD_getElem?, Array.getElem?_append_left this, Array.getElem?_eq_getElem this, Option.getD_some, hy']
        exact hr
      · simp only [List.getD_eq_getElem?_getD, List.getElem?_eq_none h1, Option.getD_none, rep]
    · have : vals.size = args.length := by simpa using hlen
      show (vals ++ Array.replicate (fn.ntmps - vals.size) undef).size = fn.ntmps
      simp; omega
  refine ⟨fn, c, hf, hb, wpV_mono (h x.w.heap.size x.w (fun b => ¬ x.V.vis b) I x.V hal L g _ x hi0) fun e a' x' hq => ?_⟩
  obtain ⟨g', s', hq, hi⟩ := hq
  have fin : ∀ s1, Weak E s' s1 → ∀ xs, resA P s1 fn.results.toList xs → R (oneA xs) → refs [] s1.ow (oneA xs) = true → a'.defers = [] ∧ ∀ w₁, Rely x'.V x'.w w₁ → ∃ v, (results fn a'.tmps).run P w₁ = .ok v w₁ ∧
      (∀ e ∈ (results fn a'.tmps).events P w₁ #[], EvG x'.V w₁.heap.size w₁.heap.size e) ∧ ∃ r g', R r ∧ rep g' w₁ r v ∧ Ret I x g' ⟨x'.V, w₁⟩ := by
    intro s1 hw xs h1 h2 h3
    obtain ⟨g', hi⟩ := hw _ _ _ hi
    refine ⟨hi.de, fun w₁ r => ?_⟩
    have hi := hi.rely r
    obtain ⟨y, k1, k2, k3⟩ := run_results hi h1
    let g2 : Gh := { g' with m := fun _ => none }
    refine ⟨y, k1, fun e he => ?_, oneA xs, g2, h2, rep_refs (g := g') (g' := g2) rfl (fun n b hn => by simp at hn) rfl (fun n _ h => ⟨h, rfl⟩) h3 k2, ?_⟩
    · rcases k3 e he with ⟨a, rfl, ha⟩ | hk
      · exact .inl ⟨a, false, rfl, .inl ⟨seen_vis hi.mem.vis ha, fun h => by cases h⟩⟩
      · exact .inr hk
    · have hm := hi.mem.mem
      have hv := hi.mem.vis
      have nM : ∀ b, x'.V.vis b → (¬ x.V.vis b) → x.w.heap.size ≤ b := fun b h1 h2 => (hv.dn b h1).resolve_left h2
      exact ⟨hm.below, hm.iold, fun b o h => (hm.inew b o h).imp id (fun h' => h'.elim id (nM b (hv.I b o h))), hm.cell, fun n b h1 h2 => ⟨(hm.ofr n b h1 h2).1.elim id (nM b (hv.sub b (hv.o n b h1 h2))), (hm.ofr n b h1 h2).2⟩, hm.oinj,
        ⟨⟨hv.sub, hv.lt⟩, hv.up, hv.upm, hv.dn, hv.dnm, hv.ext⟩, hv.I, hv.o⟩
  cases e with
  | normal => obtain ⟨s1, hw, xs, h1, h2, h3⟩ := hq; exact fin s1 hw xs h1 h2 h3
  | ret => obtain ⟨s1, hw, xs, h1, h2, h3⟩ := hq; exact fin s1 hw xs h1 h2 h3
  | _ => exact hq.elim
theorem callOkEX {P : Program} {f nt : Nat} {fn : Func} {rs : Array ResultVar} {c : Code} {args : List AV} {tm : List (Nat × AV)} {R : AV → Prop} (hf : P.funcs[f]? = some fn) (hnt : fn.ntmps = nt) (hrs : fn.results = rs) (hb : fn.body = some c) (hn : Nat.ble args.length nt = true) (htm : iniO 0 args = some tm)
    (h : ∀ (B : Nat) (w0 : World) (M : Nat → Prop) (I0 : Nat → Nat → Prop) (V0 : Rig), V0.ext = .alone → W (enC P B w0 nt M I0 V0) c (retQ (enC P B w0 nt M I0 V0) rs.toList R) ⟨tm, [], []⟩) : CallOkEA P f args R :=
  CallOkEA_of_W hf hnt hrs hb (Nat.le_of_ble_eq_true hn) (by rw [iniO_eq htm]; exact h)
section
variable {E : En} {bl : List (Nat × List AV)} {tm : List (Nat × AV)} {d : Option Tmp} {ty : TypeId} {pos : String} {af : Array Edge} {gd : Option (Nat × Bool)}
theorem QV_callEX (hal : E.V0.ext = .alone) {x : Operand} {xs : Array Operand} {ts : Array TypeId} {f : Nat} {caps ys : List AV} {r : AV} [hf : FnOk E.P f] (h : CallOkEA E.P f ys (fun r' => r' = r)) (hx : ev tm x = .fn (.func f) [] caps) (ha : LeE bl (xs.toList.map (ev tm) ++ caps) ys) (hp : pl r = true) :
    QV E bl tm ⟨d, .call ⟨.value x, xs, ts⟩, ty, pos, af, gd⟩ r [] [] := by
  intro L g ρ bl' ow' w hm0 hbl _ _ hop w₁ rw₁
  have hg := hm0.goes rw₁
  have hm := hm0.rely rw₁
  have h1 := rep_goes hg (hop x (by simp [Op.operands, Call.operands]))
  have h2 : reps g w₁ (xs.toList.map (ev tm)) (xs.toList.map ρ) := reps_map _ fun y hy => rep_goes hg (hop y (by simp [Op.operands, Call.operands] at hy ⊢; exact .inr hy))
  rw [hx] at h1
  simp only [rep, reps] at h1
  obtain ⟨a, b, h1, ha0, hcaps⟩ := h1
  have ha1 : a = #[] := by cases a; simp_all
  subst ha1
  obtain ⟨fn, f1, f2, f3⟩ := hf.ok
  have f2' : fn.name ≠ "runtime.NumGoroutine" := by simpa using f2
  have f3' : fn.body ≠ none := fun e => by rw [e] at f3; simp at f3
  have hrun : (execOp ρ ⟨d, .call ⟨.value x, xs, ts⟩, ty, pos, af, gd⟩).run E.P w₁ = .ok (.enter f (xs.map ρ ++ b)) w₁ := by
    simp [execOp, resolve, Deferred.ofValue, h1, invoke, callFunc, f1, f2', f3']
  have hevs : (execOp ρ ⟨d, .call ⟨.value x, xs, ts⟩, ty, pos, af, gd⟩).events E.P w₁ #[] = #[] := by
    simp [execOp, resolve, Deferred.ofValue, h1, invoke, callFunc, f1, f2', f3']
  rw [hrun]
  have hreps := reps_leE hm.mem hbl ha (zs := (xs.map ρ ++ b).toList) (by
    rw [Array.toList_append, Array.toList_map]
    exact reps_append h2 hcaps)
  refine ⟨rfl, hevs, (h L (seen g w₁) ⟨w.V, w₁⟩ (xs.map ρ ++ b) (hm.vis.ext.trans hal) (seen_cell hm) ⟨hm.vis.sub, hm.vis.lt⟩ hreps).mono fun y w' he => ?_⟩
  obtain ⟨r', g', rfl, h3, h4⟩ := he
  obtain ⟨gc, h5, h6, _, _⟩ := hm.called (ret_plain hm h4) 0 [] (fun n hn => by simp at hn)
  exact ⟨gc, hg.trans h5, by simpa using h6, rep_pl hp h3⟩
theorem QV_callE0 {x : Operand} {xs : Array Operand} {ts : Array TypeId} {f : Nat} {ys : List AV} {r : AV} [hf : FnOk E.P f] (h : CallOkE E.P f ys (fun r' => r' = r)) (hx : ev tm x = .v (.func (.func f) #[] #[])) (ha : LeE bl (xs.toList.map (ev tm)) ys) (hp : pl r = true) :
    QV E bl tm ⟨d, .call ⟨.value x, xs, ts⟩, ty, pos, af, gd⟩ r [] [] := by
  intro L g ρ bl' ow' w hm0 hbl _ _ hop w₁ rw₁
  have hg := hm0.goes rw₁
  have hm := hm0.rely rw₁
  have h1 := rep_goes hg (hop x (by simp [Op.operands, Call.operands]))
  have h2 : reps g w₁ (xs.toList.map (ev tm)) (xs.toList.map ρ) := reps_map _ fun y hy => rep_goes hg (hop y (by simp [Op.operands, Call.operands] at hy ⊢; exact .inr hy))
  rw [hx] at h1
  simp only [rep] at h1
  obtain ⟨fn, f1, f2, f3⟩ := hf.ok
  have f2' : fn.name ≠ "runtime.NumGoroutine" := by simpa using f2
  have f3' : fn.body ≠ none := fun e => by rw [e] at f3; simp at f3
  have hrun : (execOp ρ ⟨d, .call ⟨.value x, xs, ts⟩, ty, pos, af, gd⟩).run E.P w₁ = .ok (.enter f (xs.map ρ)) w₁ := by
    simp [execOp, resolve, Deferred.ofValue, h1, invoke, callFunc, f1, f2', f3']
  have hevs : (execOp ρ ⟨d, .call ⟨.value x, xs, ts⟩, ty, pos, af, gd⟩).events E.P w₁ #[] = #[] := by
    simp [execOp, resolve, Deferred.ofValue, h1, invoke, callFunc, f1, f2', f3']
  rw [hrun]
  have hreps := reps_leE hm.mem hbl ha (zs := (xs.map ρ).toList) (by rw [Array.toList_map]; exact h2)
  refine ⟨rfl, hevs, (h L (seen g w₁) ⟨w.V, w₁⟩ (xs.map ρ) (seen_cell hm) ⟨hm.vis.sub, hm.vis.lt⟩ hreps).mono fun y w' he => ?_⟩
  obtain ⟨r', g', rfl, h3, h4⟩ := he
  obtain ⟨gc, h5, h6, _, _⟩ := hm.called (ret_plain hm h4) 0 [] (fun n hn => by simp at hn)
  exact ⟨gc, hg.trans h5, by simpa using h6, rep_pl hp h3⟩
theorem QV_callEP {x : Operand} {xs : Array Operand} {ts : Array TypeId} {f : Nat} {caps ys : List AV} {r : AV} [hf : FnOk E.P f] (h : CallOkE E.P f ys (fun r' => r' = r)) (hx : ev tm x = .fn (.func f) [] caps) (ha : LeE bl (xs.toList.map (ev tm) ++ caps) ys) (hp : pl r = true) :
    QV E bl tm ⟨d, .call ⟨.value x, xs, ts⟩, ty, pos, af, gd⟩ r [] [] := by
  intro L g ρ bl' ow' w hm0 hbl _ _ hop w₁ rw₁
  have hg := hm0.goes rw₁
  have hm := hm0.rely rw₁
  have h1 := rep_goes hg (hop x (by simp [Op.operands, Call.operands]))
  have h2 : reps g w₁ (xs.toList.map (ev tm)) (xs.toList.map ρ) := reps_map _ fun y hy => rep_goes hg (hop y (by simp [Op.operands, Call.operands] at hy ⊢; exact .inr hy))
  rw [hx] at h1
  simp only [rep, reps] at h1
  obtain ⟨a, b, h1, ha0, hcaps⟩ := h1
  have ha1 : a = #[] := by cases a; simp_all
  subst ha1
  obtain ⟨fn, f1, f2, f3⟩ := hf.ok
  have f2' : fn.name ≠ "runtime.NumGoroutine" := by simpa using f2
  have f3' : fn.body ≠ none := fun e => by rw [e] at f3; simp at f3
  have hrun : (execOp ρ ⟨d, .call ⟨.value x, xs, ts⟩, ty, pos, af, gd⟩).run E.P w₁ = .ok (.enter f (xs.map ρ ++ b)) w₁ := by
    simp [execOp, resolve, Deferred.ofValue, h1, invoke, callFunc, f1, f2', f3']
  have hevs : (execOp ρ ⟨d, .call ⟨.value x, xs, ts⟩, ty, pos, af, gd⟩).events E.P w₁ #[] = #[] := by
    simp [execOp, resolve, Deferred.ofValue, h1, invoke, callFunc, f1, f2', f3']
  rw [hrun]
  have hreps := reps_leE hm.mem hbl ha (zs := (xs.map ρ ++ b).toList) (by
    rw [Array.toList_append, Array.toList_map]
    exact reps_append h2 hcaps)
  refine ⟨rfl, hevs, (h L (seen g w₁) ⟨w.V, w₁⟩ (xs.map ρ ++ b) (seen_cell hm) ⟨hm.vis.sub, hm.vis.lt⟩ hreps).mono fun y w' he => ?_⟩
  obtain ⟨r', g', rfl, h3, h4⟩ := he
  obtain ⟨gc, h5, h6, _, _⟩ := hm.called (ret_plain hm h4) 0 [] (fun n hn => by simp at hn)
  exact ⟨gc, hg.trans h5, by simpa using h6, rep_pl hp h3⟩
end
end Go.Eng

namespace Go.Eng
open Go Go.Conc
section
variable {E : En} {ops : Array Oper} {rest : List Oper} {Q : Exit → St → Prop} {tm : List (Nat × AV)} {bl bl' : List (Nat × List AV)} {ow : List Nat} {d : Nat} {ty : TypeId} {pos : String} {af : Array Edge}
theorem wlmuX (hal : E.V0.ext = .alone) {x : Operand} {xs : Array Operand} {ts : Array TypeId} {f n T e N len : Nat} {ys : List AV} {rows : List (List AV)} {r z : AV} [hf : FnOk E.P f] (h : CallOkA E.P f ys (fun r' => r' = r)) (hN : Nat.ble 1000000 N = true) (h0 : 0 < rows.length) (hpl : ∀ x ∈ rows.flatten, plain x = true) (hx : ev tm x = .v (.func (.func f) #[] #[])) (ha : LeS bl (xs.toList.map (ev tm)) ys)
    (hz : MutA n T e N len rows r z) (hlen : rows.length = len) (hd : Nat.blt d E.nt = true) (hfr : bl.all (fun q => !Nat.beq q.1 N) = true) (hk : ∀ more, MoreOk e more → WL E ops rest Q ⟨(d, z) :: tm, (N, (rows ++ more).flatten) :: bl, ow⟩) :
    WL E ops (⟨some d, .call ⟨.value x, xs, ts⟩, ty, pos, af, none⟩ :: rest) Q ⟨tm, bl, ow⟩ := by
  subst hlen
  refine WL_call hx fun L g a x hi h2 => ?_
  have hmv := hi.mem
  have hm := hi.mem.mem
  have hv := hi.mem.vis
  refine (h L (seen g x.w) x (xs.map a.eval) (hv.ext.trans hal) (seen_cell hmv) hi.rigged (dreps_leS hm (fun _ h => h) ha h2)).mono fun y x' he => ?_
  obtain ⟨V, w⟩ := x
  obtain ⟨V', w'⟩ := x'
  obtain ⟨r', g', rfl, h3, h4⟩ := he
  have hG := h4.grows
  have hm : Mem E g bl ow w := hi.mem.mem
  have hv : Vis E V g w := hi.mem.vis
  obtain ⟨u, hu⟩ := mut_has hz h3
  obtain ⟨b, c, arr, b1, b2, b3, b4, b5, b6, b7⟩ := own_here hu h0
  have hl : ∀ r ∈ rows, r.length = e := by obtain ⟨_, _, _, _, _, hl, _⟩ := hu; exact hl
  have hb : w.heap.size ≤ b ∧ b < w'.heap.size := h4.own n b hu.1 b1
  have heap : ∀ k, V.vis k → w'.heap[k]? = w.heap[k]? := fun k hk => h4.below.block k (hv.lt k hk) (fun h => h hk)
  have hsz : w.heap.size ≤ w'.heap.size := h4.below.size
  have hIlt : ∀ b o, g.I b o → b < w.heap.size := fun b o hb => cell_lt (hm.cell b o hb)
  have keeps : Keeps g.I w w' := fun b o hb => World.cell?_of_block (a := ⟨b, o, none⟩) (heap b (hv.I b o hb))
  have hfr' : ∀ q ∈ bl, q.1 ≠ N := fun q hq e => by
    have := List.all_eq_true.1 hfr q hq
    simp [e] at this
  have hnone : g.m N = none := by
    cases hmN : g.m N with
    | none => rfl
    | some b' => obtain ⟨cs, hc⟩ := hm.key N b' hmN; exact absurd rfl (hfr' _ hc)
  let gc : Gh := { g with m := fun k => if k = N then some b else g.m k, mt := fun k => if k = N then T else g.mt k }
  have hmm : ∀ k b', gc.m k = some b' → (k = N ∧ b' = b) ∨ (k ≠ N ∧ g.m k = some b') := fun k b' hk => by
    by_cases e : k = N
    · simp only [gc, e, if_true, Option.some.injEq] at hk; exact .inl ⟨e, hk.symm⟩
    · simp only [gc, e, if_false] at hk; exact .inr ⟨e, hk⟩
  have goes : Goes g w gc w' := by
    refine ⟨fun _ _ h => h, keeps, fun k b' hk => ?_, fun k b' hk => ?_, fun k T' e' rows' y' hy' => ownRep_goes (g := g) (g' := gc) (fun _ _ h => h) keeps (fun k hk => ⟨hk, rfl⟩) (fun k b' k1 k2 => heap b' (hv.sub b' (hv.o k b' k1 k2))) (fun _ _ _ _ _ h => h) hy'⟩
    · have : k ≠ N := fun e => by rw [e, hnone] at hk; cases hk
      simp only [gc, this, if_false]; exact hk
    · have : k ≠ N := fun e => by rw [e, hnone] at hk; cases hk
      simp only [gc, this, if_false]
  let more : List (List AV) := List.replicate (c - rows.length) (List.replicate e .top)
  have hmore : MoreOk e more := fun r hr => by
    rw [List.eq_of_mem_replicate hr]
    exact ⟨by simp, fun x hx => by rw [List.eq_of_mem_replicate hx]; rfl⟩
  have hml : more.flatten.length = (c - rows.length) * e := by
    rw [flatten_length (e := e) (fun r hr => (hmore r hr).1)]; simp [more]
  have hce : c * e = rows.length * e + (c - rows.length) * e := by rw [← Nat.add_mul]; congr 1; omega
  have hreps : reps gc w' (rows ++ more).flatten arr.toList := by
    rw [List.flatten_append, ← List.take_append_drop (rows.length * e) arr.toList]
    refine reps_append (reps_plain (g := g') (w := w') hpl (reps_of_dreps b7)) (reps_tops _ _ ?_ ?_)
    · rw [List.all_eq_true]
      intro x hx
      obtain ⟨r, hr, hx⟩ := List.mem_flatten.1 hx
      rw [List.eq_of_mem_replicate hr] at hx
      rw [List.eq_of_mem_replicate hx]; rfl
    · have ea : arr.toList.length = arr.size := by simp
      rw [hml, List.length_drop, ea, b6]; omega
  have hmem : Mem E gc ((N, (rows ++ more).flatten) :: bl) ow w' :=
    { below := ⟨h4.below.os.trans hm.below.os, h4.below.tape.trans hm.below.tape, h4.below.output.trans hm.below.output, Nat.le_trans hm.below.size hsz, fun k hk hM => (heap k (hv.up k (hv.nM k hM))).trans (hm.below.block k hk hM)⟩
      base := Nat.le_trans hm.base hsz
      cell := fun b' o hbo => by rw [keeps b' o hbo]; exact hm.cell b' o hbo
      mfr := fun k b' hk => by
        rcases hmm k b' hk with ⟨rfl, rfl⟩ | ⟨_, k2⟩
        · exact ⟨.inr (.inl (Nat.le_trans hm.base hb.1)), hb.2⟩
        · exact ⟨(hm.mfr k b' k2).1, Nat.lt_of_lt_of_le (hm.mfr k b' k2).2 hsz⟩
      ofr := fun k b' k1 k2 => ⟨(hm.ofr k b' k1 k2).1, Nat.lt_of_lt_of_le (hm.ofr k b' k1 k2).2 hsz⟩
      minj := fun k k' b' k1 k2 => by
        rcases hmm k b' k1 with ⟨rfl, rfl⟩ | ⟨_, k3⟩ <;> rcases hmm k' _ k2 with ⟨rfl, k4⟩ | ⟨_, k4⟩
        · rfl
        · have := (hm.mfr k' _ k4).2; have := hb.1; omega
        · subst k4; have := (hm.mfr k _ k3).2; have := hb.1; omega
        · exact hm.minj k k' b' k3 k4
      oinj := hm.oinj
      disj := fun k k' b' k1 k2 k3 => by
        rcases hmm k b' k1 with ⟨rfl, rfl⟩ | ⟨_, k4⟩
        · have := (hm.ofr k' _ k2 k3).2; have := hb.1; omega
        · exact hm.disj k k' b' k4 k2 k3
      blk := fun k ds hk => by
        rcases List.mem_cons.1 hk with hk | hk
        · cases hk
          exact ⟨b, arr, by simp only [gc, if_true], by simp only [gc, if_true]; exact b5, hreps, fun o ho => by have := hIlt _ o ho; have := hb.1; omega⟩
        · obtain ⟨b', arr', q1, q2, q3, q4⟩ := hm.blk k ds hk
          exact ⟨b', arr', goes.m k b' q1, by rw [goes.mt k b' q1]; exact (heap b' (hv.m k b' q1).1).trans q2, reps_goes goes q3, q4⟩
      key := fun k b' hk => by
        rcases hmm k b' hk with ⟨rfl, rfl⟩ | ⟨_, k2⟩
        · exact ⟨_, List.mem_cons_self ..⟩
        · obtain ⟨cs, hc⟩ := hm.key k b' k2; exact ⟨cs, List.mem_cons_of_mem _ hc⟩
      own := hm.own
      inew := hm.inew
      iold := hm.iold
      pin := fun k b' T' hp => ⟨goes.m k b' (hm.pin k b' T' hp).1, (goes.mt k b' (hm.pin k b' T' hp).1).trans (hm.pin k b' T' hp).2⟩ }
  have hz' : rep gc w' z y := mut_rep (gc := gc) (w' := w') (fun u' hu' => by
    obtain ⟨b', c', _, k1, k2, k3, _⟩ := own_here hu' h0
    rw [b1] at k1
    cases k1
    simp only [rep]
    exact ⟨b, c', by simp only [gc, if_true], by simp only [gc, if_true], k2, k3, fun h => by have := Nat.le_of_ble_eq_true hN; omega⟩) hz h3
  have hvm : ∀ k b', gc.m k = some b' → V'.vis b' ∧ (k ∉ E.ron → V'.mine b') := fun k b' hk => by
    rcases hmm k b' hk with ⟨rfl, rfl⟩ | ⟨_, k2⟩
    · exact ⟨hG.rig.sub _ (h4.visO n _ hu.1 b1), fun _ => h4.visO n _ hu.1 b1⟩
    · exact ⟨hG.up b' (hv.m k b' k2).1, fun hr => hG.upm b' ((hv.m k b' k2).2 hr)⟩
  have hmem' : MemV E gc ((N, (rows ++ more).flatten) :: bl) ow ⟨V', w'⟩ := ⟨hmem, { I := fun b o hb => hG.up b (hv.I b o hb), m := hvm, o := fun j b h1 h2 => hG.upm b (hv.o j b h1 h2), sub := hG.rig.sub, lt := hG.rig.lt, up := fun b hb => hG.up b (hv.up b hb), upm := fun b hb => hG.upm b (hv.upm b hb), dn := fun b hb => (hG.dn b hb).elim (hv.dn b) (fun h1 => .inr (Nat.le_trans hm.base h1)), dnm := fun b hb => (hG.dnm b hb).elim (hv.dnm b) (fun h1 => .inr (Nat.le_trans hm.base h1)), nM := hv.nM, ext := hG.ext.trans hv.ext }⟩
  have hi' : Inv E g ⟨tm, bl, ow⟩ a ⟨V, w⟩ := hi
  have := hi'.app (d := some d) (v := z) (y := y) (nb := [(N, (rows ++ more).flatten)]) (no := []) (fun k hk => by cases hk; exact Nat.le_of_ble_eq_true hd) goes (by simpa using hmem') hz'
  exact hk more hmore L gc _ _ this
end
end Go.Eng

namespace Go.Eng
open Go
section
variable {α : Type} {row : α → List AV} {mk : Int → Nat → α} {k : Int} {l : List α} {more : List (List AV)} {i e : Nat}
def mks (mk : Int → Nat → α) (k : Int) (n : Nat) : List α := (List.range n).map (mk k)
theorem mks_len {n : Nat} : (mks mk k n).length = n := by simp [mks]
theorem mks_at {n : Nat} (h : i < n) : (mks mk k n)[i]? = some (mk k i) := by simp [mks, h]
def mkR (row : α → List AV) (mk : Int → Nat → α) (k : Int) (l : List α) (more : List (List AV)) (i : Nat) : List (List AV) := (mks mk k i).map row ++ ((l.drop i).map row ++ more)
theorem len_map {β : Type} {f : α → β} {l : List α} : l.length = (l.map f).length := (List.length_map _).symm
theorem len_mks {β : Type} {f : α → β} {n : Nat} : n = ((mks mk k n).map f).length := by rw [List.length_map, mks_len]
theorem mkR_drop {p : α} (h : l[i]? = some p) : l.drop i = p :: l.drop (i + 1) := by
  obtain ⟨h1, h2⟩ := List.getElem?_eq_some_iff.1 h
  rw [List.drop_eq_getElem_cons h1, h2]
theorem mkR_at {p : α} (h : l[i]? = some p) : (mkR row mk k l more i)[i]? = some (row p) := by
  unfold mkR
  rw [List.getElem?_append_right (by simp [mks_len]), List.length_map, mks_len, Nat.sub_self, mkR_drop h]
  rfl
theorem mkR_set {p : α} (h : l[i]? = some p) : (mkR row mk k l more i).set i (row (mk k i)) = mkR row mk k l more (i + 1) := by
  unfold mkR
  rw [List.set_append_right _ _ (by simp [mks_len]), List.length_map, mks_len, Nat.sub_self, mkR_drop h]
  simp [mks, List.range_succ]
theorem mkR_len (hf : ∀ a, (row a).length = e) (hm : MoreOk e more) : ∀ r ∈ mkR row mk k l more i, r.length = e := by
  intro r hr
  unfold mkR at hr
  rcases List.mem_append.1 hr with h | h
  · obtain ⟨p, _, rfl⟩ := List.mem_map.1 h; exact hf p
  · rcases List.mem_append.1 h with h | h
    · obtain ⟨p, _, rfl⟩ := List.mem_map.1 h; exact hf p
    · exact (hm r h).1
theorem mkR_plain (hf : ∀ a, ∀ x ∈ row a, plain x = true) (hm : MoreOk e more) (i : Nat) : ∀ x ∈ (mkR row mk k l more i).flatten, plain x = true := by
  intro x hx
  obtain ⟨r, hr, hx⟩ := List.mem_flatten.1 hx
  unfold mkR at hr
  rcases List.mem_append.1 hr with h | h
  · obtain ⟨p, _, rfl⟩ := List.mem_map.1 h; exact hf p x hx
  · rcases List.mem_append.1 h with h | h
    · obtain ⟨p, _, rfl⟩ := List.mem_map.1 h; exact hf p x hx
    · exact (hm r h).2 x hx
theorem map_plain (hf : ∀ a, ∀ x ∈ row a, plain x = true) (l : List α) : ∀ x ∈ (l.map row).flatten, plain x = true := by
  intro x hx
  obtain ⟨r, hr, hx⟩ := List.mem_flatten.1 hx
  obtain ⟨p, _, rfl⟩ := List.mem_map.1 hr
  exact hf p x hx
theorem map_plainB (hf : ∀ a, (row a).all plain = true) : ∀ x ∈ (l.map row).flatten, plain x = true :=
  map_plain (fun a x hx => List.all_eq_true.1 (hf a) x hx) l
theorem map_lens (hf : ∀ a, (row a).length = e) : ∀ r ∈ l.map row, r.length = e := by
  intro r hr
  obtain ⟨p, _, rfl⟩ := List.mem_map.1 hr
  exact hf p
end
structure RowAt (rows : List (List AV)) (i e : Nat) (r : List AV) : Prop where
  at_ : rows[i]? = some r
  len : ∀ r ∈ rows, r.length = e
theorem RowAt.set {rows : List (List AV)} {i e : Nat} {r r' : List AV} (h : RowAt rows i e r) (h' : r'.length = e) : RowAt (rows.set i r') i e r' :=
  ⟨by rw [List.getElem?_set_self (List.getElem?_eq_some_iff.1 h.at_).1], fun s hs => by
    rcases List.mem_or_eq_of_mem_set hs with hs | rfl
    · exact h.len s hs
    · exact h'⟩
end Go.Eng
