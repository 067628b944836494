/- From a law's contract, of a law that starts hands, to its run. No program in sight. -/
import Derived.Test.YtpcahgedkmgllaaGreatZ5
import Derived.Test.YtpcahgedkmgllaaGreatZ17
import Derived.Test.YtpcahgedkmgllaaGreatYG1
import Derived.Conc.LeavingOf
namespace Go.Proofs.YtpcahgedkmgllaaGreat
open Go.ChangeShapes Go.WideShapes Go.ChangeAt Go.RowKit Go.Deep Go.Eng Go.Conc

section
variable {P : Program}
theorem stepG_done {fn : Func} {b : Frame} {a : Act} {w : World} {todo : List Item} {v : Value} (hn : b.kind = .normal) (hd : a.defers = []) (hf : P.funcs[b.fn]? = some fn) (hr : (results fn a.tmps).run P w = .ok v w) (hi : P.inits.idxOf? b.fn = none) :
    stepG P true (G { b.atR a todo with mode := .returning } []) w = .ended (.done v) w (seen P b.fn ((results fn a.tmps).events P w #[])) := by
  simp [G, stepG, unwind, doReturn, Frame.atR, hn, hd, hf, hr, hi, GStep.after]
theorem past_any (B : Nat) : Past (fun _ => False) B #[] :=
  ⟨fun said => by rintro ⟨i, j, _, ⟨a, b, ha, _⟩, _⟩; simp [Trace.act?] at ha, fun i a ha => by simp [touchAt, Trace.act?] at ha, fun i g hg => by simp [Trace.g?] at hg, rfl, by simp⟩
theorem runs_of_callA {k : Nat} {xs : List AV} {args : Array Value} {W : World} {R : AV → Prop} {Post : Value → World → Prop} (hi : P.inits.idxOf? k = none) (h : CallOkA P k xs R) (ha : dreps (Old W) W xs args.toList)
    (hp : ∀ v r g' (x' : CW), R r → rep g' x'.w r v → BelowM W.heap.size (fun b => ¬ b < W.heap.size) W x'.w → Post v x'.w) : EndsF P Post (solo (G (Frame.enter P k args .normal) []) W) #[] := by
  let V : Rig := ⟨fun b => b < W.heap.size, fun _ => False, .alone⟩
  obtain ⟨fn, c, hf, hb, hw⟩ := h (LF P (EndsF P Post) (EndsF.back Post)) (Old W) ⟨V, W⟩ args rfl (fun b o hb => ⟨hb.2, hb.1⟩) ⟨fun _ h => h.elim, fun _ h => h⟩ ha
  rw [enter_at args hf hb]
  let K : Value → CW → Prop := fun y x' => ∃ r g', R r ∧ rep g' x'.w r y ∧ Ret (Old W) ⟨V, W⟩ g' x'
  have fin : ∀ (todo : List Item) (a : Act) (x : CW), outV (P := P) fn K a x →
      (LF P (EndsF P Post) (EndsF.back Post)).ok x.V (G { (base k).atR a todo with mode := .returning } []) x.w := by
    rintro todo a x ⟨hd, hq⟩ gs w₁ sl t hr h0 hc
    obtain ⟨v, _, _, r, g', _, _, hret⟩ := hq w₁ hr
    have hV : x.V.ext = .alone := hret.grows.ext
    refine f_end (V := x.V) (w := w₁) hV rfl (fun w₂ r₂ => ?_) gs w₁ sl t (Rely.refl hc.live) h0 hc
    obtain ⟨v, k1, k2, r, g', k3, k4, k5⟩ := hq w₂ (hr.trans r₂)
    exact ⟨v, _, stepG_done rfl hd hf k1 hi, fun e he => k2 e (Eng.mem_seen he), hp v r g' ⟨x.V, w₂⟩ k3 k4 k5.below⟩
  have fin2 : ∀ (todo : List Item) (a : Act) (x : CW), outV (P := P) fn K a x ∨ takeV (P := P) fn K a x → (LF P (EndsF P Post) (EndsF.back Post)).ok x.V (G { (base k).atR a todo with mode := .returning } []) x.w := fun todo a x q =>
    q.elim (fin todo a x) fun q => (LF P (EndsF P Post) (EndsF.back Post)).take (b := base k) q fun a' x' q' => fin todo a' x' q'
  have hok := hw (base k) [] [] (by intro h; cases h) (.inl rfl) fun e a' x' q => by
    cases e with
    | normal => exact (LF P (EndsF P Post) (EndsF.back Post)).silent rfl (fun _ => sq_end rfl) (fin2 [] a' x' q)
    | ret => exact fun todo => (LF P (EndsF P Post) (EndsF.back Post)).silent rfl (fun _ => sq_ret rfl) (fin2 _ a' x' q)
    | _ => exact q.elim
  exact hok _ W none #[] (Rely.refl trivial) rfl (.alone ⟨rfl, ⟨_, _, leavers_one P _, past_any _, fun _ h => h.elim⟩, fun _ h => h, fun _ h => h.elim⟩)
end
section
variable {H : Type} {enc : TypeId × Value → H}
set_option maxRecDepth 100000 in
theorem law_liftedA {os : Os} (started : os.Started) {k : FuncId} {f : Func} {s : ChangeSpec} {conds : List PathCond} {tb : TypeId}
    (noInit : Tryz.checked.prog.inits.idxOf? k = none) (hfn : Tryz.prog.funcs[k]? = some f)
    (witness : ∃ (w : World) (tape : Tape) (i : Input), w.os = os ∧ (w.forCall tape i).Shaped Tryz.checked.prog ∧ i.vars = [] ∧ Input.okWide Tryz.checked.prog (w.forCall tape i) .any w.heap.size k i ∧
      s.pre6 enc Tryz.checked.prog f conds false (w.forCall tape i).memory i.args ∧ ({} : Assume).holds Tryz.checked.prog (lone (Frame.enter Tryz.checked.prog k i.args .normal) [] (w.forCall tape i)))
    (hrt : f.resultTypes = #[tb]) (htb : Tryz.prog.underlying tb = some .bool)
    (hread : f.params.toList.all (fun t => Tryz.prog.readableRec t && decide (t < Tryz.prog.types.size)) = true)
    (hvs : s.vars = []) (hsp : ∀ ds : List (DataW H), ds.length = f.params.size → s.fn H (ds ++ []) = { results := [.lit (.bool true)], args := ds })
    (walk : ∀ (W : World) (base : Nat) (args : Array Value) (ds : List (DataW H)) (p : List MemPlace),
      (∀ (j : Nat) (t : TypeId) (v : Value), f.params[j]? = some t → args[j]? = some v → Value.okWide Tryz.prog W .any base t v) →
      DataW.TrodAll enc Tryz.prog W 0 (fun _ => true) true f.params.toList args.toList ds p → (∀ x ∈ p, x.block < W.heap.size) →
      ∃ xs, CallOkA Tryz.prog k xs (fun r => r = .v (.bool true)) ∧ dreps (Old W) W xs args.toList) :
    ReturnsInLeavingWide {} Tryz.checked os k .any (s.pre6 enc Tryz.prog f conds false) (s.post enc Tryz.prog f false true false false) := by
  refine returnsInLeavingWide_of_change_sized (C := Tryz.checked) own started hfn witness ?_
  intro W base args ds gs before hval hW _ _ _
  have hlt : ∀ p ∈ before, p.block < W.heap.size := fun p hp => hW.lt p hp
  have hW0 := hW
  obtain ⟨p, q, hA, hV, hpq, hz, hn⟩ := hW
  obtain ⟨xs, h1, h2⟩ := walk W base args ds p hval hA (fun x hx => hlt x (by rw [hpq]; simp [hx]))
  refine runs_of_callA (P := Tryz.prog) noInit h1 h2 fun v r g' x' hr hrep hb => ?_
  subst hr
  simp only [rep] at hrep
  subst hrep
  have hbel : Bel W x'.w := ⟨hb.os, hb.tape, hb.output, hb.size, fun k hk => hb.block k hk (fun h => h hk)⟩
  exact post_of_bel (P := Tryz.prog) laidOut hW0 hvs hrt htb (fun t ht => by
    have := List.all_eq_true.1 hread t ht
    simpa using this) hsp hbel
end
end Go.Proofs.YtpcahgedkmgllaaGreat
