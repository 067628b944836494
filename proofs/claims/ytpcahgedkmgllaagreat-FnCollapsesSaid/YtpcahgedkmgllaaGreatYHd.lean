/- A hand of impl.CornersOf: its closure, from its birth to where it hands in. -/
import Derived.Test.YtpcahgedkmgllaaGreatYG8
import Derived.Test.YtpcahgedkmgllaaGreatYLk
import Derived.Test.YtpcahgedkmgllaaGreatZ18
set_option maxHeartbeats 4000000
namespace Go.Proofs.YtpcahgedkmgllaaGreat
open Go Go.Conc Go.ConcN Go.Eng Go.Conc.Lib Go.ConcR.Gen Go.RowKit
open Go.ConcR (KK wgBlock WgAt stA smA DC0)
set_option maxRecDepth 100000
attribute [local irreducible] QV TV WL HW W CallOk Weak

noncomputable def bot : Frame := { (default : Frame) with fn := Tryz.prog.funcs.size, defers := [], mode := .panicking [goexitEntry] }
def handCall (v0 v1 v2 v3 : Value) : Deferred := { target := .fn (.func 49) #[v0, v1, v2, v3], args := #[] }
theorem quitsTail (T : Array Value) : QuitsD Tryz.prog 2 0 (G { (baseD 49).at ⟨T, []⟩ [] with mode := .returning } [bot]) := by
  refine QuitsD.ctl (g' := G bot []) rfl (fun w => ?_) ?_
  · simp [G, stepG, unwind, doReturn, results, Frame.at, baseD, bot, Tryz.func49, Tryz.results49, seen, GStep.after, goexitEntry]
  refine QuitsD.ctl (g' := { G bot [] with status := .finished }) rfl (fun w => ?_) ⟨rfl, rfl⟩
  simp [G, stepG, unwind, bot, goexitEntry, Frame.catches]
  rfl
theorem born_step (v0 v1 v2 v3 : Value) (w : World) {c : Code} (hb : (Tryz.prog.funcs[49]?).bind (·.body) = some c) : stepG Tryz.prog false (born Tryz.prog (handCall v0 v1 v2 v3)) w =
    .go (G ((baseD 49).at ⟨#[v0, v1, v2, v3, undef, undef, undef, undef, undef, undef], []⟩ [.code c]) [bot]) w #[] := by
  obtain ⟨fn, hfn, hbody⟩ := Option.bind_eq_some_iff.1 hb
  have e : fn = _ := Option.some.inj (hfn.symm.trans Tryz.func49)
  subst e
  have hname : (Tryz.f49.name == "runtime.NumGoroutine") = false := by kernel_rfl
  have hn : ¬ Tryz.f49.name = "runtime.NumGoroutine" := by simpa using hname
  simp [born, handCall, stepG, unwind, callDeferred, invoke, callFunc, hfn, seen, GStep.after, G, Frame.enter, Frame.at, baseD, bot, hbody, hn]
def handsIn (N : Nat → Nat → Prop) (l : List Rw) (i : Nat) (vis : Nat → Prop) (v : Value) (w : World) : Prop := ∃ I : Nat → Nat → Prop, (∀ b o, I b o → vis b ∧ (w.cell? ⟨b, o, none⟩).isSome = true ∧ N b o) ∧ drep I w (slTh (frI l i)) v
theorem handsIn_keep {N : Nat → Nat → Prop} {l : List Rw} {i : Nat} {vis : Nat → Prop} {v : Value} {w w₁ : World} (h : ∀ b, vis b → w₁.heap[b]? = w.heap[b]?) : handsIn N l i vis v w → handsIn N l i vis v w₁ := by
  rintro ⟨I, h1, h2⟩
  have hk : Keeps I w w₁ := fun b o hb => World.cell?_of_block (a := ⟨b, o, none⟩) (h b (h1 b o hb).1)
  exact ⟨I, fun b o hb => ⟨(h1 b o hb).1, by rw [hk b o hb]; exact (h1 b o hb).2.1, (h1 b o hb).2.2⟩, drep_mono (fun _ _ h => h) hk h2⟩
theorem hand_ok {N : Nat → Nat → Prop} (l : List Rw) (hl20 : l.length ≤ 20) {i : Nat} (hi : i < l.length) {d : CDat} (hn : d.n = l.length) (hty : d.ty = wlink.tWg) (hCW : d.C ≠ d.Wg) (hres : ∀ vis v w, handsIn N l i vis v w → d.Res i vis v w)
    {V : Rig} {w : World} (hV : V.ext = .hand d i) (hrig : Rigged ⟨V, w⟩) (hC : ¬ V.vis d.C) (hClt : d.C < w.heap.size) {I : Nat → Nat → Prop} (hI : SeesI I ⟨V, w⟩) (hN : ∀ b o, I b o ∨ w.heap.size ≤ b ∨ ¬ V.vis b → N b o) {v1 v2 v3 : Value}
    (hargs : reps (g0 I) w [.v (.pointer (some ⟨d.Wg, 0, none⟩)), .eptr [slRw l], .eptr [vi i], .eptr [.v (.slice (some ⟨d.C, 0, none⟩) l.length l.length)]] [.pointer (some ⟨d.Wg, 0, none⟩), v1, v2, v3]) :
    (LH Tryz.prog (HStop Tryz.prog d i)).ok V (born Tryz.prog (handCall (.pointer (some ⟨d.Wg, 0, none⟩)) v1 v2 v3)) w := by
  have hcf := cornersFrom_ok l hl20 i hi
  refine (LH Tryz.prog (HStop Tryz.prog d i)).silent rfl (fun w => born_step _ _ _ _ w (by rw [Tryz.func49]; rfl)) ?_
  refine (LH Tryz.prog (HStop Tryz.prog d i)).silent rfl (fun w => stepG_seq) ?_
  refine (LH Tryz.prog (HStop Tryz.prog d i)).silent rfl (fun w => stepG_region) ?_
  simp only [List.size_toArray, List.length_cons, List.length_nil, Nat.zero_add, List.range, List.range.loop]
  refine (LH Tryz.prog (HStop Tryz.prog d i)).silent rfl (fun w => stepG_defer rfl rfl (by intro h; cases h) rfl) ?_
  refine (LH Tryz.prog (HStop Tryz.prog d i)).silent rfl (fun w => stepG_region_end) ?_
  have hE : Inv _ (g0 I) _ (⟨#[.pointer (some ⟨d.Wg, 0, none⟩), v1, v2, v3, undef, undef, undef, undef, undef, undef], [dcall 50 #[.pointer (some ⟨d.Wg, 0, none⟩)]]⟩ : Act) ⟨V, w⟩ := Inv_enter (P := Tryz.prog) (nt := 10) [dcall 50 #[.pointer (some ⟨d.Wg, 0, none⟩)]] (vals := #[.pointer (some ⟨d.Wg, 0, none⟩), v1, v2, v3]) hI hrig hargs (by simp)
  walk_nrm
  change (LH Tryz.prog (HStop Tryz.prog d i)).ok V (G ((baseD 49).at ⟨#[.pointer (some ⟨d.Wg, 0, none⟩), v1, v2, v3, undef, undef, undef, undef, undef, undef], [dcall 50 #[.pointer (some ⟨d.Wg, 0, none⟩)]]⟩ (.code _ :: [])) [bot]) w
  refine wpV_use (by intro h; cases h) (Q := fun e a x => e = .normal ∧ a.defers = [dcall 50 #[.pointer (some ⟨d.Wg, 0, none⟩)]] ∧ x.V.ext = .hand d i ∧ WgLive d.ty d.Wg x.w ∧ ∃ v, Has d.C i v x.w ∧ d.Res i x.V.vis v x.w) ?_ ?_
  refine wdrawQ 5 (hd := ?hd) (tl := ?tl) ?hm ?hB ?hT ?hs (K := fun s => Go.Eng.look s.tm 4 = .v (.slice (some ⟨d.C, 0, none⟩) l.length l.length) ∧ Go.Eng.look s.tm 5 = vi i ∧ Go.Eng.look s.tm 8 = .own 35 105 4 ((frI l i).map Th.row))
    (LH Tryz.prog (HStop Tryz.prog d i)) ?hh hE ?ht
  case hm => kernel_rfl
  case hB => kernel_rfl
  case hT => kernel_rfl
  case hs => rfl
  · (repeat (first | refine HW_nil ?_ | (apply hw0 (hd := rfl); (first | exact qv9); (exact gy0)) | (apply hwb (hd := rfl); exact qbx; (exact gy0); rfl) | refine zq7 ?_ | refine zq8 ?_ | (apply hwn1 (hd := rfl); exact q_call1A 30 5 (hcf); (exact gy0); rfl)))
    exact ⟨rfl, rfl, rfl⟩
  · rintro s' g a x ⟨k4, k5, k8⟩ hi'
    have t4 := hi'.tm 4
    have t5 := hi'.tm 5
    have t8 := hi'.tm 8
    rw [k4] at t4; rw [k5] at t5; rw [k8] at t8
    simp only [rep] at t4 t5 t8
    have hext : x.V.ext = .hand d i := hi'.mem.vis.ext.trans hV
    have hCx : ¬ x.V.vis d.C := fun hv => (hi'.mem.vis.dn _ hv).elim hC fun hv => absurd hClt (Nat.not_lt.2 hv)
    have hd8 := drep_of_own t8
    have hin : handsIn N l i x.V.vis (a.tmps.getD 8 undef) x.w := ⟨g.I, fun b o hb => ⟨hi'.mem.vis.I b o hb, hi'.mem.mem.cell b o hb, hN b o (hi'.mem.mem.inew b o hb)⟩, hd8⟩
    obtain ⟨A, c, h8, _⟩ : ∃ A c, a.tmps.getD 8 undef = .slice A ((frI l i).map Th.row).length c ∧ True := by
      simp only [drep] at hd8
      obtain ⟨A, c, h, _⟩ := hd8
      exact ⟨A, c, h, trivial⟩
    have sz : a.tmps.size = 10 := hi'.sz
    refine wpListV_cons rfl (hand_index (C := d.C) (i := i) t4 t5 hi fun w₁ r => ?_)
    have e9 : (a.put (some 9) (.pointer (some ⟨d.C, i, none⟩))).eval (.tmp 9) = .pointer (some ⟨d.C, i, none⟩) := by simp [Act.eval, Act.put, sz]
    have e8 : (a.put (some 9) (.pointer (some ⟨d.C, i, none⟩))).eval (.tmp 8) = a.tmps.getD 8 undef := by simp [Act.eval, Act.put]
    refine wpListV_cons rfl (hand_store hext hCW (by omega) hCx e9 (by rw [e8, h8]; rfl) (by rw [e8, h8]; rfl) fun w₂ w' r₂ rb hhas hlw => ?_)
    rw [e8] at hhas
    have hin' := handsIn_keep rb.block (handsIn_keep r₂.block (handsIn_keep r.block hin))
    exact ⟨rfl, hi'.de, hext, hlw, _, hhas, hres _ _ _ hin'⟩
  · rintro e a' x' ⟨rfl, hde, hext, hlw, v, hhas, hr⟩
    show (LH Tryz.prog (HStop Tryz.prog d i)).ok x'.V (G ((baseD 49).at a' []) [bot]) x'.w
    refine (LH Tryz.prog (HStop Tryz.prog d i)).silent rfl (fun _ => stepG_end) ?_
    refine (LH Tryz.prog (HStop Tryz.prog d i)).silent rfl (fun _ => stepG_unwind_enter hde Tryz.func50 (by kernel_rfl) rfl) ?_
    rw [hty] at hlw
    have hg := h_done (pay := d.pay) (n := d.n) wlib (c := { (baseD 49).at ⟨a'.tmps, []⟩ [] with mode := .returning }) (cs := [bot]) rfl (quitsTail a'.tmps) x'.w hlw hhas
    rw [← hty] at hg
    exact h_goes hext 15 hg hr
end Go.Proofs.YtpcahgedkmgllaaGreat
