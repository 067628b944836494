/- My walking engine, part 14: abstract values of Go, and the rules of a walk over them. No program in sight. -/
import Derived.Test.YtpcahgedkmgllaaGreatZ5
namespace Go.Eng
open Go Go.Conc

/- Data, numbers: what reads so whatever the names. -/
mutual
def dt : AV → Bool
  | .v _ => true
  | .top => true
  | .sl .. => true
  | .agg cs => dtL cs
  | _ => false
def dtL : List AV → Bool
  | [] => true
  | x :: xs => dt x && dtL xs
end
mutual
theorem rep_dt {g g' : Gh} {w : World} (hI : g'.I = g.I) : ∀ {x : AV} {y : Value}, dt x = true → rep g w x y → rep g' w x y
  | .top, _, _, _ => by simp [rep]
  | .v x, y, _, h => by simpa [rep] using h
  | .sl e rows, y, _, h => by simp only [rep] at h ⊢; rw [hI]; exact h
  | .agg cs, y, hp, h => by
    simp only [rep, dt] at h hp ⊢
    obtain ⟨a, e, h⟩ := h
    exact ⟨a, e, reps_dt hI hp h⟩
  | .tup .., _, hp, _ => by simp [dt] at hp
  | .own .., _, hp, _ => by simp [dt] at hp
  | .ptr .., _, hp, _ => by simp [dt] at hp
  | .eptr .., _, hp, _ => by simp [dt] at hp
  | .fn .., _, hp, _ => by simp [dt] at hp
  | .arr .., _, hp, _ => by simp [dt] at hp
theorem reps_dt {g g' : Gh} {w : World} (hI : g'.I = g.I) : ∀ {xs : List AV} {ys : List Value}, dtL xs = true → reps g w xs ys → reps g' w xs ys
  | [], ys, _, h => by simpa [reps] using h
  | x :: xs, ys, hp, h => by
    simp only [reps, dtL, Bool.and_eq_true] at h hp ⊢
    obtain ⟨y, zs, e, h1, h2⟩ := h
    exact ⟨y, zs, e, rep_dt hI hp.1 h1, reps_dt hI hp.2 h2⟩
end
def gP (I : Nat → Nat → Prop) (b T : Nat) : Gh := ⟨I, fun n => if n = 1000000 then some b else none, fun _ => none, fun _ => False, fun _ => T⟩
abbrev enP (P : Program) (B : Nat) (w0 : World) (nt b T : Nat) (I0 : Nat → Nat → Prop) (V0 : Rig) : En := ⟨P, B, w0, nt, fun c => c = b ∨ ¬ V0.vis c, [], I0, fun n c U => n = 1000000 ∧ c = b ∧ U = T, V0, []⟩
structure RetP (I : Nat → Nat → Prop) (b : Nat) (x : CW) (g' : Gh) (x' : CW) : Prop where
  below : BelowM x.w.heap.size (fun c => c = b ∨ ¬ x.V.vis c) x.w x'.w
  old : ∀ b o, I b o → g'.I b o
  new : ∀ b o, g'.I b o → I b o ∨ x.w.heap.size ≤ b
  cell : ∀ b o, g'.I b o → (x'.w.cell? ⟨b, o, none⟩).isSome = true
  own : ∀ n c, g'.ow n → g'.om n = some c → x.w.heap.size ≤ c ∧ c < x'.w.heap.size
  inj : ∀ n n' c, g'.ow n → g'.ow n' → g'.om n = some c → g'.om n' = some c → n = n'
  grows : Grows x x'
  visI : ∀ b o, g'.I b o → x'.V.vis b
  visO : ∀ n b, g'.ow n → g'.om n = some b → x'.V.mine b
def CallPtr (P : Program) (f : Nat) (args cs : List AV) (R : AV → List AV → Prop) : Prop :=
  ∀ (L : Lg P) (I : Nat → Nat → Prop) (x : CW) (b T : Nat) (vals arr : Array Value), SeesI I x → Rigged x → x.V.mine b → (∀ o, ¬ I b o) → x.w.heap[b]? = some (.cells arr T (0, 0)) → reps (gP I b T) x.w cs arr.toList → reps (gP I b T) x.w args vals.toList →
    CallsV L f vals x fun y x' => ∃ r cs' arr', ∃ g' : Gh, R r cs' ∧ rep g' x'.w r y ∧ RetP I b x g' x' ∧ x'.w.heap[b]? = some (.cells arr' T (0, 0)) ∧ reps g' x'.w cs' arr'.toList ∧ ∀ o, ¬ g'.I b o
def ptrQ (E : En) (rs : List ResultVar) (R : AV → List AV → Prop) : Exit → St → Prop
  | .normal, s => ∃ s', Weak E s s' ∧ ∃ xs cs', resA E.P s' rs xs ∧ (1000000, cs') ∈ s'.bl ∧ R (oneA xs) cs' ∧ refs [] s'.ow (oneA xs) = true ∧ dtL cs' = true
  | .ret, s => ∃ s', Weak E s s' ∧ ∃ xs cs', resA E.P s' rs xs ∧ (1000000, cs') ∈ s'.bl ∧ R (oneA xs) cs' ∧ refs [] s'.ow (oneA xs) = true ∧ dtL cs' = true
  | _, _ => False
theorem callPtr {P : Program} {f nt : Nat} {fn : Func} {rs : Array ResultVar} {co : Code} {args cs : List AV} {tm : List (Nat × AV)} {R : AV → List AV → Prop} (hf : P.funcs[f]? = some fn) (hnt : fn.ntmps = nt) (hrs : fn.results = rs) (hb : fn.body = some co) (hn : Nat.ble args.length nt = true) (htm : iniO 0 args = some tm)
    (h : ∀ (B : Nat) (w0 : World) (b T : Nat) (I0 : Nat → Nat → Prop) (V0 : Rig), W (enP P B w0 nt b T I0 V0) co (ptrQ (enP P B w0 nt b T I0 V0) rs.toList R) ⟨tm, [(1000000, cs)], []⟩) : CallPtr P f args cs R := by
  subst hnt; subst hrs
  intro L I x b T vals arr hI hx hmine hIb hh hreps hargs'
  have htm' := iniO_eq htm
  have hn' := Nat.le_of_ble_eq_true hn
  have hblt : b < x.w.heap.size := (Array.getElem?_eq_some_iff.1 hh).1
  let E : En := enP P x.w.heap.size x.w fn.ntmps b T I x.V
  let g : Gh := gP I b T
  have hlen := reps_length hargs'
  have hgm : ∀ n c, g.m n = some c → n = 1000000 ∧ c = b := fun n c h => by
    by_cases e1 : n = 1000000
    · simp only [g, gP, e1, if_true, Option.some.injEq] at h; exact ⟨e1, h.symm⟩
    · simp only [g, gP, e1, if_false] at h; cases h
  have hi0 : Inv E g ⟨tm, [(1000000, cs)], []⟩ { tmps := vals ++ Array.replicate (fn.ntmps - vals.size) undef, defers := [] } x := by
    refine ⟨⟨⟨BelowM.refl _ _ _, Nat.le_refl _, fun b o h => (hI b o h).1, fun n c h => ?_, fun _ _ h => h.elim, fun n n' c h1 h2 => (hgm n c h1).1.trans (hgm n' c h2).1.symm, fun _ _ _ h => h.elim, fun _ _ _ _ h => h.elim,
      fun n cs h => ?_, fun n c h => ?_, fun _ h => h.elim, fun _ _ h => .inl h, fun _ _ h => h, fun n c U h => ?_⟩,
      ⟨fun b o h => (hI b o h).2, fun n c h => ?_, fun _ _ h => h.elim, hx.sub, hx.lt, fun _ h => h, fun _ h => h, fun _ h => .inl h, fun _ h => .inl h, fun c h => Classical.not_not.1 fun h' => h (.inr h'), rfl⟩⟩, fun t => ?_, rfl, ?_⟩
    · obtain ⟨rfl, rfl⟩ := hgm n c h
      exact ⟨.inr (.inr (.inl rfl)), hblt⟩
    · simp only [List.mem_singleton, Prod.mk.injEq] at h
      obtain ⟨rfl, rfl⟩ := h
      exact ⟨b, arr, by simp [g, gP], hh, hreps, hIb⟩
    · obtain ⟨rfl, rfl⟩ := hgm n c h
      exact ⟨_, List.mem_singleton.2 rfl⟩
    · obtain ⟨rfl, rfl, rfl⟩ := h
      exact ⟨by simp [g, gP], rfl⟩
    · obtain ⟨rfl, rfl⟩ := hgm n c h
      exact ⟨hx.sub _ hmine, fun _ => hmine⟩
    · rw [← htm']
      simp only [look_zip, Nat.zero_le, if_true, Nat.sub_zero]
      rcases Nat.lt_or_ge t args.length with h1 | h1
      · obtain ⟨y, hy, hr⟩ := reps_get hargs' (List.getElem?_eq_getElem h1)
        have : t < vals.size := by simpa [← hlen] using h1
        have hy' : vals[t] = y := by simpa [this] using hy
        simp only [List.getD_eq_getElem?_getD, List.getElem?_eq_getElem h1, Option.getD_some]
        simp only [Array.getD_eq_getD_getElem?, Array.getElem?_append_left this, Array.getElem?_eq_getElem this, Option.getD_some, hy']
        exact hr
      · simp only [List.getD_eq_getElem?_getD, List.getElem?_eq_none h1, Option.getD_none, rep]
    · have : vals.size = args.length := by simpa using hlen
      show (vals ++ Array.replicate (fn.ntmps - vals.size) undef).size = fn.ntmps
      simp; omega
  refine ⟨fn, co, hf, hb, wpV_mono (h x.w.heap.size x.w b T I x.V L g _ x hi0) fun e a' x' hq => ?_⟩
  obtain ⟨g', s', hq, hi⟩ := hq
  have fin : (∃ s2, Weak E s' s2 ∧ ∃ xs cs', resA P s2 fn.results.toList xs ∧ (1000000, cs') ∈ s2.bl ∧ R (oneA xs) cs' ∧ refs [] s2.ow (oneA xs) = true ∧ dtL cs' = true) → a'.defers = [] ∧ ∀ w₁, Rely x'.V x'.w w₁ → ∃ v, (results fn a'.tmps).run P w₁ = .ok v w₁ ∧
      (∀ e ∈ (results fn a'.tmps).events P w₁ #[], EvG x'.V w₁.heap.size w₁.heap.size e) ∧
      ∃ r cs' arr', ∃ g' : Gh, R r cs' ∧ rep g' w₁ r v ∧ RetP I b x g' ⟨x'.V, w₁⟩ ∧ w₁.heap[b]? = some (.cells arr' T (0, 0)) ∧ reps g' w₁ cs' arr'.toList ∧ ∀ o, ¬ g'.I b o := by
    rintro ⟨s2, hw, xs, cs', h1, h2, h3, h4, h5⟩
    obtain ⟨g', hi⟩ := hw _ _ _ hi
    refine ⟨hi.de, fun w₁ rl => ?_⟩
    have hi := hi.rely rl
    obtain ⟨y, k1, k2, k3⟩ := run_results hi h1
    obtain ⟨c, arr', m1, m2, m3, m4⟩ := hi.mem.mem.blk _ _ h2
    obtain ⟨p1, p2⟩ := hi.mem.mem.pin 1000000 b T ⟨rfl, rfl, rfl⟩
    have : c = b := by rw [p1] at m1; exact (Option.some.inj m1).symm
    subst this
    rw [p2] at m2
    let g2 : Gh := { g' with m := fun _ => none }
    have hm := hi.mem.mem
    have hv := hi.mem.vis
    have nM : ∀ b, x'.V.vis b → (¬ x.V.vis b) → x.w.heap.size ≤ b := fun b h1 h2 => (hv.dn b h1).resolve_left h2
    refine ⟨y, k1, fun e he => ?_, oneA xs, cs', arr', g2, h3, rep_refs (g := g') (g' := g2) rfl (fun n b hn => by simp at hn) rfl (fun n _ h => ⟨h, rfl⟩) h4 k2,
      ⟨hm.below, hm.iold, fun k o h => (hm.inew k o h).imp id (fun h' => h'.elim id fun h'' => h''.elim (fun e => by rw [e] at h; exact absurd h (m4 o)) (nM k (hv.I k o h))), hm.cell,
        fun n k h1 h2 => ⟨(hm.ofr n k h1 h2).1.elim id fun h'' => h''.elim (fun e => absurd (e ▸ h2) (hm.disj 1000000 n c p1 h1)) (nM k (hv.sub k (hv.o n k h1 h2))), (hm.ofr n k h1 h2).2⟩, hm.oinj,
        ⟨⟨hv.sub, hv.lt⟩, hv.up, hv.upm, hv.dn, hv.dnm, hv.ext⟩, hv.I, hv.o⟩, m2, reps_dt (g := g') (g' := g2) rfl h5 m3, m4⟩
    rcases k3 e he with ⟨a, rfl, ha⟩ | hk
    · exact .inl ⟨a, false, rfl, .inl ⟨seen_vis hi.mem.vis ha, fun h => by cases h⟩⟩
    · exact .inr (.inl hk)
  cases e with
  | normal => exact Or.inl (fin hq)
  | ret => exact Or.inl (fin hq)
  | _ => exact hq.elim
inductive PtA (N : Nat) : List AV → List AV → Prop where
  | nil : PtA N [] []
  | ptr {xs ys : List AV} (hs : PtA N xs ys) : PtA N (.ptr N 0 :: xs) (.ptr 1000000 0 :: ys)
  | v {x : Value} {xs ys : List AV} (hs : PtA N xs ys) : PtA N (.v x :: xs) (.v x :: ys)
  | sl {e : Nat} {rows : List (List AV)} {xs ys : List AV} (hs : PtA N xs ys) : PtA N (.sl e rows :: xs) (.sl e rows :: ys)
  | own {n T e : Nat} {rows : List (List AV)} {xs ys : List AV} (hs : PtA N xs ys) : PtA N (.own n T e rows :: xs) (.sl e rows :: ys)
  | agg {cs ds xs ys : List AV} (h : LeDs cs ds) (hs : PtA N xs ys) : PtA N (.agg cs :: xs) (.agg ds :: ys)
theorem reps_ptA {g : Gh} {w : World} {N b T : Nat} (hm : g.m N = some b) {xs ys : List AV} (h : PtA N xs ys) : ∀ {zs : List Value}, reps g w xs zs → reps (gP g.I b T) w ys zs := by
  induction h with
  | nil => intro zs h; simpa only [reps] using h
  | ptr _ ih =>
    intro zs h
    simp only [reps, rep] at h ⊢
    obtain ⟨y, zs', e, ⟨c, k1, k2⟩, h2⟩ := h
    rw [hm] at k1
    cases k1
    exact ⟨y, zs', e, ⟨b, by simp [gP], k2⟩, ih h2⟩
  | v _ ih => intro zs h; simp only [reps, rep] at h ⊢; obtain ⟨y, zs', e, h1, h2⟩ := h; exact ⟨y, zs', e, h1, ih h2⟩
  | sl _ ih => intro zs h; simp only [reps, rep] at h ⊢; obtain ⟨y, zs', e, h1, h2⟩ := h; exact ⟨y, zs', e, h1, ih h2⟩
  | own _ ih =>
    intro zs h
    simp only [reps] at h ⊢
    obtain ⟨y, zs', e, h1, h2⟩ := h
    refine ⟨y, zs', e, ?_, ih h2⟩
    simp only [rep] at h1 ⊢
    exact (drep_of_own h1 : drep g.I w (.sl _ _) y)
  | agg hd _ ih =>
    intro zs h
    simp only [reps] at h ⊢
    obtain ⟨y, zs', e, h1, h2⟩ := h
    have h3 := dreps_leDs (g := g) (LeDs.agg hd LeDs.nil) (by simp only [reps]; exact ⟨y, [], rfl, h1, rfl⟩)
    simp only [dreps] at h3
    obtain ⟨_, _, e1, h4, _⟩ := h3
    cases e1
    exact ⟨y, zs', e, rep_of_drep (g := gP g.I b T) h4, ih h2⟩
theorem MemV.turned {E : En} {g g' : Gh} {bl : List (Nat × List AV)} {ow : List Nat} {x x' : CW} {N b : Nat} {cs' : List AV} {arr : Array Value} (hmv : MemV E g bl ow x) (hn7 : Nat.blt N 7000000 = true) (hn : g.m N = some b) (hro : N ∉ E.ron) (hr : RetP g.I b x g' x') (hh : x'.w.heap[b]? = some (.cells arr (g.mt N) (0, 0)))
    (hc : reps g' x'.w cs' arr.toList) (hd : dtL cs' = true) (hI : ∀ o, ¬ g'.I b o) (k : Nat) (os : List Nat) (hf : ∀ n ∈ os, k + n ∉ ow) :
    ∃ gc, Goes g x.w gc x'.w ∧ MemV E gc (setB bl N cs') (os.map (k + ·) ++ ow) x' ∧ gc.I = g'.I ∧ (∀ n, n ∈ os → g'.ow n → gc.ow (k + n) ∧ gc.om (k + n) = g'.om n) ∧ gc.m = g.m ∧ gc.mt = g.mt ∧ ∀ j c, gc.ow j → gc.om j = some c → (g.ow j ∧ g.om j = some c) ∨ (∃ n ∈ os, j = k + n ∧ g'.ow n ∧ g'.om n = some c) := by
  have h := hmv.mem
  have hv := hmv.vis
  have hG := hr.grows
  let gc : Gh := { I := g'.I, m := g.m, om := fun j => if j ∈ ow then g.om j else g'.om (j - k), ow := fun j => g.ow j ∨ (j ∉ ow ∧ ∃ n ∈ os, j = k + n ∧ g'.ow n), mt := g.mt }
  have hIb : ∀ o, ¬ g.I b o := fun o ho => hI o (hr.old b o ho)
  have heap : ∀ c, x.V.vis c → c ≠ b → x'.w.heap[c]? = x.w.heap[c]? := fun c hb hne => hr.below.block c (hv.lt c hb) fun h => h.elim hne fun h => h hb
  have keeps : Keeps g.I x.w x'.w := fun c o hb => World.cell?_of_block (a := ⟨c, o, none⟩) (heap c (hv.I c o hb) fun e => hIb o (e ▸ hb))
  have how : ∀ j, g.ow j → gc.ow j ∧ gc.om j = g.om j := fun j hj => ⟨.inl hj, by simp only [gc, h.own j hj, if_true]⟩
  have hI2 : ∀ c o, c < x.w.heap.size → g'.I c o → g.I c o := fun c o hb hI => (hr.new c o hI).resolve_right (by omega)
  have hoc : ∀ j c, gc.ow j → gc.om j = some c → (g.ow j ∧ g.om j = some c) ∨ (∃ n ∈ os, j = k + n ∧ g'.ow n ∧ g'.om n = some c) := by
    intro j c h1 h2
    rcases h1 with h1 | ⟨h1, n, hn, rfl, h3⟩
    · exact .inl ⟨h1, by rw [(how j h1).2] at h2; exact h2⟩
    · simp only [gc, h1, if_false, Nat.add_sub_cancel_left] at h2
      exact .inr ⟨n, hn, rfl, h3, h2⟩
  have hob : ∀ n c, g.ow n → g.om n = some c → c ≠ b := fun n c h1 h2 e => h.disj N n b hn h1 (e ▸ h2)
  have goes : Goes g x.w gc x'.w := ⟨hr.old, keeps, fun _ _ h => h, fun _ _ _ => rfl, fun n T e rows y hy => ownRep_goes (g := g) (g' := gc) hr.old keeps how (fun n c h1 h2 => heap c (hv.sub c (hv.o n c h1 h2)) (hob n c h1 h2)) (fun n c o h1 h2 h3 => hI2 c o (h.ofr n c h1 h2).2 h3) hy, fun j c i h7 hj hc => hc.same (heap c (hv.m j c hj).1 fun e => by
    have h8 := Nat.le_of_ble_eq_true hn7
    have := h.minj j N b (e ▸ hj) hn
    omega)⟩
  refine ⟨gc, goes, ?_, rfl, fun n hn h1 => ⟨.inr ⟨hf n hn, n, hn, rfl, h1⟩, by simp only [gc, hf n hn, if_false, Nat.add_sub_cancel_left]⟩, rfl, rfl, hoc⟩
  have hsz := hr.below.size
  have hbB : E.B ≤ b ∨ E.M b := (h.mfr N b hn).1.resolve_left hro
  refine ⟨?_, { I := hr.visI, m := fun n b hn => ⟨hG.up b (hv.m n b hn).1, fun hr => hG.upm b ((hv.m n b hn).2 hr)⟩, o := fun j c h1 h2 => ?_, sub := hG.rig.sub, lt := hG.rig.lt, up := fun b hb => hG.up b (hv.up b hb), upm := fun b hb => hG.upm b (hv.upm b hb), dn := fun b hb => (hG.dn b hb).elim (hv.dn b) (fun h1 => .inr (Nat.le_trans h.base h1)), dnm := fun b hb => (hG.dnm b hb).elim (hv.dnm b) (fun h1 => .inr (Nat.le_trans h.base h1)), nM := hv.nM, ext := hG.ext.trans hv.ext }⟩
  rotate_left
  · rcases hoc j c h1 h2 with ⟨h3, h4⟩ | ⟨n, _, _, h3, h4⟩
    · exact hG.upm c (hv.o j c h3 h4)
    · exact hr.visO n c h3 h4
  refine { below := ⟨hr.below.os.trans h.below.os, hr.below.tape.trans h.below.tape, hr.below.output.trans h.below.output, Nat.le_trans h.below.size hsz, fun j hj hM => ?_⟩,
           base := Nat.le_trans h.base hsz, cell := hr.cell, mfr := fun n c hn => ⟨(h.mfr n c hn).1, Nat.lt_of_lt_of_le (h.mfr n c hn).2 hsz⟩, ofr := ?_, minj := h.minj, oinj := ?_, disj := ?_, blk := ?_, key := fun j c hj => ?_, own := ?_, inew := ?_, iold := fun b o hb => hr.old b o (h.iold b o hb), pin := h.pin }
  · rw [heap j (hv.up j (hv.nM j hM)) fun e => by subst e; rcases hbB with h1 | h1 <;> first | omega | exact hM h1]
    exact h.below.block j hj hM
  · intro j c h1 h2
    rcases hoc j c h1 h2 with ⟨h3, h4⟩ | ⟨n, _, _, h3, h4⟩
    · exact ⟨(h.ofr j c h3 h4).1, Nat.lt_of_lt_of_le (h.ofr j c h3 h4).2 hsz⟩
    · have := hr.own n c h3 h4
      exact ⟨.inl (Nat.le_trans h.base this.1), this.2⟩
  · intro j j' c h1 h1' h2 h2'
    rcases hoc j c h1 h2 with ⟨h3, h4⟩ | ⟨n, _, rfl, h3, h4⟩ <;> rcases hoc j' c h1' h2' with ⟨h5, h6⟩ | ⟨n', _, rfl, h5, h6⟩
    · exact h.oinj j j' c h3 h5 h4 h6
    · have h7 := (h.ofr j c h3 h4).2; have h8 := (hr.own n' c h5 h6).1; omega
    · have h7 := (h.ofr j' c h5 h6).2; have h8 := (hr.own n c h3 h4).1; omega
    · rw [hr.inj n n' c h3 h5 h4 h6]
  · intro j j' c h1 h2 h3
    rcases hoc j' c h2 h3 with ⟨h4, h5⟩ | ⟨n, _, rfl, h4, h5⟩
    · exact h.disj j j' c h1 h4 h5
    · have h7 := (h.mfr j c h1).2; have h8 := (hr.own n c h4 h5).1; omega
  · intro n ds hds
    simp only [setB, List.mem_map] at hds
    obtain ⟨⟨k', ds'⟩, hp, he⟩ := hds
    obtain ⟨c, arr', h1, h2, h3, h4⟩ := h.blk k' ds' hp
    have hcl := (h.mfr k' c h1).2
    cases hb : Nat.beq k' N
    · simp only [hb, cond_false, Prod.mk.injEq] at he
      obtain ⟨rfl, rfl⟩ := he
      have hne : c ≠ b := fun e => by
        subst e
        have := h.minj k' N c h1 hn
        rw [this] at hb; simp at hb
      exact ⟨c, arr', h1, (heap c (hv.m _ _ h1).1 hne).trans h2, reps_goes goes h3, fun o ho => h4 o (hI2 c o hcl ho)⟩
    · simp only [hb, cond_true, Prod.mk.injEq] at he
      obtain ⟨rfl, rfl⟩ := he
      have e := Nat.eq_of_beq_eq_true hb
      rw [e] at h1 ⊢
      have : c = b := by rw [hn] at h1; exact (Option.some.inj h1).symm
      subst this
      exact ⟨c, arr, hn, hh, reps_dt (g := g') (g' := gc) rfl hd hc, hI⟩
  · obtain ⟨ds, hd'⟩ := h.key j c hj
    cases hb : Nat.beq j N
    · exact ⟨ds, List.mem_map.2 ⟨_, hd', by simp only [hb, cond_false]⟩⟩
    · exact ⟨cs', List.mem_map.2 ⟨_, hd', by simp only [hb, cond_true]⟩⟩
  · intro j hj
    rcases hj with hj | ⟨_, n, hn, rfl, _⟩
    · exact List.mem_append_right _ (h.own j hj)
    · exact List.mem_append_left _ (List.mem_map.2 ⟨n, hn, rfl⟩)
  · intro b o hb
    rcases hr.new b o hb with h1 | h1
    · exact h.inew b o h1
    · exact .inr (.inl (Nat.le_trans h.base h1))
section
variable {E : En} {ops : Array Oper} {rest : List Oper} {Q : Exit → St → Prop} {tm : List (Nat × AV)} {bl : List (Nat × List AV)} {ow : List Nat} {d : Nat} {ty : TypeId} {pos : String} {af : Array Edge}
theorem wlptr {x : Operand} {xs : Array Operand} {ts : Array TypeId} {f N : Nat} {args cs : List AV} {R : AV → List AV → Prop} (k : Nat) (os : List Nat) [hf : FnOk E.P f] (h : CallPtr E.P f args cs R) (hx : ev tm x = .v (.func (.func f) #[] #[])) (ha : PtA N (xs.toList.map (ev tm)) args) (hb : lookB bl N = some cs) (hcs : dtL cs = true) (hro : N ∉ E.ron)
    (hR : ∀ r cs', R r cs' → ownsIn os r = true ∧ dtL cs' = true) (hfr : (os.all fun n => ow.all fun j => !Nat.beq (k + n) j) = true) (hd : Nat.blt d E.nt = true)
    (hk : ∀ r cs', R r cs' → WL E ops rest Q ⟨(d, ren k r) :: tm, setB bl N cs', os.map (k + ·) ++ ow⟩) (hn7 : Nat.blt N 7000000 = true := by rfl) : WL E ops (⟨some d, .call ⟨.value x, xs, ts⟩, ty, pos, af, none⟩ :: rest) Q ⟨tm, bl, ow⟩ := by
  refine WL_call hx fun L g a w hi h2 => ?_
  obtain ⟨b, arr, m1, m2, m3, m4⟩ := hi.mem.mem.blk _ _ (lookB_mem hb)
  refine (h L g.I w b (g.mt N) (xs.map a.eval) arr hi.seesI hi.rigged ((hi.mem.vis.m _ b m1).2 hro) m4 m2 (reps_dt (g := g) (g' := gP g.I b (g.mt N)) rfl hcs m3) (reps_ptA m1 ha h2)).mono fun y w' he => ?_
  obtain ⟨r, cs', arr', g', hr, k1, k2, k3, k4, k5⟩ := he
  obtain ⟨q1, q2⟩ := hR r cs' hr
  have hfr' : ∀ n ∈ os, k + n ∉ ow := fun n hn hm => by
    have := List.all_eq_true.1 (List.all_eq_true.1 hfr n hn) _ hm
    simp at this
  obtain ⟨gc, p1, p2, p3, p4, _⟩ := hi.mem.turned hn7 m1 hro k2 k3 k4 q2 k5 k os hfr'
  have hput := look_put (E := E) (g := gc) (w := w'.w) (a := a) (s := ⟨tm, setB bl N cs', ow⟩) (d := some d) (v := ren k r) (y := y) [] (os.map (k + ·)) (fun k hk => by cases hk; exact Nat.le_of_ble_eq_true hd) hi.sz (fun t => rep_goes p1 (hi.tm t)) (rep_ren p3 p4 q1 k1)
  exact hk r cs' hr L gc _ w' ⟨p2, hput, hi.de, by simp [Act.put, hi.sz]⟩
end
end Go.Eng

namespace Go.Eng
open Go Go.Conc

def CallMake (P : Program) (f : Nat) (args : List AV) (R : List AV → Prop) : Prop :=
  ∀ (L : Lg P) (I : Nat → Nat → Prop) (x : CW) (vals : Array Value), SeesI I x → Rigged x → dreps I x.w args vals.toList →
    CallsV L f vals x fun y x' => ∃ (b T : Nat) (arr : Array Value) (cs : List AV) (g' : Gh), y = .pointer (some ⟨b, 0, none⟩) ∧ R cs ∧ dtL cs = true ∧ x.w.heap.size ≤ b ∧ x'.V.mine b ∧ x'.w.heap[b]? = some (.cells arr T (0, 0)) ∧ reps g' x'.w cs arr.toList ∧ (∀ o, ¬ g'.I b o) ∧ Ret I x g' x'
def makeQ (E : En) (rs : List ResultVar) (R : List AV → Prop) : Exit → St → Prop
  | .normal, s => ∃ n cs, resA E.P s rs [.ptr n 0] ∧ (n, cs) ∈ s.bl ∧ R cs ∧ dtL cs = true
  | .ret, s => ∃ n cs, resA E.P s rs [.ptr n 0] ∧ (n, cs) ∈ s.bl ∧ R cs ∧ dtL cs = true
  | _, _ => False
theorem callMake {P : Program} {f nt : Nat} {fn : Func} {rs : Array ResultVar} {c : Code} {args : List AV} {tm : List (Nat × AV)} {R : List AV → Prop} (hf : P.funcs[f]? = some fn) (hnt : fn.ntmps = nt) (hrs : fn.results = rs) (hb : fn.body = some c) (hn : Nat.ble args.length nt = true) (htm : iniO 0 args = some tm)
    (h : ∀ (B : Nat) (w0 : World) (M : Nat → Prop) (I0 : Nat → Nat → Prop) (V0 : Rig), W (enC P B w0 nt M I0 V0) c (makeQ (enC P B w0 nt M I0 V0) rs.toList R) ⟨tm, [], []⟩) : CallMake P f args R := by
  subst hnt; subst hrs
  intro L I x vals hI hx hargs
  have htm' := iniO_eq htm
  let E : En := enC P x.w.heap.size x.w fn.ntmps (fun b => ¬ x.V.vis b) I x.V
  let g : Gh := ⟨I, fun _ => none, fun _ => none, fun _ => False, fun _ => 0⟩
  have hlen := dreps_length hargs
  have hn' := Nat.le_of_ble_eq_true hn
  have hargs' : reps g x.w args vals.toList := reps_of_dreps hargs
  have hi0 : Inv E g ⟨tm, [], []⟩ { tmps := vals ++ Array.replicate (fn.ntmps - vals.size) undef, defers := [] } x := by
    refine ⟨⟨⟨BelowM.refl _ _ _, Nat.le_refl _, fun b o h => (hI b o h).1, fun n b h => by simp [g] at h, fun n b h => by simp [g] at h, fun n n' b h => by simp [g] at h, fun n n' b h => by simp [g] at h, fun n n' b h => by simp [g] at h,
      fun n cs h => by simp at h, fun n b h => by simp [g] at h, fun n h => by simp [g] at h, fun b o h => .inl h, fun b o h => h, fun n b T h => h.elim⟩,
      ⟨fun b o h => (hI b o h).2, fun n b h => by simp [g] at h, fun n b h => by simp [g] at h, hx.sub, hx.lt, fun _ h => h, fun _ h => h, fun _ h => .inl h, fun _ h => .inl h, fun b h => Classical.not_not.1 h, rfl⟩⟩, fun t => ?_, rfl, ?_⟩
    · rw [← htm']
      simp only [look_zip, Nat.zero_le, if_true, Nat.sub_zero]
      rcases Nat.lt_or_ge t args.length with h1 | h1
      · obtain ⟨y, hy, hr⟩ := reps_get hargs' (List.getElem?_eq_getElem h1)
        have : t < vals.size := by simpa [← hlen] using h1
        have hy' : vals[t] = y := by simpa [this] using hy
        simp only [List.getD_eq_getElem?_getD, List.getElem?_eq_getElem h1, Option.getD_some]
        simp only [Array.getD_eq_getD_getElem?, Array.getElem?_append_left this, Array.getElem?_eq_getElem this, Option.getD_some, hy']
        exact hr
      · simp only [List.getD_eq_getElem?_getD, List.getElem?_eq_none h1, Option.getD_none, rep]
    · have : vals.size = args.length := by simpa using hlen
      show (vals ++ Array.replicate (fn.ntmps - vals.size) undef).size = fn.ntmps
      simp; omega
  refine ⟨fn, c, hf, hb, wpV_mono (h x.w.heap.size x.w (fun b => ¬ x.V.vis b) I x.V L g _ x hi0) fun e a' x' hq => ?_⟩
  obtain ⟨g', s', hq, hi⟩ := hq
  have fin : (∃ n cs, resA P s' fn.results.toList [.ptr n 0] ∧ (n, cs) ∈ s'.bl ∧ R cs ∧ dtL cs = true) → a'.defers = [] ∧ ∀ w₁, Rely x'.V x'.w w₁ → ∃ v, (results fn a'.tmps).run P w₁ = .ok v w₁ ∧
      (∀ e ∈ (results fn a'.tmps).events P w₁ #[], EvG x'.V w₁.heap.size w₁.heap.size e) ∧
      ∃ (b T : Nat) (arr : Array Value) (cs : List AV) (g' : Gh), v = .pointer (some ⟨b, 0, none⟩) ∧ R cs ∧ dtL cs = true ∧ x.w.heap.size ≤ b ∧ x'.V.mine b ∧ w₁.heap[b]? = some (.cells arr T (0, 0)) ∧ reps g' w₁ cs arr.toList ∧ (∀ o, ¬ g'.I b o) ∧ Ret I x g' ⟨x'.V, w₁⟩ := by
    rintro ⟨n, cs, h1, h2, h3, h4⟩
    refine ⟨hi.de, fun w₁ rl => ?_⟩
    have hi := hi.rely rl
    obtain ⟨y, k1, k2, k3⟩ := run_results hi h1
    obtain ⟨b, arr, m1, m2, m3, m4⟩ := hi.mem.mem.blk n cs h2
    have k4 : rep g' w₁ (.ptr n 0) y := k2
    simp only [rep] at k4
    obtain ⟨c, c1, c2⟩ := k4
    have : c = b := by rw [m1] at c1; exact (Option.some.inj c1).symm
    subst this
    subst c2
    have hm := hi.mem.mem
    have hv := hi.mem.vis
    have nM : ∀ b, x'.V.vis b → (¬ x.V.vis b) → x.w.heap.size ≤ b := fun b h1 h2 => (hv.dn b h1).resolve_left h2
    have hmine := (hv.m n c m1).2 List.not_mem_nil
    have m6 : x.w.heap.size ≤ c := by
      rcases (hm.mfr n c m1).1 with m5 | m5 | m5
      · cases m5
      · exact m5
      · exact nM c (hv.m n c m1).1 m5
    refine ⟨_, k1, fun e he => ?_, c, g'.mt n, arr, cs, g', rfl, h3, h4, m6, hmine, m2, m3, m4,
      ⟨hm.below, hm.iold, fun b o h => (hm.inew b o h).imp id (fun h' => h'.elim id (nM b (hv.I b o h))), hm.cell, fun n b h1 h2 => ⟨(hm.ofr n b h1 h2).1.elim id (nM b (hv.sub b (hv.o n b h1 h2))), (hm.ofr n b h1 h2).2⟩, hm.oinj,
        ⟨⟨hv.sub, hv.lt⟩, hv.up, hv.upm, hv.dn, hv.dnm, hv.ext⟩, hv.I, hv.o⟩⟩
    rcases k3 e he with ⟨a, rfl, ha⟩ | hk
    · exact .inl ⟨a, false, rfl, .inl ⟨seen_vis hi.mem.vis ha, fun h => by cases h⟩⟩
    · exact .inr (.inl hk)
  cases e with
  | normal => exact Or.inl (fin hq)
  | ret => exact Or.inl (fin hq)
  | _ => exact hq.elim
theorem MemV.made {E : En} {g g' : Gh} {bl : List (Nat × List AV)} {ow : List Nat} {x x' : CW} {N b T : Nat} {cs : List AV} {arr : Array Value} (hmv : MemV E g bl ow x) (hr : Ret g.I x g' x') (hfr : ∀ q ∈ bl, N ≠ q.1) (hb : x.w.heap.size ≤ b) (hmine : x'.V.mine b) (hh : x'.w.heap[b]? = some (.cells arr T (0, 0)))
    (hc : reps g' x'.w cs arr.toList) (hd : dtL cs = true) (hI : ∀ o, ¬ g'.I b o) :
    ∃ gc, Goes g x.w gc x'.w ∧ MemV E gc ((N, cs) :: bl) ow x' ∧ gc.m N = some b := by
  have hm := hmv.mem
  have hv := hmv.vis
  have hG := hr.grows
  have hnone : g.m N = none := by
    cases hmN : g.m N with
    | none => rfl
    | some b' => obtain ⟨cs', hc⟩ := hm.key N b' hmN; exact absurd rfl (hfr _ hc)
  let gc : Gh := { g with I := g'.I, m := fun k => if k = N then some b else g.m k, mt := fun k => if k = N then T else g.mt k }
  have heap : ∀ c, x.V.vis c → x'.w.heap[c]? = x.w.heap[c]? := fun c hb => hr.below.block c (hv.lt c hb) (fun h => h hb)
  have keeps : Keeps g.I x.w x'.w := fun c o hb => World.cell?_of_block (a := ⟨c, o, none⟩) (heap c (hv.I c o hb))
  have hI2 : ∀ c o, c < x.w.heap.size → g'.I c o → g.I c o := fun c o hb hI => (hr.new c o hI).resolve_right (by omega)
  have hsz := hr.below.size
  have hbw : b < x'.w.heap.size := (Array.getElem?_eq_some_iff.1 hh).1
  have hmm : ∀ k c, gc.m k = some c → (k = N ∧ c = b) ∨ (k ≠ N ∧ g.m k = some c) := fun k c hk => by
    by_cases e : k = N
    · simp only [gc, e, if_true, Option.some.injEq] at hk; exact .inl ⟨e, hk.symm⟩
    · simp only [gc, e, if_false] at hk; exact .inr ⟨e, hk⟩
  have hold : ∀ k c, g.m k = some c → k ≠ N := fun k c hk e => by rw [e, hnone] at hk; cases hk
  have goes : Goes g x.w gc x'.w := ⟨hr.old, keeps, fun k c hk => by simp only [gc, hold k c hk, if_false]; exact hk, fun k c hk => by simp only [gc, hold k c hk, if_false],
    fun n T e rows y hy => ownRep_goes (g := g) (g' := gc) hr.old keeps (fun k hk => ⟨hk, rfl⟩) (fun n c h1 h2 => heap c (hv.sub c (hv.o n c h1 h2))) (fun n c o h1 h2 h3 => hI2 c o (hm.ofr n c h1 h2).2 h3) hy, fun n c _ _ hn hc => hc.same (heap c (hv.m n c hn).1)⟩
  refine ⟨gc, goes, ⟨?_, { I := hr.visI, m := fun k c hk => ?_, o := fun j c h1 h2 => hG.upm c (hv.o j c h1 h2), sub := hG.rig.sub, lt := hG.rig.lt, up := fun b hb => hG.up b (hv.up b hb), upm := fun b hb => hG.upm b (hv.upm b hb), dn := fun b hb => (hG.dn b hb).elim (hv.dn b) (fun h1 => .inr (Nat.le_trans hm.base h1)), dnm := fun b hb => (hG.dnm b hb).elim (hv.dnm b) (fun h1 => .inr (Nat.le_trans hm.base h1)), nM := hv.nM, ext := hG.ext.trans hv.ext }⟩, by simp [gc]⟩
  rotate_left
  · rcases hmm k c hk with ⟨_, rfl⟩ | ⟨_, k2⟩
    · exact ⟨hG.rig.sub _ hmine, fun _ => hmine⟩
    · exact ⟨hG.up c (hv.m k c k2).1, fun hr => hG.upm c ((hv.m k c k2).2 hr)⟩
  exact
    { below := ⟨hr.below.os.trans hm.below.os, hr.below.tape.trans hm.below.tape, hr.below.output.trans hm.below.output, Nat.le_trans hm.below.size hsz, fun k hk hM => (heap k (hv.up k (hv.nM k hM))).trans (hm.below.block k hk hM)⟩
      base := Nat.le_trans hm.base hsz
      cell := hr.cell
      mfr := fun k c hk => by
        rcases hmm k c hk with ⟨_, rfl⟩ | ⟨_, k2⟩
        · exact ⟨.inr (.inl (Nat.le_trans hm.base hb)), hbw⟩
        · exact ⟨(hm.mfr k c k2).1, Nat.lt_of_lt_of_le (hm.mfr k c k2).2 hsz⟩
      ofr := fun k c k1 k2 => ⟨(hm.ofr k c k1 k2).1, Nat.lt_of_lt_of_le (hm.ofr k c k1 k2).2 hsz⟩
      minj := fun k k' c k1 k2 => by
        rcases hmm k c k1 with ⟨p1, p2⟩ | ⟨_, p2⟩ <;> rcases hmm k' c k2 with ⟨q1, q2⟩ | ⟨_, q2⟩
        · rw [p1, q1]
        · have := (hm.mfr k' _ q2).2; omega
        · have := (hm.mfr k _ p2).2; omega
        · exact hm.minj k k' c p2 q2
      oinj := hm.oinj
      disj := fun k k' c k1 k2 k3 => by
        rcases hmm k c k1 with ⟨p1, p2⟩ | ⟨_, p2⟩
        · have := (hm.ofr k' _ k2 k3).2; omega
        · exact hm.disj k k' c p2 k2 k3
      blk := fun k ds hk => by
        rcases List.mem_cons.1 hk with hk | hk
        · cases hk
          exact ⟨b, arr, by simp [gc], by simp only [gc, if_true]; exact hh, reps_dt (g := g') (g' := gc) rfl hd hc, hI⟩
        · obtain ⟨c, arr', p1, p2, p3, p4⟩ := hm.blk k ds hk
          have hne := hold k c p1
          have hcl := (hm.mfr k c p1).2
          exact ⟨c, arr', by simp only [gc, hne, if_false]; exact p1, by simp only [gc, hne, if_false]; exact (heap c (hv.m k c p1).1).trans p2, reps_goes goes p3, fun o ho => p4 o (hI2 c o hcl ho)⟩
      key := fun k c hk => by
        rcases hmm k c hk with ⟨rfl, _⟩ | ⟨_, k2⟩
        · exact ⟨cs, List.mem_cons_self ..⟩
        · obtain ⟨ds, hd'⟩ := hm.key k c k2
          exact ⟨ds, List.mem_cons_of_mem _ hd'⟩
      own := hm.own
      inew := fun c o hc => by
        rcases hr.new c o hc with h1 | h1
        · exact hm.inew c o h1
        · exact .inr (.inl (Nat.le_trans hm.base h1))
      iold := fun c o hc => hr.old c o (hm.iold c o hc)
      pin := fun k c U hp => by
        obtain ⟨p1, p2⟩ := hm.pin k c U hp
        have hne := hold k c p1
        simp only [gc, hne, if_false]
        exact ⟨p1, p2⟩ }
section
variable {E : En} {ops : Array Oper} {rest : List Oper} {Q : Exit → St → Prop} {tm : List (Nat × AV)} {bl : List (Nat × List AV)} {ow : List Nat} {d : Nat} {ty : TypeId} {pos : String} {af : Array Edge}
theorem wlmake {x : Operand} {xs : Array Operand} {ts : Array TypeId} {f : Nat} {ys : List AV} {R : List AV → Prop} (N : Nat) [hf : FnOk E.P f] (h : CallMake E.P f ys R) (hx : ev tm x = .v (.func (.func f) #[] #[])) (ha : LeDs (xs.toList.map (ev tm)) ys)
    (hfr : (bl.all fun q => !Nat.beq N q.1) = true) (hd : Nat.blt d E.nt = true) (hk : ∀ cs, R cs → WL E ops rest Q ⟨(d, .ptr N 0) :: tm, (N, cs) :: bl, ow⟩) :
    WL E ops (⟨some d, .call ⟨.value x, xs, ts⟩, ty, pos, af, none⟩ :: rest) Q ⟨tm, bl, ow⟩ := by
  refine WL_call hx fun L g a w hi h2 => ?_
  refine (h L g.I w (xs.map a.eval) hi.seesI hi.rigged (dreps_leDs (g := g) ha h2)).mono fun y w' he => ?_
  obtain ⟨b, T, arr, cs, g', rfl, k1, k2, k3, km, k4, k5, k6, k7⟩ := he
  have hfr' : ∀ q ∈ bl, N ≠ q.1 := fun q hq e => by
    have := List.all_eq_true.1 hfr q hq
    rw [e] at this; simp at this
  obtain ⟨gc, p1, p2, p3⟩ := hi.mem.made k7 hfr' k3 km k4 k5 k2 k6
  have hput := look_put (E := E) (g := gc) (w := w'.w) (a := a) (s := ⟨tm, (N, cs) :: bl, ow⟩) (d := some d) (v := .ptr N 0) (y := .pointer (some ⟨b, 0, none⟩)) [] [] (fun k hk => by cases hk; exact Nat.le_of_ble_eq_true hd) hi.sz (fun t => rep_goes p1 (hi.tm t)) (by simp only [rep]; exact ⟨b, p3, rfl⟩)
  exact hk cs k1 L gc _ w' ⟨p2, hput, hi.de, by simp [Act.put, hi.sz]⟩
end
theorem ptrEnd {E : En} {rs : List ResultVar} {R : AV → List AV → Prop} {s s' : St} {xs cs' : List AV} (hw : Weak E s s') (h1 : resA E.P s' rs xs) (h2 : lookB s'.bl 1000000 = some cs') (h4 : refs [] s'.ow (oneA xs) = true) (h5 : dtL cs' = true) (h3 : R (oneA xs) cs') :
    ∃ s', Weak E s s' ∧ ∃ xs cs', resA E.P s' rs xs ∧ (1000000, cs') ∈ s'.bl ∧ R (oneA xs) cs' ∧ refs [] s'.ow (oneA xs) = true ∧ dtL cs' = true := ⟨s', hw, xs, cs', h1, lookB_mem h2, h3, h4, h5⟩
theorem makeEnd {P : Program} {rs : List ResultVar} {R : List AV → Prop} {s : St} {n : Nat} {cs : List AV} (h1 : resA P s rs [.ptr n 0]) (h2 : lookB s.bl n = some cs) (h4 : dtL cs = true) (h3 : R cs) : ∃ n cs, resA P s rs [.ptr n 0] ∧ (n, cs) ∈ s.bl ∧ R cs ∧ dtL cs = true := ⟨n, cs, h1, lookB_mem h2, h3, h4⟩
def bitsV (op : BinOp) (k : IntKind) (a b : Int) : Option Int :=
  match op with
  | .and => some (k.wrap ((BitVec.ofInt k.bits a &&& BitVec.ofInt k.bits b).toNat))
  | .xor => some (k.wrap ((BitVec.ofInt k.bits a ^^^ BitVec.ofInt k.bits b).toNat))
  | .or => some (k.wrap ((BitVec.ofInt k.bits a ||| BitVec.ofInt k.bits b).toNat))
  | _ => none
section
variable {E : En} {bl : List (Nat × List AV)} {tm : List (Nat × AV)} {d : Option Tmp} {ty : TypeId} {pos : String} {af : Array Edge} {gd : Option (Nat × Bool)}
theorem QV_bits {op : BinOp} {xT yT : TypeId} {x y : Operand} {k : IntKind} {a b r : Int} (hx : ev tm x = .v (.int k a)) (hy : ev tm y = .v (.int k b)) (h : bitsV op k a b = some r) :
    QV E bl tm ⟨d, .binOp op xT x y yT, ty, pos, af, gd⟩ (.v (.int k r)) [] [] :=
  QV_pure fun g w ρ hop => by
    have h1 := hop x (by simp [Op.operands])
    have h2 := hop y (by simp [Op.operands])
    rw [hx] at h1; rw [hy] at h2
    simp only [rep] at h1 h2
    have hr : (execOp ρ ⟨d, .binOp op xT x y yT, ty, pos, af, gd⟩).run E.P w = .ok (.value (.int k r)) w := by
      simp only [execOp, h1, h2]
      cases op <;> simp only [bitsV, Option.some.injEq, reduceCtorEq] at h <;> subst h <;>
        simp [eqGuard, binOp, Op.intBits]
    refine ⟨.int k r, hr, evR_of ?_, by simp [rep]⟩
    simp only [execOp, h1, h2]
    cases op <;> simp only [bitsV, Option.some.injEq, reduceCtorEq] at h <;> subst h <;>
      simp [eqGuard, binOp, Op.intBits]
theorem QV_shr {xT yT : TypeId} {x y : Operand} {k k' : IntKind} {a n : Int} (hx : ev tm x = .v (.int k a)) (hy : ev tm y = .v (.int k' n)) (hn : ¬ n < 0) {r : Int} (h : a.fdiv (2 ^ min n.toNat k.bits) = r) :
    QV E bl tm ⟨d, .binOp .shr xT x y yT, ty, pos, af, gd⟩ (.v (.int k r)) [] [] :=
  QV_pure fun g w ρ hop => by
    have h1 := hop x (by simp [Op.operands])
    have h2 := hop y (by simp [Op.operands])
    rw [hx] at h1; rw [hy] at h2
    simp only [rep] at h1 h2
    refine ⟨.int k r, ?_, evR_of ?_, by simp [rep]⟩
    · simp only [execOp, h1, h2]
      simp [eqGuard, binOp, Op.shift, hn, h]
    · simp only [execOp, h1, h2]
      simp [eqGuard, binOp, Op.shift, hn]
theorem q_convE {s t : TypeId} {x : Operand} {k k' : IntKind} {a r : Int} {u : TypeDesc} (hs : E.P.underlying s = some u) (ht : E.P.underlying t = some (.int k')) (hx : ev tm x = .v (.int k a)) (h : k'.wrap a = r) : QV E bl tm ⟨d, .convert s t x, ty, pos, af, gd⟩ (.v (.int k' r)) [] [] := by
  subst h
  exact QV_conv (by rw [hs]; rfl) ht hx
theorem q_negE {t : TypeId} {x : Operand} {k : IntKind} {a r : Int} (hx : ev tm x = .v (.int k a)) (h : k.wrap (0 - a) = r) : QV E bl tm ⟨d, .unOp .neg t x, ty, pos, af, gd⟩ (.v (.int k r)) [] [] := by
  subst h
  exact QV_neg hx
theorem bits255 {op : BinOp} {a : Int} (h : op = .and) : ∃ r : Int, bitsV op .i64 a 255 = some r ∧ 0 ≤ r ∧ r ≤ 255 := by
  subst h
  refine ⟨_, rfl, ?_⟩
  have h : (BitVec.ofInt 64 a &&& BitVec.ofInt 64 255).toNat ≤ 255 := by
    rw [BitVec.toNat_and]
    exact Nat.and_le_right
  have e : IntKind.i64.wrap ((BitVec.ofInt IntKind.i64.bits a &&& BitVec.ofInt IntKind.i64.bits 255).toNat : Int) = IntKind.i64.wrap ((BitVec.ofInt 64 a &&& BitVec.ofInt 64 255).toNat : Int) := rfl
  rw [e, IntWalk.i64_in _ (by omega)]
  omega
theorem bitsAny (op : BinOp) (a b : Int) (h : op = .and ∨ op = .xor) : ∃ r : Int, bitsV op .i64 a b = some r := by
  rcases h with rfl | rfl <;> exact ⟨_, rfl⟩
end
end Go.Eng

namespace Go.Eng
open Go Go.Conc

def EV (E : En) (N : Nat) (tm : List (Nat × AV)) (o : Oper) (v : AV) (cs cs' : List AV) : Prop :=
  ∀ (L : Lg E.P) (g : Gh) (ρ : Operand → Value) (bl' : List (Nat × List AV)) (ow' : List Nat) (w : CW), MemV E g ((N, cs) :: bl') ow' w → (∀ q ∈ bl', q.1 ≠ N) → (∀ x ∈ o.op.operands, rep g w.w (ev tm x) (ρ x)) →
    OpV L o ρ w (fun y w' => ∃ g', Goes g w.w g' w'.w ∧ MemV E g' ((N, cs') :: bl') ow' w' ∧ rep g' w'.w v y)
def csF (L : Nat → Bool) : List (Option (List AV)) → Nat → List AV → List AV
  | [], _, c => c
  | e :: es, i, c => csF L es (i + 1) (bif L i then e.getD c else c)
theorem csF_congr {L L' : Nat → Bool} : ∀ (es : List (Option (List AV))) (i : Nat) (c : List AV), (∀ j x, es[j]? = some (some x) → L (i + j) = L' (i + j)) → csF L es i c = csF L' es i c
  | [], _, _, _ => rfl
  | e :: es, i, c, h => by
    simp only [csF]
    have e1 : (bif L i then e.getD c else c) = (bif L' i then e.getD c else c) := by
      cases e with
      | none => cases L i <;> cases L' i <;> rfl
      | some x => have := h 0 x rfl; rw [Nat.add_zero] at this; rw [this]
    rw [e1]
    exact csF_congr es (i + 1) _ fun j x hj => by have := h (j + 1) x (by simpa using hj); rwa [show i + (j + 1) = i + 1 + j by omega] at this
theorem csF_last {L : Nat → Bool} {x : List AV} : ∀ (es : List (Option (List AV))) (i k : Nat) (c : List AV), es[k]? = some (some x) → L (i + k) = true → (∀ j y, k < j → es[j]? = some (some y) → L (i + j) = false) → csF L es i c = x
  | [], _, _, _, h, _, _ => by simp at h
  | e :: es, i, 0, c, h, hL, hn => by
    simp only [List.getElem?_cons_zero, Option.some.injEq] at h
    subst h
    rw [Nat.add_zero] at hL
    simp only [csF, hL, cond_true, Option.getD_some]
    have zero : ∀ (es : List (Option (List AV))) (i : Nat) (c : List AV), csF (fun _ => false) es i c = c := by
      intro es
      induction es with
      | nil => intro i c; rfl
      | cons e es ih => intro i c; simp only [csF, cond_false]; exact ih _ c
    rw [csF_congr (L' := fun _ => false) es (i + 1) x fun j y hj => by have := hn (j + 1) y (by omega) (by simpa using hj); rwa [show i + (j + 1) = i + 1 + j by omega] at this]
    exact zero _ _ _
  | e :: es, i, k + 1, c, h, hL, hn => by
    simp only [csF]
    exact csF_last es (i + 1) k _ (by simpa using h) (by rwa [show i + (k + 1) = i + 1 + k by omega] at hL) fun j y hkj hj => by have := hn (j + 1) y (by omega) (by simpa using hj); rwa [show i + (j + 1) = i + 1 + j by omega] at this
def inLs : List Nat → Nat → Bool
  | [], _ => false
  | k :: r, i => bif Nat.beq k i then true else inLs r i
theorem inLs_mem : ∀ {l : List Nat} {i : Nat}, inLs l i = true → i ∈ l
  | [], _, h => by simp [inLs] at h
  | k :: r, i, h => by
    simp only [inLs] at h
    cases hb : Nat.beq k i
    · rw [hb] at h; exact List.mem_cons_of_mem _ (inLs_mem h)
    · rw [Nat.eq_of_beq_eq_true hb]; exact List.mem_cons_self
def HC (E : En) (ops : Array Oper) (bl : List (Nat × List AV)) (N : Nat) (es : List Nat) : Nat → List Oper → St → List AV → (St → List AV → Prop) → Prop
  | _, [], s, c, K => K s c
  | k, o :: rest, s, c, K =>
    (∃ v nb no, QV E bl s.tm o v nb no ∧ dstB E.nt o = true ∧ (freshB nb no s = true ∧ namesB nb o = true) ∧
      (o.guard = none ∨ ∃ j d b, o.guard = some (j, b) ∧ (ops[j]?).bind (·.dst) = some d ∧ look s.tm d = .v (.bool b)) ∧ HC E ops bl N es (k + 1) rest (s.app o.dst v nb no) c K) ∨
    (∃ j d b, o.guard = some (j, !b) ∧ (ops[j]?).bind (·.dst) = some d ∧ look s.tm d = .v (.bool b) ∧ dstB E.nt o = true ∧ HC E ops bl N es (k + 1) rest (s.app o.dst (.v undef) [] []) c K) ∨
    (∃ v c', EV E N s.tm o v c c' ∧ dstB E.nt o = true ∧ o.guard = none ∧ inLs es k = true ∧ HC E ops bl N es (k + 1) rest (s.app o.dst v [] []) c' K) ∨
    (∃ n cs, QI E s.tm o n cs ∧ initB n cs.length s.bl = true ∧ n ≠ N ∧ HC E ops bl N es (k + 1) rest (s.app none (.v undef) [(n, cs)] []) c K)
def NewC (N : Nat) (o : Oper) (t : Tr) (s : St) : Prop := (freshB t.nb t.no s = true ∧ ∀ p ∈ t.nb, o.dst = some p.1) ∨ ∃ n cs, t.nb = [(n, cs)] ∧ t.no = [] ∧ (cs.all (fun x => !isTop x) = true ∧ cs ≠ []) ∧ Operand.tmp n ∈ o.op.operands ∧ initB n cs.length s.bl = true ∧ n ≠ N
structure StepC (E : En) (ops : Array Oper) (bl : List (Nat × List AV)) (N : Nat) (es : List Nat) (k : Nat) (s : St) (c : List AV) (o : Oper) (t : Tr) (e : Option (List AV)) : Prop where
  d : t.d = o.dst
  dst : dstB E.nt o = true
  fr : NewC N o t s
  run : (e = none ∧ QV E bl s.tm o t.v t.nb t.no ∧ (freshB t.nb t.no s = true ∧ ∀ p ∈ t.nb, o.dst = some p.1) ∧ (o.guard = none ∨ ∃ j d b, o.guard = some (j, b) ∧ (ops[j]?).bind (·.dst) = some d ∧ look s.tm d = .v (.bool b))) ∨
    (e = none ∧ t.v = .v undef ∧ t.nb = [] ∧ t.no = [] ∧ ∃ j d b, o.guard = some (j, !b) ∧ (ops[j]?).bind (·.dst) = some d ∧ look s.tm d = .v (.bool b)) ∨
    (∃ c', e = some c' ∧ EV E N s.tm o t.v c c' ∧ o.guard = none ∧ inLs es k = true ∧ t.nb = [] ∧ t.no = []) ∨
    (e = none ∧ ∃ n cs, QI E s.tm o n cs ∧ t.v = .v undef ∧ t.nb = [(n, cs)] ∧ t.no = [])
theorem HC_trace {E : En} {ops : Array Oper} {bl : List (Nat × List AV)} {N : Nat} {es : List Nat} {K : St → List AV → Prop} : ∀ (l : List Oper) (k : Nat) (s : St) (c : List AV), HC E ops bl N es k l s c K →
    ∃ (T : List Tr) (Es : List (Option (List AV))), T.length = l.length ∧ Es.length = l.length ∧ K (stS (fun _ => true) T 0 s) (csF (fun _ => true) Es 0 c) ∧
      (∀ i o t e, l[i]? = some o → T[i]? = some t → Es[i]? = some e → StepC E ops bl N es (k + i) (stS (fun j => decide (j < i)) T 0 s) (csF (fun j => decide (j < i)) Es 0 c) o t e)
  | [], k, s, c, h => ⟨[], [], rfl, rfl, h, fun i o t e hi => by simp at hi⟩
  | o :: rest, k, s, c, h => by
    have shift : ∀ (L : Nat → Bool) (T : List Tr) (i : Nat) (s : St), stS L T (i + 1) s = stS (fun j => L (j + 1)) T i s := by
      intro L T
      induction T with
      | nil => intro i s; rfl
      | cons t T ih => intro i s; simp only [stS]; exact ih (i + 1) _
    have shiftC : ∀ (L : Nat → Bool) (T : List (Option (List AV))) (i : Nat) (s : List AV), csF L T (i + 1) s = csF (fun j => L (j + 1)) T i s := by
      intro L T
      induction T with
      | nil => intro i s; rfl
      | cons t T ih => intro i s; simp only [csF]; exact ih (i + 1) _
    have zero : ∀ (T : List Tr) (i : Nat) (s : St), stS (fun _ => false) T i s = s := by
      intro T
      induction T with
      | nil => intro i s; rfl
      | cons t T ih => intro i s; simp only [stS, cond_false]; exact ih _ s
    have zeroC : ∀ (es : List (Option (List AV))) (i : Nat) (c : List AV), csF (fun _ => false) es i c = c := by
      intro es
      induction es with
      | nil => intro i c; rfl
      | cons e es ih => intro i c; simp only [csF, cond_false]; exact ih _ c
    have go : ∀ (t : Tr) (e : Option (List AV)), StepC E ops bl N es k s c o t e → HC E ops bl N es (k + 1) rest (s.app t.d t.v t.nb t.no) (e.getD c) K →
        ∃ (T : List Tr) (Es : List (Option (List AV))), T.length = (o :: rest).length ∧ Es.length = (o :: rest).length ∧ K (stS (fun _ => true) T 0 s) (csF (fun _ => true) Es 0 c) ∧
      (∀ i o' t e, (o :: rest)[i]? = some o' → T[i]? = some t → Es[i]? = some e → StepC E ops bl N es (k + i) (stS (fun j => decide (j < i)) T 0 s) (csF (fun j => decide (j < i)) Es 0 c) o' t e) := by
      intro t e hs hk
      obtain ⟨T, Es, h1, h1', h2, h3⟩ := HC_trace rest _ _ _ hk
      refine ⟨t :: T, e :: Es, by simp [h1], by simp [h1'], ?_, fun i o' t' e' hi ht he => ?_⟩
      · simp only [stS, csF, cond_true]; rw [shift, shiftC]; exact h2
      · cases i with
        | zero =>
          simp only [List.getElem?_cons_zero, Option.some.injEq] at hi ht he
          subst hi; subst ht; subst he
          have e1 : stS (fun j => decide (j < 0)) (t :: T) 0 s = s := by
            simp only [stS, Nat.not_lt_zero, decide_false, cond_false]; exact zero _ _ _
          have e2 : csF (fun j => decide (j < 0)) (e :: Es) 0 c = c := by
            simp only [csF, Nat.not_lt_zero, decide_false, cond_false]; exact zeroC _ _ _
          rw [e1, e2]; exact hs
        | succ i =>
          have := h3 i o' t' e' (by simpa using hi) (by simpa using ht) (by simpa using he)
          simp only [stS, csF, Nat.zero_lt_succ, decide_true, cond_true]
          rw [shift, shiftC, show k + (i + 1) = k + 1 + i by omega]
          simpa [Nat.add_lt_add_iff_right] using this
    rcases h with ⟨v, nb, no, h1, h2, h3, h4, h5⟩ | ⟨j, d, b, h1, h2, h3, h4, h5⟩ | ⟨v, c', h1, h2, h3, h4, h5⟩ | ⟨n, cs, h1, h2, hne, h3⟩
    · exact go ⟨o.dst, v, nb, no⟩ none ⟨rfl, h2, .inl ⟨h3.1, namesB_spec h3.2⟩, .inl ⟨rfl, h1, ⟨h3.1, namesB_spec h3.2⟩, h4⟩⟩ h5
    · exact go ⟨o.dst, .v undef, [], []⟩ none ⟨rfl, h4, .inl ⟨by simp [freshB], by simp⟩, .inr (.inl ⟨rfl, rfl, rfl, rfl, j, d, b, h1, h2, h3⟩)⟩ h5
    · exact go ⟨o.dst, v, [], []⟩ (some c') ⟨rfl, h2, .inl ⟨by simp [freshB], by simp⟩, .inr (.inr (.inl ⟨c', rfl, h1, h3, h4, rfl, rfl⟩))⟩ h5
    · exact go ⟨none, .v undef, [(n, cs)], []⟩ none ⟨h1.1.symm, by simp [dstB, h1.1], .inr ⟨n, cs, rfl, rfl, h1.2.2.2.1, h1.2.2.1, h2, hne⟩, .inr (.inr (.inr ⟨rfl, n, cs, h1, rfl, rfl, rfl⟩))⟩ h3
def effB (ops : Array Oper) (n : Nat) (es : List Nat) : Bool := es.all fun i => es.all fun j => bif Nat.blt j i then ((depTab ops n).getD i []).contains j else true

theorem W_drawC {E : En} {id : Nat} {l : List Oper} {Q : Exit → St → Prop} {s : St} {c : List AV} (n N : Nat) (es : List Nat) (hm : E.P.follows .mixedOrders = true) (hB : headB l.toArray n = true) (hT : tailB l.toArray n = true) (hE : effB l.toArray n es = true) (hN : l.all (fun o => match o.dst with | some d => !Nat.beq d N | none => true) = true) (hbN : s.bl.all (fun q => !Nat.beq q.1 N) = true)
    (h : HC E l.toArray s.bl N es 0 (l.take n) s c (fun s' c' => WL E l.toArray (l.drop n) Q ⟨s'.tm, (N, c') :: s'.bl, s'.ow⟩)) : W E (.region id l.toArray true) Q ⟨s.tm, (N, c) :: s.bl, s.ow⟩ := by
  intro L g0 a0 w00 hi0
  obtain ⟨T, Es, hTl, hEl, hK, hstep⟩ := HC_trace _ _ _ _ h
  obtain ⟨hn, hback, hord⟩ := headB_spec hB
  have hn' : n ≤ l.length := by simpa using hn
  have hTn : T.length = n := by rw [hTl]; simp; omega
  have hEn : Es.length = n := by rw [hEl]; simp; omega
  have hdN : ∀ (i : Nat) (o : Oper), l.toArray[i]? = some o → o.dst ≠ some N := fun i o ho e => by
    have := List.all_eq_true.1 hN o (List.mem_of_getElem? (by simpa using ho))
    rw [e] at this
    simp at this
  simp only [tailB, Bool.and_eq_true] at hT
  obtain ⟨hT1, hT2⟩ := hT
  have hopt : ∀ i, i < n → ∃ o t, l.toArray[i]? = some o ∧ (l.take n)[i]? = some o ∧ T[i]? = some t := fun i hi => by
    have h1 : i < l.length := by omega
    refine ⟨l[i], T[i]'(by omega), by simp [h1], by simp [hi, h1], by simp [hTn, hi]⟩
  have hopE : ∀ i, i < n → ∃ e, Es[i]? = some e := fun i hi => ⟨Es[i]'(by omega), by simp [hEn, hi]⟩
  have inS : ∀ (i : Nat) (t : Tr), T[i]? = some t → ∀ (j : Nat) (t' : Tr), j < i → T[j]? = some t' → ∀ q ∈ t'.nb, q ∈ (stS (fun j => decide (j < i)) T 0 s).bl := fun i t _ j t' hj ht' q hq => (mem_bl_stS T 0 s).2 (.inr ⟨j, t', ht', by simpa using hj, hq⟩)
  have inS0 : ∀ (i : Nat) q, q ∈ s.bl → q ∈ (stS (fun j => decide (j < i)) T 0 s).bl := fun i q hq => (mem_bl_stS T 0 s).2 (.inl hq)
  have inO : ∀ (i : Nat) (t : Tr), T[i]? = some t → ∀ (j : Nat) (t' : Tr), j < i → T[j]? = some t' → ∀ k ∈ t'.no, k ∈ (stS (fun j => decide (j < i)) T 0 s).ow := fun i t _ j t' hj ht' k hk => (mem_ow_stS T 0 s).2 (.inr ⟨j, t', ht', by simpa using hj, hk⟩)
  let Lf : Array Bool → Nat → Bool := fun listed i => listed.getD i false
  have tailNot : ∀ listed, HeadInv .any l.toArray n listed → 0 < cnt n (Lf listed) → ∀ i ∈ Region.ready .any l.toArray listed, i < n := by
    intro listed inv hc i hi
    rcases Nat.lt_or_ge i n with h1 | h1
    · exact h1
    · exfalso
      have hlt : i < l.toArray.size := by
        obtain ⟨_, o, ho, _⟩ := mem_ready.1 hi
        exact (Array.getElem?_eq_some_iff.1 ho).1
      have hns : n < l.toArray.size := by omega
      have hb : Nat.blt n l.toArray.size = true := Nat.ble_eq_true_of_le hns
      rw [hb] at hT1
      simp only [cond_true, Bool.and_eq_true] at hT1
      obtain ⟨k, hk1, hk2, _⟩ := cnt_pos hc
      have hk3 : listed.getD k true = false := getD_in (by rw [inv.size]; omega) hk2
      exact tail_waits hT1.1 hT1.2 hns inv _ k rfl hk1 hk3 i h1 hi
  have progress : ∀ listed, HeadInv .any l.toArray n listed → 0 < cnt n (Lf listed) → Region.ready .any l.toArray listed ≠ [] := by
    intro listed inv hc he
    obtain ⟨k, hk1, hk2, hk3⟩ := cnt_pos hc
    have : k ∈ Region.ready .any l.toArray listed := by
      obtain ⟨o, t, h1, _, _⟩ := hopt k hk1
      exact mem_ready.2 ⟨getD_in (by rw [inv.size]; omega) hk2, o, h1, fun e he hb => hk3 _ (hback k o hk1 h1 e he hb)⟩
    rw [he] at this
    cases this
  have main : ∀ (f : Nat) (listed : Array Bool) (g : Gh) (a : Act) (w : CW), cnt n (Lf listed) = f → HeadInv .any l.toArray n listed → Inv E g ⟨(stS (Lf listed) T 0 s).tm, (N, csF (Lf listed) Es 0 c) :: (stS (Lf listed) T 0 s).bl, (stS (Lf listed) T 0 s).ow⟩ a w → wpAnyV L .any l.toArray (post E Q) (f + (l.toArray.size - n)) listed a w := by
    intro f
    induction f with
    | zero =>
      intro listed g a w hc inv hinv
      have hall := cnt_zero hc
      have hst : stS (Lf listed) T 0 s = stS (fun _ => true) T 0 s := by
        have : ∀ (T : List Tr) (i : Nat) (s : St), (∀ j, j < T.length → Lf listed (i + j) = true) → stS (Lf listed) T i s = stS (fun _ => true) T i s := by
          intro T
          induction T with
          | nil => intro i s _; rfl
          | cons t T ih =>
            intro i s hL
            simp only [stS]
            rw [show Lf listed i = true by simpa using hL 0 (by simp)]
            exact ih (i + 1) _ fun j hj => by have := hL (j + 1) (by simp; omega); rwa [show i + (j + 1) = i + 1 + j by omega] at this
        exact this T 0 s fun j hj => by rw [Nat.zero_add]; exact hall j (by omega)
      have hcs : csF (Lf listed) Es 0 c = csF (fun _ => true) Es 0 c := csF_congr Es 0 c fun j x hj => by
        rw [Nat.zero_add]
        exact hall j (by rw [← hEn]; exact (List.getElem?_eq_some_iff.1 hj).1)
      rw [hst, hcs] at hinv
      have hli : listed = ((List.range l.toArray.size).map fun i => Nat.blt i n).toArray := by
        apply Array.ext
        · simp [inv.size]
        · intro i h1 h2
          have h3 : i < l.toArray.size := by rw [← inv.size]; exact h1
          simp only [List.getElem_toArray, List.getElem_map, List.getElem_range]
          rcases Nat.lt_or_ge i n with h4 | h4
          · have h5 := hall i h4
            simp only [Lf, Array.getD_eq_getD_getElem?, Array.getElem?_eq_getElem h1, Option.getD_some] at h5
            rw [h5]
            exact (Nat.ble_eq_true_of_le h4).symm
          · have h5 := inv.tail i h4 h3
            simp only [Array.getD_eq_getD_getElem?, Array.getElem?_eq_getElem h1, Option.getD_some] at h5
            rw [h5]
            cases h6 : Nat.blt i n
            · rfl
            · have := Nat.le_of_ble_eq_true h6; omega
      have hdl : (l.drop n).length = l.toArray.size - n := by simp
      have := wpAnyV_of_seq (L := L) (md := .any) (Q' := post E Q) (l.drop n) n listed a w (fun j => by simp [List.getElem?_drop]) (by rw [hdl, hli]; exact hT2) (hK L g a w hinv)
      rw [hdl] at this
      rw [Nat.zero_add]; exact this
    | succ f ih =>
      intro listed g a w hc inv hinv
      rw [show f + 1 + (l.toArray.size - n) = (f + (l.toArray.size - n)) + 1 by omega]
      have hpos : 0 < cnt n (Lf listed) := by omega
      refine ⟨fun he => absurd he (progress listed inv hpos), fun i hi => ?_⟩
      have hin := tailNot listed inv hpos i hi
      obtain ⟨o, t, ho, ho', ht⟩ := hopt i hin
      obtain ⟨hun, o2, ho2, hdeps⟩ := mem_ready.1 hi
      have : o2 = o := Option.some.inj (ho2.symm.trans ho)
      subst this
      have hLi : Lf listed i = false := getD_both hun
      obtain ⟨e0, he0⟩ := hopE i hin
      obtain ⟨hd, hdst, hfr, hrun⟩ := hstep i o2 t e0 ho' ht he0
      rw [Nat.zero_add] at hrun
      have closed : ∀ k ok, l.toArray[k]? = some ok → Lf listed k = true → ∀ e ∈ ok.after, Region.binds .any e = true → Lf listed e.on = true := fun k ok hk hl e he hb => inv.closed k ok hk hl e he hb
      have depI : ∀ j ∈ (depTab l.toArray n).getD i [], Lf listed j = true := depTab_closed closed n i fun o' ho' e he hb => by
        have : o' = o2 := Option.some.inj (ho'.symm.trans ho)
        subst this
        exact hdeps e he hb
      have depJ : ∀ j, i ∈ (depTab l.toArray n).getD j [] → Lf listed j = false := fun j hj => by
        cases hLj : Lf listed j
        · rfl
        · have := depTab_closed closed n j (fun o' ho' => closed j o' ho' hLj) i hj
          rw [hLi] at this; cases this
      have hTd : ∀ j tr, T[j]? = some tr → j < n ∧ ∃ oj, l.toArray[j]? = some oj ∧ tr.d = oj.dst := fun j tr hj => by
        have hjn : j < n := by rw [← hTn]; exact (List.getElem?_eq_some_iff.1 hj).1
        obtain ⟨oj, t', h1, h2, h3⟩ := hopt j hjn
        obtain ⟨ej, hej⟩ := hopE j hjn
        exact ⟨hjn, oj, h1, (hstep j oj tr ej h2 hj hej).d⟩
      have sameLook : ∀ u, u ∈ o2.looksAt l.toArray → look (stS (Lf listed) T 0 s).tm u = look (stS (fun j => decide (j < i)) T 0 s).tm u := fun u hu =>
        look_stS T 0 s s rfl fun j tr hj hdu => by
          rw [Nat.zero_add]
          obtain ⟨hjn, oj, hoj, hjd⟩ := hTd j tr hj
          rcases Nat.lt_trichotomy j i with h1 | h1 | h1
          · rw [decide_eq_true h1]
            exact depI j ((hord i o2 j oj u hin hjn (by omega) ho hoj (hjd ▸ hdu) (.inl hu)).1 h1)
          · subst h1; rw [hLi]; simp
          · rw [decide_eq_false (by omega)]
            exact depJ j ((hord i o2 j oj u hin hjn (by omega) ho hoj (hjd ▸ hdu) (.inl hu)).2 h1)
      have hLset : ∀ j, Lf (listed.setIfInBounds i true) j = (decide (j = i) || Lf listed j) := fun j => by
        by_cases e : j = i
        · subst e
          have hlt : j < listed.size := by rw [inv.size]; exact (Array.getElem?_eq_some_iff.1 ho).1
          simp [Lf, hlt]
        · simp only [e, decide_false, Bool.false_or, Lf]
          exact getD_set_ne false (Ne.symm e)
      have hcnt : cnt n (Lf (listed.setIfInBounds i true)) = f := by
        have := cnt_set (L := Lf listed) (L' := Lf (listed.setIfInBounds i true)) (i := i) hLi (by rw [hLset]; simp) (fun j hj => by rw [hLset]; simp [hj]) n
        rw [if_pos hin] at this
        omega
      -- what holds behind the step
      have next : ∀ (g' : Gh) (a' : Act) (w' : CW) (c' : List AV), csF (Lf (listed.setIfInBounds i true)) Es 0 c = c' → Inv E g' ⟨((stS (Lf listed) T 0 s).app t.d t.v t.nb t.no).tm, (N, c') :: ((stS (Lf listed) T 0 s).app t.d t.v t.nb t.no).bl, ((stS (Lf listed) T 0 s).app t.d t.v t.nb t.no).ow⟩ a' w' → wpAnyV L .any l.toArray (post E Q) (f + (l.toArray.size - n)) (listed.setIfInBounds i true) a' w' := by
        intro g' a' w' c' hc' hinv'
        subst hc'
        refine ih _ g' a' w' hcnt (inv.set hi hin) ⟨⟨hinv'.mem.mem.same (fun p => ?_) (fun k hk => ?_), hinv'.mem.vis⟩, fun u => ?_, hinv'.de, hinv'.sz⟩
        · simp only [List.mem_cons]
          refine or_congr Iff.rfl ?_
          simp only [St.app, List.mem_append, mem_bl_stS, hLset, Nat.zero_add]
          constructor
          · rintro (hp | hp | ⟨j, tr, h1, h2, h3⟩)
            · exact .inr ⟨i, t, ht, by simp, hp⟩
            · exact .inl hp
            · exact .inr ⟨j, tr, h1, by simp [h2], h3⟩
          · rintro (hp | ⟨j, tr, h1, h2, h3⟩)
            · exact .inr (.inl hp)
            · by_cases e : j = i
              · subst e
                rw [ht] at h1; cases h1; exact .inl h3
              · exact .inr (.inr ⟨j, tr, h1, by simpa [e] using h2, h3⟩)
        · simp only [St.app, List.mem_append, mem_ow_stS, hLset, Nat.zero_add] at hk ⊢
          rcases hk with hp | hp | ⟨j, tr, h1, h2, h3⟩
          · exact .inr ⟨i, t, ht, by simp, hp⟩
          · exact .inl hp
          · exact .inr ⟨j, tr, h1, by simp [h2], h3⟩
        · have hu := hinv'.tm u
          have heq : look (stS (Lf (listed.setIfInBounds i true)) T 0 s).tm u = look ((stS (Lf listed) T 0 s).app t.d t.v t.nb t.no).tm u := by
            by_cases hdu : t.d = some u
            · have h1 : look ((stS (Lf listed) T 0 s).app t.d t.v t.nb t.no).tm u = t.v := by simp [St.app, hdu, look]
              rw [h1]
              refine look_last T 0 i s t ht hdu rfl (by rw [Nat.zero_add, hLset]; simp) fun j tr hj hij hdj => ?_
              rw [Nat.zero_add, hLset]
              obtain ⟨hjn, oj, hoj, hjd⟩ := hTd j tr hj
              have := depJ j ((hord i o2 j oj u hin hjn (by omega) ho hoj (hjd ▸ hdj) (.inr (hd ▸ hdu))).2 hij)
              rw [this]
              simp; omega
            · have h1 : look ((stS (Lf listed) T 0 s).app t.d t.v t.nb t.no).tm u = look (stS (Lf listed) T 0 s).tm u := by
                simp only [St.app]
                cases hdd : t.d with
                | none => rfl
                | some k =>
                  have : k ≠ u := fun e => hdu (by rw [hdd, e])
                  simp only [look]
                  cases hb : Nat.beq k u
                  · rfl
                  · exact absurd (Nat.eq_of_beq_eq_true hb) this
              rw [h1]
              refine look_stS T 0 s s rfl fun j tr hj hdj => ?_
              rw [Nat.zero_add, hLset]
              have : j ≠ i := fun e => by subst e; rw [ht] at hj; cases hj; exact hdu hdj
              simp [this]
          rw [heq]; exact hu
      have hdst' : ∀ k, t.d = some k → k < E.nt := fun k hk => dstB_spec hdst k (hd ▸ hk)
      unfold wpOpV
      simp only [ho]
      have hguard : ∀ {j d b}, o2.guard = some (j, b) → (l.toArray[j]?).bind (·.dst) = some d → ∀ c, look (stS (fun j => decide (j < i)) T 0 s).tm d = .v (.bool c) → yielded l.toArray a.tmps j = some c := fun {j d b} hg hj c hc' => by
        have h1 := hinv.tm d
        rw [sameLook d (looksAt_guard hg hj), hc'] at h1
        simp only [rep] at h1
        exact yielded_of hj h1
      have csNone : e0 = none → csF (Lf (listed.setIfInBounds i true)) Es 0 c = csF (Lf listed) Es 0 c := fun he => csF_congr Es 0 c fun j x hj => by
        rw [Nat.zero_add, hLset]
        have : j ≠ i := fun e => by subst e; rw [he0, he] at hj; cases hj
        simp [this]
      have hmemN : ∀ q ∈ (stS (Lf listed) T 0 s).bl, q.1 ≠ N := fun q hq e => by
        rcases (mem_bl_stS T 0 s).1 hq with hq | ⟨j, tr, h1, h2, h3⟩
        · have := List.all_eq_true.1 hbN q hq
          rw [e] at this; simp at this
        · obtain ⟨hjn, oj, hoj, hjd⟩ := hTd j tr h1
          obtain ⟨oj', t', k1, k2, k3⟩ := hopt j hjn
          have : oj' = oj := Option.some.inj (k1.symm.trans hoj)
          subst this
          obtain ⟨ej, hej⟩ := hopE j hjn
          rcases (hstep j oj' tr ej k2 h1 hej).fr with ⟨_, hnm'⟩ | ⟨n1, cs1, e1, _, _, _, _, hne1⟩
          · exact hdN j oj' hoj (by rw [hnm' q h3, e])
          · rw [e1] at h3
            simp only [List.mem_singleton] at h3
            rw [h3] at e
            exact hne1 e
      have oth : ∀ j tr, T[j]? = some tr → Lf listed j = true → j ≠ i := fun j tr _ hL e => by subst e; rw [hLi] at hL; cases hL
      have operandsOk : ∀ x ∈ o2.op.operands, rep g w.w (ev (stS (fun j => decide (j < i)) T 0 s).tm x) (a.eval x) := fun x hx => by
        have := rep_ev hinv.tm x
        rwa [ev_same (tm' := (stS (fun j => decide (j < i)) T 0 s).tm) fun u hu => by subst hu; exact sameLook u (looksAt_op hx)] at this
      rcases hrun with ⟨hen, hq, ⟨hf, hnm⟩, hg⟩ | ⟨hen, hv, hnb, hno, j, dd, b, hg, hj, hb⟩ | ⟨c', hen, hev, hgn, hin', hnb, hno⟩ | ⟨hen, n0, cs0, hqi, hv, hnb, hno⟩
      · have hw : Region.wanted o2 (yielded l.toArray a.tmps) = true := by
          rcases hg with hg | ⟨j, dd, b, hg, hj, hb⟩
          · simp [Region.wanted, hg]
          · simp [Region.wanted, hg, hguard hg hj b hb]
        rw [hw]
        rw [if_pos rfl]
        have hfresh : (∀ p ∈ t.nb, ∀ q ∈ (N, csF (Lf listed) Es 0 c) :: (stS (Lf listed) T 0 s).bl, p.1 ≠ q.1) ∧ ∀ k ∈ t.no, k ∉ (stS (Lf listed) T 0 s).ow := by
          obtain ⟨f1, f2⟩ := freshB_spec hf
          · refine ⟨fun p hp q hq' => ?_, fun k hk hk' => ?_⟩
            · rcases List.mem_cons.1 hq' with rfl | hq'
              · exact fun e => hdN i o2 ho (by rw [hnm p hp, e])
              rcases (mem_bl_stS T 0 s).1 hq' with hq' | ⟨j, tr, h1, h2, h3⟩
              · exact f1 p hp q (inS0 i q hq')
              · rw [Nat.zero_add] at h2
                rcases Nat.lt_trichotomy j i with h4 | h4 | h4
                · exact f1 p hp q (inS i t ht j tr h4 h1 q h3)
                · exact absurd h4 (oth j tr h1 h2)
                · obtain ⟨hjn, oj, hoj, hjd⟩ := hTd j tr h1
                  obtain ⟨oj', t', k1, k2, k3⟩ := hopt j hjn
                  have : oj' = oj := Option.some.inj (k1.symm.trans hoj)
                  subst this
                  obtain ⟨ej, hej⟩ := hopE j hjn
                  rcases (hstep j oj' tr ej k2 h1 hej).fr with ⟨hf', _⟩ | ⟨n2, cs2, e3, _, _, hop2, _⟩
                  · exact fun e => (freshB_spec hf').1 q h3 p (inS j tr h1 i t h4 ht p hp) e.symm
                  · intro e
                    rw [e3] at h3
                    simp only [List.mem_singleton] at h3
                    have e5 : o2.dst = some n2 := by rw [hnm p hp, e, h3]
                    have := depJ j ((hord j oj' i o2 n2 hjn hin (by omega) hoj ho e5 (.inl (looksAt_op hop2))).1 h4)
                    rw [h2] at this; cases this
            · rcases (mem_ow_stS T 0 s).1 hk' with hk' | ⟨j, tr, h1, h2, h3⟩
              · exact f2 k hk ((mem_ow_stS T 0 s).2 (.inl hk'))
              · rw [Nat.zero_add] at h2
                rcases Nat.lt_trichotomy j i with h4 | h4 | h4
                · exact f2 k hk (inO i t ht j tr h4 h1 k h3)
                · exact absurd h4 (oth j tr h1 h2)
                · obtain ⟨hjn, oj, hoj, hjd⟩ := hTd j tr h1
                  obtain ⟨oj', t', k1, k2, k3⟩ := hopt j hjn
                  obtain ⟨ej, hej⟩ := hopE j hjn
                  rcases (hstep j oj' tr ej k2 h1 hej).fr with ⟨hf', _⟩ | ⟨n2, cs2, e3, e4, _, hop2, _⟩
                  · exact (freshB_spec hf').2 k h3 (inO j tr h1 i t h4 ht k hk)
                  · rw [e4] at h3; simp at h3
        refine (hq L g a.eval ((N, csF (Lf listed) Es 0 c) :: (stS (Lf listed) T 0 s).bl) (stS (Lf listed) T 0 s).ow w hinv.mem (fun p hp => List.mem_cons_of_mem _ ((mem_bl_stS T 0 s).2 (.inl hp))) hfresh.1 hfresh.2 operandsOk).mono fun y w' hKy => ?_
        obtain ⟨g', h1, h2, h3⟩ := hKy
        have := hinv.app (d := t.d) hdst' h1 h2 h3
        rw [hd] at this
        have hmm' : MemV E g' ((N, csF (Lf listed) Es 0 c) :: (t.nb ++ (stS (Lf listed) T 0 s).bl)) (t.no ++ (stS (Lf listed) T 0 s).ow) w' := ⟨h2.mem.same (fun p => by
          simp only [List.mem_append, List.mem_cons]
          constructor
          · rintro (hp | hp | hp)
            · exact .inr (.inl hp)
            · exact .inl hp
            · exact .inr (.inr hp)
          · rintro (hp | hp | hp)
            · exact .inr (.inl hp)
            · exact .inl hp
            · exact .inr (.inr hp)) (fun k hk => hk), h2.vis⟩
        exact next g' _ w' _ (csNone hen) (by rw [hd]; exact ⟨hmm', this.tm, this.de, this.sz⟩)
      · have hw : Region.wanted o2 (yielded l.toArray a.tmps) = false := by
          simp [Region.wanted, hg, hguard hg hj b hb]
        rw [hw]
        have := hinv.app (d := t.d) (v := t.v) (y := undef) (nb := []) (no := []) hdst' (Goes.refl g _) hinv.mem (by rw [hv]; simp [rep])
        rw [hd] at this
        exact next g _ w _ (csNone hen) (by rw [hd, hnb, hno]; exact this)
      · have hw : Region.wanted o2 (yielded l.toArray a.tmps) = true := by simp [Region.wanted, hgn]
        rw [hw]
        rw [if_pos rfl]
        have hiE := inLs_mem hin'
        have effI : ∀ j x, Es[j]? = some (some x) → j ∈ es := fun j x hj => by
          have hjn : j < n := by rw [← hEn]; exact (List.getElem?_eq_some_iff.1 hj).1
          obtain ⟨oj, tj, k1, k2, k3⟩ := hopt j hjn
          rcases (hstep j oj tj _ k2 k3 hj).run with ⟨h, _⟩ | ⟨h, _⟩ | ⟨_, _, _, _, h, _⟩ | ⟨h, _⟩
          · cases h
          · cases h
          · rw [Nat.zero_add] at h; exact inLs_mem h
          · cases h
        have chain : ∀ j k, j ∈ es → k ∈ es → j < k → j ∈ (depTab l.toArray n).getD k [] := fun j k hj hk hlt => by
          have h1 := List.all_eq_true.1 (List.all_eq_true.1 hE k hk) j hj
          rw [show Nat.blt j k = true from Nat.ble_eq_true_of_le hlt] at h1
          simpa using h1
        have hcs : csF (Lf listed) Es 0 c = csF (fun j => decide (j < i)) Es 0 c := csF_congr Es 0 c fun j x hj => by
          rw [Nat.zero_add]
          rcases Nat.lt_trichotomy j i with h1 | h1 | h1
          · rw [decide_eq_true h1]; exact depI j (chain j i (effI j x hj) hiE h1)
          · subst h1; rw [hLi]; simp
          · rw [decide_eq_false (by omega)]; exact depJ j (chain i j hiE (effI j x hj) h1)
        have hmm : MemV E g ((N, csF (fun j => decide (j < i)) Es 0 c) :: (stS (Lf listed) T 0 s).bl) (stS (Lf listed) T 0 s).ow w := by rw [← hcs]; exact hinv.mem
        have hlast : csF (Lf (listed.setIfInBounds i true)) Es 0 c = c' := csF_last Es 0 i c (by rw [he0, hen]) (by rw [Nat.zero_add, hLset]; simp) fun j y hij hj => by
          rw [Nat.zero_add, hLset, depJ j (chain i j hiE (effI j y hj) hij)]
          simp; omega
        refine (hev L g a.eval (stS (Lf listed) T 0 s).bl (stS (Lf listed) T 0 s).ow w hmm hmemN operandsOk).mono fun y w' hKy => ?_
        obtain ⟨g', h1, h2, h3⟩ := hKy
        have hput := look_put (E := E) (g := g') (w := w'.w) (a := a) (s := ⟨(stS (Lf listed) T 0 s).tm, (N, c') :: (stS (Lf listed) T 0 s).bl, (stS (Lf listed) T 0 s).ow⟩) (d := t.d) (v := t.v) (y := y) [] [] hdst' hinv.sz (fun t => rep_goes h1 (hinv.tm t)) h3
        rw [hd] at hput
        refine next g' _ w' _ hlast ?_
        rw [hd, hnb, hno]
        exact ⟨by simpa [St.app] using h2, by simpa [St.app] using hput, by cases o2.dst <;> simpa [Act.put] using hinv.de, by cases o2.dst <;> simpa [Act.put] using hinv.sz⟩
      · have hw : Region.wanted o2 (yielded l.toArray a.tmps) = true := by simp [Region.wanted, hqi.2.1]
        rw [hw]
        rw [if_pos rfl]
        have hin0 : initB n0 cs0.length (stS (fun j => decide (j < i)) T 0 s).bl = true ∧ n0 ≠ N := by
          rcases hfr with ⟨hf, hnm⟩ | ⟨n1, cs1, e1, _, _, _, hin1, hne1⟩
          · have := hnm (n0, cs0) (by rw [hnb]; simp)
            rw [hqi.1] at this; cases this
          · rw [hnb] at e1
            simp only [List.cons.injEq, Prod.mk.injEq, and_true] at e1
            obtain ⟨rfl, rfl⟩ := e1
            exact ⟨hin1, hne1⟩
        obtain ⟨hin0, hne0⟩ := hin0
        obtain ⟨⟨c0, hc0⟩, hall0⟩ := initB_spec hin0
        have hopt0 : n0 ∈ o2.looksAt l.toArray := looksAt_op hqi.2.2.1
        have hnt : ∀ c : List AV, c.all (fun x => !isTop x) = true → c ≠ [] → c.all isTop = true → False := by
          intro c h1 h2 h3
          cases c with
          | nil => exact h2 rfl
          | cons x c =>
            simp only [List.all_cons, Bool.and_eq_true, Bool.not_eq_true'] at h1 h3
            rw [h3.1] at h1; cases h1.1
        refine (hqi.2.2.2.2 L g a.eval ((N, csF (Lf listed) Es 0 c) :: (stS (Lf listed) T 0 s).bl) (stS (Lf listed) T 0 s).ow w hinv.mem ⟨c0, List.mem_cons_of_mem _ ?_⟩ (fun c hc => ?_) operandsOk).mono fun y w' hKy => ?_
        · rcases (mem_bl_stS T 0 s).1 hc0 with h1 | ⟨j, tr, h1, h2, h3⟩
          · exact (mem_bl_stS T 0 s).2 (.inl h1)
          · rw [Nat.zero_add] at h2
            have hji : j < i := of_decide_eq_true h2
            refine (mem_bl_stS T 0 s).2 (.inr ⟨j, tr, h1, ?_, h3⟩)
            rw [Nat.zero_add]
            obtain ⟨hjn, oj, hoj, hjd⟩ := hTd j tr h1
            obtain ⟨oj', t', k1, k2, k3⟩ := hopt j hjn
            have : oj' = oj := Option.some.inj (k1.symm.trans hoj)
            subst this
            obtain ⟨ej, hej⟩ := hopE j hjn
            rcases (hstep j oj' tr ej k2 h1 hej).fr with ⟨_, hnm'⟩ | ⟨n2, cs2, e3, _, hnt2, _, _⟩
            · exact depI j ((hord i o2 j oj' n0 hin hjn (by omega) ho hoj (hnm' _ h3) (.inl hopt0)).1 hji)
            · rw [e3] at h3
              simp only [List.mem_singleton, Prod.mk.injEq] at h3
              obtain ⟨rfl, rfl⟩ := h3
              exact (hnt _ hnt2.1 hnt2.2 (hall0 _ hc0).2).elim
        · rcases List.mem_cons.1 hc with hc | hc
          · simp only [Prod.mk.injEq] at hc
            exact absurd hc.1 hne0
          rcases (mem_bl_stS T 0 s).1 hc with h1 | ⟨j, tr, h1, h2, h3⟩
          · exact hall0 c (inS0 i _ h1)
          · rw [Nat.zero_add] at h2
            rcases Nat.lt_trichotomy j i with h4 | h4 | h4
            · exact hall0 c (inS i t ht j tr h4 h1 _ h3)
            · exact absurd h4 (oth j tr h1 h2)
            · obtain ⟨hjn, oj, hoj, hjd⟩ := hTd j tr h1
              obtain ⟨oj', t', k1, k2, k3⟩ := hopt j hjn
              obtain ⟨ej, hej⟩ := hopE j hjn
              rcases (hstep j oj' tr ej k2 h1 hej).fr with ⟨hf', _⟩ | ⟨n2, cs2, e3, _, _, _, hin2, _⟩
              · exact absurd rfl ((freshB_spec hf').1 _ h3 (n0, cs0) (inS j tr h1 i t h4 ht _ (by rw [hnb]; simp)))
              · rw [e3] at h3
                simp only [List.mem_singleton, Prod.mk.injEq] at h3
                obtain ⟨rfl, rfl⟩ := h3
                have := (initB_spec hin2).2 cs0 (inS j tr h1 i t h4 ht _ (by rw [hnb]; simp))
                exact (hnt _ hqi.2.2.2.1.1 hqi.2.2.2.1.2 this.2).elim
        · obtain ⟨hy, g', h1, h2⟩ := hKy
          have := hinv.app (d := t.d) (v := t.v) (y := y) (nb := t.nb) (no := t.no) hdst' h1 (by rw [hnb, hno]; exact h2) (by
            have hdn : t.d = none := hd.trans hqi.1
            rw [hv, hy]; simp [rep])
          rw [hd] at this
          have hmm' : MemV E g' ((N, csF (Lf listed) Es 0 c) :: (t.nb ++ (stS (Lf listed) T 0 s).bl)) (t.no ++ (stS (Lf listed) T 0 s).ow) w' := by
            rw [hnb, hno]
            exact ⟨h2.mem.same (fun p => by
              simp only [List.mem_append, List.mem_cons, List.not_mem_nil, or_false]
              constructor
              · rintro (hp | hp | hp)
                · exact .inr (.inl hp)
                · exact .inl hp
                · exact .inr (.inr hp)
              · rintro (hp | hp | hp)
                · exact .inr (.inl hp)
                · exact .inl hp
                · exact .inr (.inr hp)) (fun k hk => hk), h2.vis⟩
          exact next g' _ w' _ (csNone hen) (by rw [hd]; exact ⟨hmm', this.tm, this.de, this.sz⟩)
  refine wpV_region_any hm fun w₁ rw₁ => ?_
  have inv0 : HeadInv .any l.toArray n (Array.replicate l.toArray.size false) :=
    ⟨by simp, fun j oj _ hl => (by rw [getD_replicate_false] at hl; cases hl), fun t _ ht => getD_in (by simpa using ht) (getD_replicate_false _ _)⟩
  have hL0 : Lf (Array.replicate l.toArray.size false) = fun _ => false := by funext i; exact getD_replicate_false _ _
  have := main n (Array.replicate l.toArray.size false) g0 a0 ⟨w00.V, { w₁ with drawn := w₁.drawn + 1 }⟩ (by rw [hL0]; exact cnt_false n) inv0 ?_
  · rwa [show n + (l.toArray.size - n) = l.toArray.size by omega] at this
  · rw [hL0]
    have zero : ∀ (T : List Tr) (i : Nat) (s : St), stS (fun _ => false) T i s = s := by
      intro T
      induction T with
      | nil => intro i s; rfl
      | cons t T ih => intro i s; simp only [stS, cond_false]; exact ih _ s
    have zeroC : ∀ (es : List (Option (List AV))) (i : Nat) (c : List AV), csF (fun _ => false) es i c = c := by
      intro es
      induction es with
      | nil => intro i c; rfl
      | cons e es ih => intro i c; simp only [csF, cond_false]; exact ih _ c
    rw [zero, zeroC]
    exact (hi0.rely rw₁).drew
end Go.Eng

namespace Go.Eng
open Go Go.Conc

def pullB (N : Nat) : List (Nat × List AV) → Option (List AV × List (Nat × List AV))
  | [] => none
  | (k, c) :: r => bif Nat.beq k N then some (c, r) else match pullB N r with | some (c', r') => some (c', (k, c) :: r') | none => none
theorem pullB_mem {N : Nat} : ∀ {bl : List (Nat × List AV)} {c : List AV} {r : List (Nat × List AV)}, pullB N bl = some (c, r) → ∀ p, p ∈ bl ↔ p ∈ (N, c) :: r
  | [], _, _, h, _ => by simp [pullB] at h
  | (k, c0) :: bl, c, r, h, p => by
    simp only [pullB] at h
    cases hb : Nat.beq k N
    · rw [hb] at h
      simp only [cond_false] at h
      split at h
      · rename_i c' r' he
        simp only [Option.some.injEq, Prod.mk.injEq] at h
        obtain ⟨rfl, rfl⟩ := h
        have := pullB_mem he p
        simp only [List.mem_cons] at this ⊢
        constructor
        · rintro (h1 | h1)
          · exact .inr (.inl h1)
          · rcases this.1 h1 with h2 | h2
            · exact .inl h2
            · exact .inr (.inr h2)
        · rintro (h1 | h1 | h1)
          · exact .inr (this.2 (.inl h1))
          · exact .inl h1
          · exact .inr (this.2 (.inr h1))
      · cases h
    · rw [hb] at h
      simp only [cond_true, Option.some.injEq, Prod.mk.injEq] at h
      obtain ⟨rfl, rfl⟩ := h
      rw [Nat.eq_of_beq_eq_true hb]
theorem wdrawC {E : En} {id : Nat} {l hd tl : List Oper} {Q : Exit → St → Prop} {tm : List (Nat × AV)} {bl bl0 : List (Nat × List AV)} {ow : List Nat} {c : List AV} (n N : Nat) (es : List Nat) (hm : E.P.follows .mixedOrders = true) (hB : headB l.toArray n = true) (hT : tailB l.toArray n = true) (hE : effB l.toArray n es = true)
    (hN : l.all (fun o => match o.dst with | some d => !Nat.beq d N | none => true) = true) (hs : splitO n l = some (hd, tl)) (hp : pullB N bl = some (c, bl0)) (hbN : bl0.all (fun q => !Nat.beq q.1 N) = true)
    (h : HC E l.toArray bl0 N es 0 hd ⟨tm, bl0, ow⟩ c (fun s' c' => WL E l.toArray tl Q ⟨s'.tm, (N, c') :: s'.bl, s'.ow⟩)) : W E (.region id l.toArray true) Q ⟨tm, bl, ow⟩ := by
  obtain ⟨h1, h2⟩ := splitO_eq hs
  subst h1; subst h2
  intro L g a w hi
  exact W_drawC (s := ⟨tm, bl0, ow⟩) n N es hm hB hT hE hN hbN h L g a w ⟨⟨hi.mem.mem.same (pullB_mem hp) (fun k hk => hk), hi.mem.vis⟩, hi.tm, hi.de, hi.sz⟩
section
variable {E : En} {ops : Array Oper} {rest : List Oper} {N k : Nat} {es : List Nat} {K : St → List AV → Prop} {tm : List (Nat × AV)} {bl bl0 : List (Nat × List AV)} {ow : List Nat} {d : Nat} {op : Op} {ty : TypeId} {pos : String} {af : Array Edge} {gd : Option (Nat × Bool)} {v : AV} {c c' : List AV}
theorem HC_nil {s : St} (h : K s c) : HC E ops bl0 N es k [] s c K := h
theorem hc_gy {o : Oper} {s : St} {nb : List (Nat × List AV)} {no : List Nat} (h : QV E bl0 s.tm o v nb no) (hg : GY ops s.tm o.guard) (hd : dstB E.nt o = true) (hf : freshB nb no s = true) (hn : namesB nb o = true) (hk : HC E ops bl0 N es (k + 1) rest (s.app o.dst v nb no) c K) : HC E ops bl0 N es k (o :: rest) s c K := by
  refine .inl ⟨v, nb, no, h, hd, ⟨hf, hn⟩, ?_, hk⟩
  cases hgd : o.guard with
  | none => exact .inl rfl
  | some jb =>
    obtain ⟨j, b⟩ := jb
    rw [hgd] at hg
    obtain ⟨d, h1, h2⟩ := hg
    exact .inr ⟨j, d, b, rfl, h1, h2⟩
theorem hc0 (h : QV E bl0 tm ⟨some d, op, ty, pos, af, gd⟩ v [] []) (hg : GY ops tm gd) (hd : Nat.blt d E.nt = true) (hk : HC E ops bl0 N es (k + 1) rest ⟨(d, v) :: tm, bl, ow⟩ c K) : HC E ops bl0 N es k (⟨some d, op, ty, pos, af, gd⟩ :: rest) ⟨tm, bl, ow⟩ c K := hc_gy h hg hd (by simp [freshB]) (by simp [namesB]) hk
theorem hcn1 {n : Nat} (h : QV E bl0 tm ⟨some d, op, ty, pos, af, gd⟩ v [] [n]) (hg : GY ops tm gd) (hd : Nat.blt d E.nt = true) (hf : freshB [] [n] ⟨tm, bl, ow⟩ = true) (hk : HC E ops bl0 N es (k + 1) rest ⟨(d, v) :: tm, bl, n :: ow⟩ c K) : HC E ops bl0 N es k (⟨some d, op, ty, pos, af, gd⟩ :: rest) ⟨tm, bl, ow⟩ c K := hc_gy h hg hd hf (by simp [namesB]) hk
theorem hcn (hg : GN ops tm gd) (hd : Nat.blt d E.nt = true) (hk : HC E ops bl0 N es (k + 1) rest ⟨(d, .v undef) :: tm, bl, ow⟩ c K) : HC E ops bl0 N es k (⟨some d, op, ty, pos, af, gd⟩ :: rest) ⟨tm, bl, ow⟩ c K := by
  cases gd with
  | none => exact hg.elim
  | some jb =>
    obtain ⟨j, b⟩ := jb
    obtain ⟨d', h1, h2⟩ := hg
    exact .inr (.inl ⟨j, d', !b, by simp, h1, h2, hd, hk⟩)
theorem hcE (h : EV E N tm ⟨some d, op, ty, pos, af, none⟩ v c c') (hd : Nat.blt d E.nt = true) (he : inLs es k = true) (hk : HC E ops bl0 N es (k + 1) rest ⟨(d, v) :: tm, bl, ow⟩ c' K) : HC E ops bl0 N es k (⟨some d, op, ty, pos, af, none⟩ :: rest) ⟨tm, bl, ow⟩ c K :=
  .inr (.inr (.inl ⟨v, c', h, hd, rfl, he, hk⟩))
theorem setB_head {N : Nat} {c c' : List AV} {bl : List (Nat × List AV)} (h : ∀ q ∈ bl, q.1 ≠ N) : setB ((N, c) :: bl) N c' = (N, c') :: bl := by
  simp only [setB, List.map_cons, Nat.beq_refl, cond_true, List.cons.injEq, true_and]
  rw [List.map_congr_left (g := id)]
  · simp
  · intro q hq
    cases hb : Nat.beq q.1 N
    · rfl
    · exact absurd (Nat.eq_of_beq_eq_true hb) (h q hq)
theorem evPtr {x : Operand} {xs : Array Operand} {ts : Array TypeId} {f : Nat} {args : List AV} {z : AV} [hf : FnOk E.P f] (h : CallPtr E.P f args c (fun r cs => r = z ∧ cs = c')) (hx : ev tm x = .v (.func (.func f) #[] #[])) (ha : PtA N (xs.toList.map (ev tm)) args) (hcs : dtL c = true) (hcs' : dtL c' = true) (hz : dtL [z] = true) (hro : N ∉ E.ron) (hn7 : Nat.blt N 7000000 = true := by rfl) :
    EV E N tm ⟨some d, .call ⟨.value x, xs, ts⟩, ty, pos, af, none⟩ z c c' := by
  intro L g ρ bl' ow' w hm0 hne hop w₁ rw₁
  have hg := hm0.goes rw₁
  have hm := hm0.rely rw₁
  have h1 := rep_goes hg (hop x (by simp [Op.operands, Call.operands]))
  have h2 : reps g w₁ (xs.toList.map (ev tm)) (xs.toList.map ρ) := reps_map _ fun y hy => rep_goes hg (hop y (by simp [Op.operands, Call.operands] at hy ⊢; exact .inr hy))
  rw [hx] at h1
  simp only [rep] at h1
  obtain ⟨fn, f1, f2, f3⟩ := hf.ok
  have f2' : fn.name ≠ "runtime.NumGoroutine" := by simpa using f2
  have f3' : fn.body ≠ none := fun e => by rw [e] at f3; simp at f3
  have hrun : (execOp ρ ⟨some d, .call ⟨.value x, xs, ts⟩, ty, pos, af, none⟩).run E.P w₁ = .ok (.enter f (xs.map ρ)) w₁ := by
    simp [execOp, resolve, Deferred.ofValue, h1, invoke, callFunc, f1, f2', f3']
  have hevs : (execOp ρ ⟨some d, .call ⟨.value x, xs, ts⟩, ty, pos, af, none⟩).events E.P w₁ #[] = #[] := by
    simp [execOp, resolve, Deferred.ofValue, h1, invoke, callFunc, f1, f2', f3']
  rw [hrun]
  obtain ⟨b, arr, m1, m2, m3, m4⟩ := hm.mem.blk N c (by simp)
  refine ⟨rfl, hevs, (h L g.I ⟨w.V, w₁⟩ b (g.mt N) (xs.map ρ) arr (fun b o hb => ⟨hm.mem.cell b o hb, hm.vis.I b o hb⟩) ⟨hm.vis.sub, hm.vis.lt⟩ ((hm.vis.m N b m1).2 hro) m4 m2 (reps_dt (g := g) (g' := gP g.I b (g.mt N)) rfl hcs m3) (by rw [Array.toList_map]; exact reps_ptA m1 ha h2)).mono fun y w' he => ?_⟩
  obtain ⟨r, cs', arr', g', ⟨rfl, rfl⟩, k1, k2, k3, k4, k5⟩ := he
  obtain ⟨gc, p1, p2, p3, p4, _⟩ := hm.turned hn7 m1 hro k2 k3 k4 hcs' k5 0 [] (fun n hn => by simp at hn)
  rw [setB_head hne] at p2
  refine ⟨gc, hg.trans p1, by simpa using p2, ?_⟩
  have := reps_dt (g := g') (g' := gc) p3 (xs := [r]) (ys := [y]) hz (by simp only [reps]; exact ⟨y, [], rfl, k1, rfl⟩)
  simp only [reps] at this
  obtain ⟨_, _, e1, k6, _⟩ := this
  cases e1
  exact k6
end
end Go.Eng
