/- Functions that are handed a pointer to a variable and turn it; functions that make one. No program in sight. -/
import Derived.Test.YtikbndfbjgdldaaEN
namespace Go.Eng
open Go

/- Data, numbers: what reads so whatever the names. -/
mutual
def dt : AV → Bool
  | .v _ => true
  | .top => true
  | .sl .. => true
  | .agg cs => dtL cs
  | _ => false
def dtL : List AV → Bool
  | [] => true
  | x :: xs => dt x && dtL xs
end
mutual
theorem rep_dt {g g' : Gh} {w : World} (hI : g'.I = g.I) : ∀ {x : AV} {y : Value}, dt x = true → rep g w x y → rep g' w x y
  | .top, _, _, _ => by simp [rep]
  | .v x, y, _, h => by simpa [rep] using h
  | .sl e rows, y, _, h => by simp only [rep] at h ⊢; rw [hI]; exact h
  | .agg cs, y, hp, h => by
    simp only [rep, dt] at h hp ⊢
    obtain ⟨a, e, h⟩ := h
    exact ⟨a, e, reps_dt hI hp h⟩
  | .tup .., _, hp, _ => by simp [dt] at hp
  | .own .., _, hp, _ => by simp [dt] at hp
  | .ptr .., _, hp, _ => by simp [dt] at hp
  | .eptr .., _, hp, _ => by simp [dt] at hp
  | .fn .., _, hp, _ => by simp [dt] at hp
  | .arr .., _, hp, _ => by simp [dt] at hp
theorem reps_dt {g g' : Gh} {w : World} (hI : g'.I = g.I) : ∀ {xs : List AV} {ys : List Value}, dtL xs = true → reps g w xs ys → reps g' w xs ys
  | [], ys, _, h => by simpa [reps] using h
  | x :: xs, ys, hp, h => by
    simp only [reps, dtL, Bool.and_eq_true] at h hp ⊢
    obtain ⟨y, zs, e, h1, h2⟩ := h
    exact ⟨y, zs, e, rep_dt hI hp.1 h1, reps_dt hI hp.2 h2⟩
end
/-! ### A variable of the caller's, by pointer -/
def gP (I : Nat → Nat → Prop) (b T : Nat) : Gh := ⟨I, fun n => if n = 1000000 then some b else none, fun _ => none, fun _ => False, fun _ => T⟩
abbrev enP (P : Program) (B : Nat) (w0 : World) (nt b T : Nat) (I0 : Nat → Nat → Prop) : En := ⟨P, B, w0, nt, fun c => c = b, [], I0, fun n c U => n = 1000000 ∧ c = b ∧ U = T⟩
structure RetP (I : Nat → Nat → Prop) (b : Nat) (w : World) (g' : Gh) (w' : World) : Prop where
  below : BelowM w.heap.size (fun c => c = b) w w'
  old : ∀ b o, I b o → g'.I b o
  new : ∀ b o, g'.I b o → I b o ∨ w.heap.size ≤ b
  cell : ∀ b o, g'.I b o → (w'.cell? ⟨b, o, none⟩).isSome = true
  own : ∀ n c, g'.ow n → g'.om n = some c → w.heap.size ≤ c ∧ c < w'.heap.size
  inj : ∀ n n' c, g'.ow n → g'.ow n' → g'.om n = some c → g'.om n' = some c → n = n'
/-- THE CONTRACT: the variable (name 1000000) reads as cs; what comes out, and how it reads then, R tells. -/
def CallPtr (P : Program) (f : Nat) (args cs : List AV) (R : AV → List AV → Prop) : Prop :=
  ∀ (I : Nat → Nat → Prop) (w : World) (b T : Nat) (vals arr : Array Value), (∀ b o, I b o → (w.cell? ⟨b, o, none⟩).isSome = true) → (∀ o, ¬ I b o) → w.heap[b]? = some (.cells arr T (0, 0)) → reps (gP I b T) w cs arr.toList → reps (gP I b T) w args vals.toList →
    Calls P f vals w fun e w' => ∃ y r cs' arr', ∃ g' : Gh, e = .returned y ∧ R r cs' ∧ rep g' w' r y ∧ RetP I b w g' w' ∧ w'.heap[b]? = some (.cells arr' T (0, 0)) ∧ reps g' w' cs' arr'.toList ∧ ∀ o, ¬ g'.I b o
def ptrQ (E : En) (rs : List ResultVar) (R : AV → List AV → Prop) : Exit → St → Prop
  | .normal, s => ∃ s', Weak E s s' ∧ ∃ xs cs', resA E.P s' rs xs ∧ (1000000, cs') ∈ s'.bl ∧ R (oneA xs) cs' ∧ refs [] s'.ow (oneA xs) = true ∧ dtL cs' = true
  | .ret, s => ∃ s', Weak E s s' ∧ ∃ xs cs', resA E.P s' rs xs ∧ (1000000, cs') ∈ s'.bl ∧ R (oneA xs) cs' ∧ refs [] s'.ow (oneA xs) = true ∧ dtL cs' = true
  | _, _ => False
theorem callPtr {P : Program} {f nt : Nat} {fn : Func} {rs : Array ResultVar} {co : Code} {args cs : List AV} {tm : List (Nat × AV)} {R : AV → List AV → Prop} (hf : P.funcs[f]? = some fn) (hnt : fn.ntmps = nt) (hrs : fn.results = rs) (hb : fn.body = some co) (hn : Nat.ble args.length nt = true) (htm : iniO 0 args = some tm)
    (h : ∀ (B : Nat) (w0 : World) (b T : Nat) (I0 : Nat → Nat → Prop), W (enP P B w0 nt b T I0) co (ptrQ (enP P B w0 nt b T I0) rs.toList R) ⟨tm, [(1000000, cs)], []⟩) : CallPtr P f args cs R := by
  subst hnt; subst hrs
  intro I w b T vals arr hI hIb hh hreps hargs'
  have htm' := iniO_eq htm
  have hn' := Nat.le_of_ble_eq_true hn
  have hblt : b < w.heap.size := (Array.getElem?_eq_some_iff.1 hh).1
  let E : En := enP P w.heap.size w fn.ntmps b T I
  let g : Gh := gP I b T
  have hlen := reps_length hargs'
  have hgm : ∀ n c, g.m n = some c → n = 1000000 ∧ c = b := fun n c h => by
    by_cases e1 : n = 1000000
    · simp only [g, gP, e1, if_true, Option.some.injEq] at h; exact ⟨e1, h.symm⟩
    · simp only [g, gP, e1, if_false] at h; cases h
  refine calls_of_wp hf hb ?_
  refine wp_mono (h w.heap.size w b T I g _ w ⟨⟨BelowM.refl _ _ _, Nat.le_refl _, hI, fun n c h => ?_, fun _ _ h => h.elim, fun n n' c h1 h2 => (hgm n c h1).1.trans (hgm n' c h2).1.symm, fun _ _ _ h => h.elim, fun _ _ _ _ h => h.elim,
    fun n cs h => ?_, fun n c h => ?_, fun _ h => h.elim, fun _ _ h => .inl h, fun _ _ h => h, fun n c U h => ?_⟩, fun t => ?_, rfl, ?_⟩) fun e a' w' hq => ?_
  · obtain ⟨rfl, rfl⟩ := hgm n c h
    exact ⟨.inr (.inr rfl), hblt⟩
  · simp only [List.mem_singleton, Prod.mk.injEq] at h
    obtain ⟨rfl, rfl⟩ := h
    exact ⟨b, arr, by simp [g, gP], hh, hreps, hIb⟩
  · obtain ⟨rfl, rfl⟩ := hgm n c h
    exact ⟨_, List.mem_singleton.2 rfl⟩
  · obtain ⟨rfl, rfl, rfl⟩ := h
    exact ⟨by simp [g, gP], rfl⟩
  · rw [← htm']
    simp only [look_zip, Nat.zero_le, if_true, Nat.sub_zero]
    rcases Nat.lt_or_ge t args.length with h1 | h1
    · obtain ⟨y, hy, hr⟩ := reps_get hargs' (List.getElem?_eq_getElem h1)
      have : t < vals.size := by simpa [← hlen] using h1
      have hy' : vals[t] = y := by simpa [this] using hy
      simp only [List.getD_eq_getElem?_getD, List.getElem?_eq_getElem h1, Option.getD_some]
      simp only [Array.getD_eq_getD_getElem?, Array.getElem?_append_left this, Array.getElem?_eq_getElem this, Option.getD_some, hy']
      exact hr
    · simp only [List.getD_eq_getElem?_getD, List.getElem?_eq_none h1, Option.getD_none, rep]
  · have : vals.size = args.length := by simpa using hlen
    simp; omega
  · obtain ⟨g', s', hq, hi⟩ := hq
    have fin : (∃ s2, Weak E s' s2 ∧ ∃ xs cs', resA P s2 fn.results.toList xs ∧ (1000000, cs') ∈ s2.bl ∧ R (oneA xs) cs' ∧ refs [] s2.ow (oneA xs) = true ∧ dtL cs' = true) → a'.defers = [] ∧ ∃ v, (results fn a'.tmps).run P w' = .ok v w' ∧
        ∃ y r cs' arr', ∃ g' : Gh, Ending.returned v = .returned y ∧ R r cs' ∧ rep g' w' r y ∧ RetP I b w g' w' ∧ w'.heap[b]? = some (.cells arr' T (0, 0)) ∧ reps g' w' cs' arr'.toList ∧ ∀ o, ¬ g'.I b o := by
      rintro ⟨s2, hw, xs, cs', h1, h2, h3, h4, h5⟩
      obtain ⟨g', hi⟩ := hw g' a' w' hi
      obtain ⟨y, k1, k2⟩ := run_results hi h1
      obtain ⟨c, arr', m1, m2, m3, m4⟩ := hi.mem.blk _ _ h2
      obtain ⟨p1, p2⟩ := hi.mem.pin 1000000 b T ⟨rfl, rfl, rfl⟩
      have : c = b := by rw [p1] at m1; exact (Option.some.inj m1).symm
      subst this
      rw [p2] at m2
      let g2 : Gh := { g' with m := fun _ => none }
      exact ⟨hi.de, y, k1, y, oneA xs, cs', arr', g2, rfl, h3, rep_refs (g := g') (g' := g2) rfl (fun n b hn => by simp at hn) rfl (fun n _ h => ⟨h, rfl⟩) h4 k2,
        ⟨hi.mem.below, hi.mem.iold, hi.mem.inew, hi.mem.cell, hi.mem.ofr, hi.mem.oinj⟩, m2, reps_dt (g := g') (g' := g2) rfl h5 m3, m4⟩
    cases e with
    | normal => exact fin hq
    | ret => exact fin hq
    | _ => exact hq.elim
/-- What is handed over: the pointer, data. -/
inductive PtA (N : Nat) : List AV → List AV → Prop where
  | nil : PtA N [] []
  | ptr {xs ys : List AV} (hs : PtA N xs ys) : PtA N (.ptr N 0 :: xs) (.ptr 1000000 0 :: ys)
  | v {x : Value} {xs ys : List AV} (hs : PtA N xs ys) : PtA N (.v x :: xs) (.v x :: ys)
  | sl {e : Nat} {rows : List (List AV)} {xs ys : List AV} (hs : PtA N xs ys) : PtA N (.sl e rows :: xs) (.sl e rows :: ys)
  | own {n T e : Nat} {rows : List (List AV)} {xs ys : List AV} (hs : PtA N xs ys) : PtA N (.own n T e rows :: xs) (.sl e rows :: ys)
  | agg {cs ds xs ys : List AV} (h : LeDs cs ds) (hs : PtA N xs ys) : PtA N (.agg cs :: xs) (.agg ds :: ys)
theorem reps_ptA {g : Gh} {w : World} {N b T : Nat} (hm : g.m N = some b) {xs ys : List AV} (h : PtA N xs ys) : ∀ {zs : List Value}, reps g w xs zs → reps (gP g.I b T) w ys zs := by
  induction h with
  | nil => intro zs h; simpa only [reps] using h
  | ptr _ ih =>
    intro zs h
    simp only [reps, rep] at h ⊢
    obtain ⟨y, zs', e, ⟨c, k1, k2⟩, h2⟩ := h
    rw [hm] at k1
    cases k1
    exact ⟨y, zs', e, ⟨b, by simp [gP], k2⟩, ih h2⟩
  | v _ ih => intro zs h; simp only [reps, rep] at h ⊢; obtain ⟨y, zs', e, h1, h2⟩ := h; exact ⟨y, zs', e, h1, ih h2⟩
  | sl _ ih => intro zs h; simp only [reps, rep] at h ⊢; obtain ⟨y, zs', e, h1, h2⟩ := h; exact ⟨y, zs', e, h1, ih h2⟩
  | own _ ih =>
    intro zs h
    simp only [reps] at h ⊢
    obtain ⟨y, zs', e, h1, h2⟩ := h
    refine ⟨y, zs', e, ?_, ih h2⟩
    simp only [rep] at h1 ⊢
    exact (drep_of_own h1 : drep g.I w (.sl _ _) y)
  | agg hd _ ih =>
    intro zs h
    simp only [reps] at h ⊢
    obtain ⟨y, zs', e, h1, h2⟩ := h
    have h3 := dreps_leDs (g := g) (LeDs.agg hd LeDs.nil) (by simp only [reps]; exact ⟨y, [], rfl, h1, rfl⟩)
    simp only [dreps] at h3
    obtain ⟨_, _, e1, h4, _⟩ := h3
    cases e1
    exact ⟨y, zs', e, rep_of_drep (g := gP g.I b T) h4, ih h2⟩
/-- Such a call has turned the variable. -/
theorem Mem.turned {E : En} {g g' : Gh} {bl : List (Nat × List AV)} {ow : List Nat} {w w' : World} {N b : Nat} {cs' : List AV} {arr : Array Value} (h : Mem E g bl ow w) (hn : g.m N = some b) (hro : N ∉ E.ron) (hr : RetP g.I b w g' w') (hh : w'.heap[b]? = some (.cells arr (g.mt N) (0, 0)))
    (hc : reps g' w' cs' arr.toList) (hd : dtL cs' = true) (hI : ∀ o, ¬ g'.I b o) (k : Nat) (os : List Nat) (hf : ∀ n ∈ os, k + n ∉ ow) :
    ∃ gc, Goes g w gc w' ∧ Mem E gc (setB bl N cs') (os.map (k + ·) ++ ow) w' ∧ gc.I = g'.I ∧ ∀ n, n ∈ os → g'.ow n → gc.ow (k + n) ∧ gc.om (k + n) = g'.om n := by
  let gc : Gh := { I := g'.I, m := g.m, om := fun j => if j ∈ ow then g.om j else g'.om (j - k), ow := fun j => g.ow j ∨ (j ∉ ow ∧ ∃ n ∈ os, j = k + n ∧ g'.ow n), mt := g.mt }
  have hIb : ∀ o, ¬ g.I b o := fun o ho => hI o (hr.old b o ho)
  have heap : ∀ c, c < w.heap.size → c ≠ b → w'.heap[c]? = w.heap[c]? := fun c hb hne => hr.below.block c hb hne
  have hIlt : ∀ b o, g.I b o → b < w.heap.size := fun b o hb => cell_lt (h.cell b o hb)
  have keeps : Keeps g.I w w' := fun c o hb => World.cell?_of_block (a := ⟨c, o, none⟩) (heap c (hIlt c o hb) fun e => hIb o (e ▸ hb))
  have how : ∀ j, g.ow j → gc.ow j ∧ gc.om j = g.om j := fun j hj => ⟨.inl hj, by simp only [gc, h.own j hj, if_true]⟩
  have hI2 : ∀ c o, c < w.heap.size → g'.I c o → g.I c o := fun c o hb hI => (hr.new c o hI).resolve_right (by omega)
  have hoc : ∀ j c, gc.ow j → gc.om j = some c → (g.ow j ∧ g.om j = some c) ∨ (∃ n ∈ os, j = k + n ∧ g'.ow n ∧ g'.om n = some c) := by
    intro j c h1 h2
    rcases h1 with h1 | ⟨h1, n, hn, rfl, h3⟩
    · exact .inl ⟨h1, by rw [(how j h1).2] at h2; exact h2⟩
    · simp only [gc, h1, if_false, Nat.add_sub_cancel_left] at h2
      exact .inr ⟨n, hn, rfl, h3, h2⟩
  have hob : ∀ n c, g.ow n → g.om n = some c → c ≠ b := fun n c h1 h2 e => h.disj N n b hn h1 (e ▸ h2)
  have goes : Goes g w gc w' := ⟨hr.old, keeps, fun _ _ h => h, fun _ _ _ => rfl, fun n T e rows y hy => ownRep_goes (g := g) (g' := gc) hr.old keeps how (fun n c h1 h2 => heap c (h.ofr n c h1 h2).2 (hob n c h1 h2)) (fun n c o h1 h2 h3 => hI2 c o (h.ofr n c h1 h2).2 h3) hy⟩
  refine ⟨gc, goes, ?_, rfl, fun n hn h1 => ⟨.inr ⟨hf n hn, n, hn, rfl, h1⟩, by simp only [gc, hf n hn, if_false, Nat.add_sub_cancel_left]⟩⟩
  have hsz := hr.below.size
  have hbB : E.B ≤ b ∨ E.M b := (h.mfr N b hn).1.resolve_left hro
  refine { below := ⟨hr.below.os.trans h.below.os, hr.below.tape.trans h.below.tape, hr.below.output.trans h.below.output, Nat.le_trans h.below.size hsz, fun j hj hM => ?_⟩,
           base := Nat.le_trans h.base hsz, cell := hr.cell, mfr := fun n c hn => ⟨(h.mfr n c hn).1, Nat.lt_of_lt_of_le (h.mfr n c hn).2 hsz⟩, ofr := ?_, minj := h.minj, oinj := ?_, disj := ?_, blk := ?_, key := fun j c hj => ?_, own := ?_, inew := ?_, iold := fun b o hb => hr.old b o (h.iold b o hb), pin := h.pin }
  · rw [heap j (Nat.lt_of_lt_of_le hj h.base) fun e => by subst e; rcases hbB with h1 | h1 <;> first | omega | exact hM h1]
    exact h.below.block j hj hM
  · intro j c h1 h2
    rcases hoc j c h1 h2 with ⟨h3, h4⟩ | ⟨n, _, _, h3, h4⟩
    · exact ⟨(h.ofr j c h3 h4).1, Nat.lt_of_lt_of_le (h.ofr j c h3 h4).2 hsz⟩
    · have := hr.own n c h3 h4
      exact ⟨Nat.le_trans h.base this.1, this.2⟩
  · intro j j' c h1 h1' h2 h2'
    rcases hoc j c h1 h2 with ⟨h3, h4⟩ | ⟨n, _, rfl, h3, h4⟩ <;> rcases hoc j' c h1' h2' with ⟨h5, h6⟩ | ⟨n', _, rfl, h5, h6⟩
    · exact h.oinj j j' c h3 h5 h4 h6
    · have h7 := (h.ofr j c h3 h4).2; have h8 := (hr.own n' c h5 h6).1; omega
    · have h7 := (h.ofr j' c h5 h6).2; have h8 := (hr.own n c h3 h4).1; omega
    · rw [hr.inj n n' c h3 h5 h4 h6]
  · intro j j' c h1 h2 h3
    rcases hoc j' c h2 h3 with ⟨h4, h5⟩ | ⟨n, _, rfl, h4, h5⟩
    · exact h.disj j j' c h1 h4 h5
    · have h7 := (h.mfr j c h1).2; have h8 := (hr.own n c h4 h5).1; omega
  · intro n ds hds
    simp only [setB, List.mem_map] at hds
    obtain ⟨⟨k', ds'⟩, hp, he⟩ := hds
    obtain ⟨c, arr', h1, h2, h3, h4⟩ := h.blk k' ds' hp
    have hcl := (h.mfr k' c h1).2
    cases hb : Nat.beq k' N
    · simp only [hb, cond_false, Prod.mk.injEq] at he
      obtain ⟨rfl, rfl⟩ := he
      have hne : c ≠ b := fun e => by
        subst e
        have := h.minj k' N c h1 hn
        rw [this] at hb; simp at hb
      exact ⟨c, arr', h1, (heap c hcl hne).trans h2, reps_goes goes h3, fun o ho => h4 o (hI2 c o hcl ho)⟩
    · simp only [hb, cond_true, Prod.mk.injEq] at he
      obtain ⟨rfl, rfl⟩ := he
      have e := Nat.eq_of_beq_eq_true hb
      rw [e] at h1 ⊢
      have : c = b := by rw [hn] at h1; exact (Option.some.inj h1).symm
      subst this
      exact ⟨c, arr, hn, hh, reps_dt (g := g') (g' := gc) rfl hd hc, hI⟩
  · obtain ⟨ds, hd'⟩ := h.key j c hj
    cases hb : Nat.beq j N
    · exact ⟨ds, List.mem_map.2 ⟨_, hd', by simp only [hb, cond_false]⟩⟩
    · exact ⟨cs', List.mem_map.2 ⟨_, hd', by simp only [hb, cond_true]⟩⟩
  · intro j hj
    rcases hj with hj | ⟨_, n, hn, rfl, _⟩
    · exact List.mem_append_right _ (h.own j hj)
    · exact List.mem_append_left _ (List.mem_map.2 ⟨n, hn, rfl⟩)
  · intro b o hb
    rcases hr.new b o hb with h1 | h1
    · exact h.inew b o h1
    · exact .inr (Nat.le_trans h.base h1)
section
variable {E : En} {ops : Array Oper} {rest : List Oper} {Q : Exit → St → Prop} {tm : List (Nat × AV)} {bl : List (Nat × List AV)} {ow : List Nat} {d : Nat} {ty : TypeId} {pos : String} {af : Array Edge}
/-- A call that turns the variable N. -/
theorem wlptr {x : Operand} {xs : Array Operand} {ts : Array TypeId} {f N : Nat} {args cs : List AV} {R : AV → List AV → Prop} (k : Nat) (os : List Nat) [hf : FnOk E.P f] (h : CallPtr E.P f args cs R) (hx : ev tm x = .v (.func (.func f) #[] #[])) (ha : PtA N (xs.toList.map (ev tm)) args) (hb : lookB bl N = some cs) (hcs : dtL cs = true) (hro : N ∉ E.ron)
    (hR : ∀ r cs', R r cs' → ownsIn os r = true ∧ dtL cs' = true) (hfr : (os.all fun n => ow.all fun j => !Nat.beq (k + n) j) = true) (hd : Nat.blt d E.nt = true)
    (hk : ∀ r cs', R r cs' → WL E ops rest Q ⟨(d, ren k r) :: tm, setB bl N cs', os.map (k + ·) ++ ow⟩) : WL E ops (⟨some d, .call ⟨.value x, xs, ts⟩, ty, pos, af, none⟩ :: rest) Q ⟨tm, bl, ow⟩ := by
  intro g a w hi
  unfold wpList
  rw [show Region.wanted ⟨some d, .call ⟨.value x, xs, ts⟩, ty, pos, af, none⟩ (yielded ops a.tmps) = true by simp [Region.wanted]]
  refine .inl ?_
  have h1 := rep_ev hi.tm x
  have h2 : reps g w (xs.toList.map (ev tm)) (xs.toList.map a.eval) := reps_map _ fun y _ => rep_ev hi.tm y
  rw [hx] at h1
  simp only [rep] at h1
  obtain ⟨fn, f1, f2, f3⟩ := hf.ok
  have f2' : fn.name ≠ "runtime.NumGoroutine" := by simpa using f2
  have f3' : fn.body ≠ none := fun e => by rw [e] at f3; simp at f3
  have hrun : (execOp a.eval ⟨some d, .call ⟨.value x, xs, ts⟩, ty, pos, af, none⟩).run E.P w = .ok (.enter f (xs.map a.eval)) w := by
    simp [execOp, resolve, Deferred.ofValue, h1, invoke, callFunc, f1, f2', f3']
  unfold Oper.wp
  rw [hrun]
  obtain ⟨b, arr, m1, m2, m3, m4⟩ := hi.mem.blk _ _ (lookB_mem hb)
  refine (h g.I w b (g.mt N) (xs.map a.eval) arr hi.mem.cell m4 m2 (reps_dt (g := g) (g' := gP g.I b (g.mt N)) rfl hcs m3) (by rw [Array.toList_map]; exact reps_ptA m1 ha h2)).mono fun e' w' he => ?_
  obtain ⟨y, r, cs', arr', g', rfl, hr, k1, k2, k3, k4, k5⟩ := he
  obtain ⟨q1, q2⟩ := hR r cs' hr
  have hfr' : ∀ n ∈ os, k + n ∉ ow := fun n hn hm => by
    have := List.all_eq_true.1 (List.all_eq_true.1 hfr n hn) _ hm
    simp at this
  obtain ⟨gc, p1, p2, p3, p4⟩ := hi.mem.turned m1 hro k2 k3 k4 q2 k5 k os hfr'
  have hput := look_put (E := E) (g := gc) (w := w') (a := a) (s := ⟨tm, setB bl N cs', ow⟩) (d := some d) (v := ren k r) (y := y) [] (os.map (k + ·)) (fun k hk => by cases hk; exact Nat.le_of_ble_eq_true hd) hi.sz (fun t => rep_goes p1 (hi.tm t)) (rep_ren p3 p4 q1 k1)
  exact hk r cs' hr gc _ w' ⟨p2, hput, hi.de, by simp [Act.put, hi.sz]⟩
end
end Go.Eng
