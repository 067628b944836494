/- My walking engine, part 15: abstract values of Go, and the rules of a walk over them. No program in sight. -/
import Derived.Test.YtpcahgedkmgllaaGreatZ4
namespace Go.Eng
open Go Go.Conc

def DLe (n T e : Nat) (rows : List (List AV)) (x v : AV) : Prop := (x = .arr n T e rows.length ∧ v = .sl e rows) ∨ x = v ∨ v = .top
def DPick (n T e : Nat) (rows : List (List AV)) (tm : List (Nat × AV)) : List (Nat × AV) → Prop
  | [] => True
  | (t, v) :: r => DLe n T e rows (look tm t) v ∧ DPick n T e rows tm r
inductive DLes (n T e : Nat) (rows : List (List AV)) : List AV → List AV → Prop where
  | nil : DLes n T e rows [] []
  | cons {x y : AV} {xs ys : List AV} (h : DLe n T e rows x y) (hs : DLes n T e rows xs ys) : DLes n T e rows (x :: xs) (y :: ys)
theorem DLes.refl {n T e : Nat} {rows : List (List AV)} : ∀ xs : List AV, DLes n T e rows xs xs
  | [] => .nil
  | _ :: xs => .cons (.inr (.inl rfl)) (DLes.refl xs)
def DPickB (n T e : Nat) (rows : List (List AV)) (bl : List (Nat × List AV)) : List (Nat × List AV) → Prop
  | [] => True
  | (k, cs) :: r => (∃ cs0, lookB bl k = some cs0 ∧ DLes n T e rows cs0 cs) ∧ DPickB n T e rows bl r
theorem dPickB_mem {n T e : Nat} {rows : List (List AV)} {bl : List (Nat × List AV)} : ∀ {l : List (Nat × List AV)}, DPickB n T e rows bl l → ∀ k cs, (k, cs) ∈ l → ∃ cs0, lookB bl k = some cs0 ∧ DLes n T e rows cs0 cs
  | [], _, _, _, h => by simp at h
  | (k', cs') :: r, hp, k, cs, h => by
    simp only [DPickB] at hp
    rcases List.mem_cons.1 h with h | h
    · cases h; exact hp.1
    · exact dPickB_mem hp.2 k cs h
theorem weak_dat {E : En} {s s' : St} (n T e : Nat) (rows : List (List AV)) (rest : List AV) (hro : E.ron = []) (hb : lookB s.bl n = some (rows.flatten ++ rest)) (hl : ∀ r ∈ rows, r.length = e) (hD : ∀ x ∈ rows.flatten, plain x = true)
    (h1 : DPick n T e rows s.tm s'.tm) (h2 : DPickB n T e rows s.bl s'.bl) (h3 : refsL (s'.bl.map (·.1)) s'.ow (s'.tm.map (·.2)) = true) (h3' : RefsB (s'.bl.map (·.1)) s'.ow s'.bl) (h4 : s'.ow = s.ow) (hnb : (s'.bl.map (·.1)).any (Nat.beq n) = false) (hpin : ∀ k b U, E.pin k b U → k ∈ s'.bl.map (·.1)) : Weak E s s' := by
  intro g a x hi
  obtain ⟨V, w⟩ := x
  have hm := hi.mem.mem
  have hv := hi.mem.vis
  obtain ⟨b, arr, b1, b2, b3, b4⟩ := hm.blk n _ (lookB_mem hb)
  have hnk : n ∉ s'.bl.map (·.1) := fun h => by
    rw [List.any_eq_true.2 ⟨n, h, by simp⟩] at hnb; cases hnb
  have hflen : rows.flatten.length = rows.length * e := flatten_length hl
  have hasz : rows.length * e ≤ arr.size := by
    have := reps_length b3
    simp only [List.length_append, Array.length_toList] at this
    omega
  have hbB : E.B ≤ b ∨ E.M b := (hm.mfr n b b1).1.resolve_left (by rw [hro]; exact List.not_mem_nil)
  let g' : Gh := { I := fun c o => g.I c o ∨ (c = b ∧ o < rows.length * e), m := fun k => if k ∈ s'.bl.map (·.1) then g.m k else none, om := g.om, ow := g.ow, mt := g.mt }
  have hmm : ∀ k c, g'.m k = some c → k ∈ s'.bl.map (·.1) ∧ g.m k = some c := fun k c h => by
    by_cases e : k ∈ s'.bl.map (·.1)
    · exact ⟨e, by simpa only [g', e, if_true] using h⟩
    · simp only [g', e, if_false] at h; cases h
  have keepI : ∀ c o, g.I c o → g'.I c o := fun c o h => .inl h
  have goes : Goes { g with m := g'.m } w g' w := by
    refine ⟨keepI, fun _ _ _ => rfl, fun k c h => h, fun _ _ _ => rfl, fun k T' e' rows' y hy => ?_, fun _ _ _ _ _ h => h⟩
    refine ownRep_goes (g := { g with m := g'.m }) (g' := g') keepI (fun _ _ _ => rfl) (fun j hj => ⟨hj, rfl⟩) (fun _ _ _ _ => rfl) (fun j c o hj hc hI => ?_) hy
    rcases hI with hI | ⟨rfl, _⟩
    · exact hI
    · exact (hm.disj n j c b1 hj hc).elim
  have refsRep : ∀ (x : AV) (y : Value), refs (s'.bl.map (·.1)) s'.ow x = true → rep g w x y → rep g' w x y := fun x y hr h =>
    rep_goes goes (rep_refs (g := g) (g' := { g with m := g'.m }) (ks := s'.bl.map (·.1)) (os := s'.ow) rfl (fun k c hk hc => by simp only [g', hk, if_true]; exact hc) rfl (fun _ _ h => ⟨h, rfl⟩) hr h)
  have conv : ∀ (y : Value), rep g w (.arr n T e rows.length) y → rep g' w (.sl e rows) y := fun y h => by
    simp only [rep] at h
    obtain ⟨b', c', k1, k2, rfl, k3, _⟩ := h
    have : b' = b := by rw [b1] at k1; exact (Option.some.inj k1).symm
    subst this
    simp only [rep, drep]
    have hdr := dreps_take (I := g'.I) (w' := w) hD b3
    refine ⟨_, c', rfl, .inr ⟨b', 0, rfl, drows_iff.2 ⟨hl, dcells_of_list hdr fun j z hj => ?_⟩⟩, k3⟩
    have hlt : j < rows.flatten.length := by
      have := (List.getElem?_eq_some_iff.1 hj).1
      simp only [List.length_take] at this
      omega
    rw [Nat.zero_add, cell_of_heap b2]
    refine ⟨?_, .inr ⟨rfl, by omega⟩⟩
    rw [List.getElem?_take_of_lt hlt] at hj
    simpa using hj
  have one : ∀ (x v : AV) (y : Value), DLe n T e rows x v → refs (s'.bl.map (·.1)) s'.ow v = true → rep g w x y → rep g' w v y := fun x v y hd hr h => by
    rcases hd with ⟨rfl, rfl⟩ | rfl | rfl
    · exact conv y h
    · exact refsRep _ _ hr h
    · simp [rep]
  refine ⟨g', ⟨⟨⟨hm.below, hm.base, fun c o hc => ?_, fun k c h => hm.mfr k c (hmm k c h).2, fun k c k1 k2 => hm.ofr k c k1 k2, fun k k' c k1 k2 => hm.minj k k' c (hmm k c k1).2 (hmm k' c k2).2, fun k k' c k1 k2 k3 k4 => hm.oinj k k' c k1 k2 k3 k4, fun k k' c k1 k2 k3 => hm.disj k k' c (hmm k c k1).2 k2 k3, fun k cs h => ?_, fun k c h => ?_, fun k h => by rw [h4]; exact hm.own k h, fun c o hc => ?_, fun c o hc => .inl (hm.iold c o hc), fun k c U h => ?_⟩, { I := fun c o hc => hc.elim (hv.I c o) (fun h => h.1 ▸ (hv.m n b b1).1), m := fun k c h => hv.m k c (hmm k c h).2, o := hv.o, sub := hv.sub, lt := hv.lt, up := hv.up, upm := hv.upm, dn := hv.dn, dnm := hv.dnm, nM := hv.nM, ext := hv.ext }⟩, fun t => ?_, hi.de, hi.sz⟩⟩
  · rcases hc with hc | ⟨rfl, ho⟩
    · exact hm.cell c o hc
    · rw [cell_of_heap b2]
      rw [Array.getElem?_eq_getElem (by omega)]
      rfl
  · obtain ⟨cs0, q1, q2⟩ := dPickB_mem h2 k cs h
    obtain ⟨c, ar, k1, k2, k3, k4⟩ := hm.blk k cs0 (lookB_mem q1)
    have hk : k ∈ s'.bl.map (·.1) := List.mem_map.2 ⟨_, h, rfl⟩
    have hrf := refsB_mem h3' _ h
    have go : ∀ (xs vs : List AV) (ys : List Value), DLes n T e rows xs vs → refsL (s'.bl.map (·.1)) s'.ow vs = true → reps g w xs ys → reps g' w vs ys := by
      intro xs vs ys hd
      induction hd generalizing ys with
      | nil => intro _ h; simpa [reps] using h
      | cons h hs ih =>
        intro hr hq
        simp only [refsL, Bool.and_eq_true] at hr
        simp only [reps] at hq ⊢
        obtain ⟨y, zs, e1, q3, q4⟩ := hq
        exact ⟨y, zs, e1, one _ _ _ h hr.1 q3, ih _ hr.2 q4⟩
    refine ⟨c, ar, by simp only [g', hk, if_true]; exact k1, k2, go _ _ _ q2 hrf k3, fun o ho => ?_⟩
    rcases ho with ho | ⟨rfl, _⟩
    · exact k4 o ho
    · have := hm.minj k n c k1 b1
      subst this
      exact hnk hk
  · obtain ⟨h7, _⟩ := hmm k c h
    obtain ⟨p, hp, rfl⟩ := List.mem_map.1 h7
    exact ⟨p.2, hp⟩
  · rcases hc with hc | ⟨rfl, _⟩
    · exact hm.inew c o hc
    · exact .inr hbB
  · have hk := hpin k c U h
    obtain ⟨p1, p2⟩ := hm.pin k c U h
    exact ⟨by simp only [g', hk, if_true]; exact p1, p2⟩
  · have pick : ∀ (l : List (Nat × AV)), DPick n T e rows s.tm l → look l t = .top ∨ DLe n T e rows (look s.tm t) (look l t) := by
      intro l
      induction l with
      | nil => intro _; exact .inl rfl
      | cons p l ih =>
        intro hp
        obtain ⟨k, v⟩ := p
        simp only [DPick] at hp
        simp only [look]
        cases hb' : Nat.beq k t
        · exact ih hp.2
        · have := Nat.eq_of_beq_eq_true hb'
          subst this
          exact .inr hp.1
    rcases pick _ h1 with h | h
    · rw [h]; simp [rep]
    · rcases look_mem (tm := s'.tm) (t := t) with h7 | h7
      · rw [h7]; simp [rep]
      · exact one _ _ _ h (refsL_mem h3 h7) (hi.tm t)
end Go.Eng
