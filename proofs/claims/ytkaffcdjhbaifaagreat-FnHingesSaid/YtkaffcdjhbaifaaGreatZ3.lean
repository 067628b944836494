/- My walking engine, part 3: abstract values of Go, and the rules of a walk over them. No program in sight. -/
import Derived.Test.YtkaffcdjhbaifaaGreatZ2
import Derived.ArgAppend
namespace Go.Eng
open Go

/- Behind an append the old slice of that name is seen as data alone. -/
mutual
def kill (n : Nat) : AV → AV
  | .agg cs => .agg (killL n cs)
  | .tup cs => .tup (killL n cs)
  | .own k T e rows => bif Nat.beq k n then .sl e rows else .own k T e rows
  | .fn f fs cs => .fn f (killL n fs) (killL n cs)
  | .top => .top
  | .v x => .v x
  | .sl e rows => .sl e rows
  | .ptr k o => .ptr k o
  | .eptr cs => .eptr cs
  | .arr k T e l => .arr k T e l
def killL (n : Nat) : List AV → List AV
  | [] => []
  | x :: xs => kill n x :: killL n xs
end
mutual
def killO (n : Nat) : AV → Option AV
  | .agg cs => match killOL n cs with | some r => some (.agg r) | none => none
  | .tup cs => match killOL n cs with | some r => some (.tup r) | none => none
  | .own k T e rows => bif Nat.beq k n then some (.sl e rows) else some (.own k T e rows)
  | .fn f fs cs => match killOL n fs with
    | none => none
    | some a => match killOL n cs with | some b => some (.fn f a b) | none => none
  | .top => some .top
  | .v x => some (.v x)
  | .sl e rows => some (.sl e rows)
  | .ptr k o => some (.ptr k o)
  | .eptr cs => some (.eptr cs)
  | .arr k T e l => some (.arr k T e l)
def killOL (n : Nat) : List AV → Option (List AV)
  | [] => some []
  | x :: xs => match killO n x with
    | none => none
    | some y => match killOL n xs with | some r => some (y :: r) | none => none
end
mutual
theorem killO_eq {n : Nat} : ∀ (x : AV), killO n x = some (kill n x)
  | .agg cs => by simp only [killO, killOL_eq cs, kill]
  | .tup cs => by simp only [killO, killOL_eq cs, kill]
  | .own k T e rows => by simp only [killO, kill]; cases Nat.beq k n <;> rfl
  | .fn f a b => by simp only [killO, killOL_eq a, killOL_eq b, kill]
  | .top => by simp only [killO, kill]
  | .v x => by simp only [killO, kill]
  | .sl e rows => by simp only [killO, kill]
  | .ptr k o => by simp only [killO, kill]
  | .eptr cs => by simp only [killO, kill]
  | .arr k T e l => by simp only [killO, kill]
theorem killOL_eq {n : Nat} : ∀ (xs : List AV), killOL n xs = some (killL n xs)
  | [] => by simp only [killOL, killL]
  | x :: xs => by simp only [killOL, killO_eq x, killOL_eq xs, killL]
end
def killT (n : Nat) : List (Nat × AV) → List (Nat × AV)
  | [] => []
  | (k, x) :: r => (k, kill n x) :: killT n r
def killTO (n : Nat) : List (Nat × AV) → Option (List (Nat × AV))
  | [] => some []
  | (k, x) :: r => match killO n x with
    | none => none
    | some y => match killTO n r with | some s => some ((k, y) :: s) | none => none
theorem killTO_eq {n : Nat} : ∀ (l : List (Nat × AV)), killTO n l = some (killT n l)
  | [] => rfl
  | (k, x) :: r => by simp only [killTO, killO_eq x, killTO_eq r, killT]
def killB (n : Nat) : List (Nat × List AV) → List (Nat × List AV)
  | [] => []
  | (k, x) :: r => (k, killL n x) :: killB n r
def killBO (n : Nat) : List (Nat × List AV) → Option (List (Nat × List AV))
  | [] => some []
  | (k, x) :: r => match killOL n x with
    | none => none
    | some y => match killBO n r with | some s => some ((k, y) :: s) | none => none
theorem killBO_eq {n : Nat} : ∀ (l : List (Nat × List AV)), killBO n l = some (killB n l)
  | [] => rfl
  | (k, x) :: r => by simp only [killBO, killOL_eq x, killBO_eq r, killB]
theorem look_killT {n t : Nat} : ∀ (l : List (Nat × AV)), look (killT n l) t = kill n (look l t)
  | [] => by simp [killT, look, kill]
  | (k, x) :: r => by
    simp only [killT, look]
    cases Nat.beq k t
    · exact look_killT r
    · rfl
theorem mem_killB {n k : Nat} {ds : List AV} : ∀ {l : List (Nat × List AV)}, (k, ds) ∈ killB n l → ∃ cs, (k, cs) ∈ l ∧ ds = killL n cs
  | [], h => by simp [killB] at h
  | (j, x) :: r, h => by
    simp only [killB, List.mem_cons, Prod.mk.injEq] at h
    rcases h with ⟨rfl, rfl⟩ | h
    · exact ⟨x, by simp, rfl⟩
    · obtain ⟨cs, h1, h2⟩ := mem_killB h
      exact ⟨cs, by simp [h1], h2⟩
theorem mem_killB' {n k : Nat} {cs : List AV} : ∀ {l : List (Nat × List AV)}, (k, cs) ∈ l → (k, killL n cs) ∈ killB n l
  | [], h => by simp at h
  | (j, x) :: r, h => by
    simp only [killB, List.mem_cons, Prod.mk.injEq] at h ⊢
    rcases h with ⟨rfl, rfl⟩ | h
    · exact .inl ⟨rfl, rfl⟩
    · exact .inr (mem_killB' h)

section
variable {g g' : Gh} {w w' : World} {n : Nat}
mutual
theorem rep_kill (hI : ∀ b o, g.I b o → g'.I b o) (hk : Keeps g.I w w') (hm : ∀ k b, g.m k = some b → g'.m k = some b) (ht : g'.mt = g.mt)
    (ho : ∀ k T e rows y, k ≠ n → ownRep g w k T e rows y → ownRep g' w' k T e rows y) (hz : ∀ k b j, 7000000 ≤ k → g.m k = some b → Cap w b j → Cap w' b j) : ∀ {x : AV} {y : Value}, rep g w x y → rep g' w' (kill n x) y
  | .top, _, _ => by simp [kill, rep]
  | .v x, y, h => by simpa [kill, rep] using h
  | .agg cs, y, h => by
    simp only [rep, kill] at h ⊢
    obtain ⟨a, e, h⟩ := h
    exact ⟨a, e, reps_kill hI hk hm ht ho hz h⟩
  | .tup cs, y, h => by
    simp only [rep, kill] at h ⊢
    obtain ⟨a, e, h⟩ := h
    exact ⟨a, e, reps_kill hI hk hm ht ho hz h⟩
  | .sl e rows, y, h => by
    simp only [rep, kill] at h ⊢
    exact drep_mono hI hk h
  | .own k T e rows, y, h => by
    simp only [kill]
    cases hb : Nat.beq k n
    · simp only [cond_false, rep] at h ⊢
      exact ho k T e rows y (fun e => by subst e; simp at hb) h
    · simp only [cond_true, rep] at h ⊢
      exact drep_mono hI hk (drep_of_own h)
  | .ptr k off, y, h => by
    simp only [rep, kill] at h ⊢
    obtain ⟨b, h1, h2⟩ := h
    exact ⟨b, hm _ _ h1, h2⟩
  | .eptr cs, y, h => by
    simp only [rep, kill] at h ⊢
    obtain ⟨b, o, h1, h2⟩ := h
    exact ⟨b, o, h1, dcells_mono hI hk h2⟩
  | .fn f fs cs, y, h => by
    simp only [rep, kill] at h ⊢
    obtain ⟨a, b, h1, h2, h3⟩ := h
    exact ⟨a, b, h1, reps_kill hI hk hm ht ho hz h2, reps_kill hI hk hm ht ho hz h3⟩
  | .arr k T e len, y, h => by
    simp only [rep, kill] at h ⊢
    obtain ⟨b, c, h1, h2, h3, h4, h5, h6⟩ := h
    exact ⟨b, c, hm _ _ h1, by rw [ht]; exact h2, h3, h4, h5, fun h7 => ⟨(h6 h7).1, hz _ _ _ h7 h1 (h6 h7).2⟩⟩
theorem reps_kill (hI : ∀ b o, g.I b o → g'.I b o) (hk : Keeps g.I w w') (hm : ∀ k b, g.m k = some b → g'.m k = some b) (ht : g'.mt = g.mt)
    (ho : ∀ k T e rows y, k ≠ n → ownRep g w k T e rows y → ownRep g' w' k T e rows y) (hz : ∀ k b j, 7000000 ≤ k → g.m k = some b → Cap w b j → Cap w' b j) : ∀ {xs : List AV} {ys : List Value}, reps g w xs ys → reps g' w' (killL n xs) ys
  | [], ys, h => by simpa [killL, reps] using h
  | x :: xs, ys, h => by
    simp only [reps, killL] at h ⊢
    obtain ⟨y, zs, e, h1, h2⟩ := h
    exact ⟨y, zs, e, rep_kill hI hk hm ht ho hz h1, reps_kill hI hk hm ht ho hz h2⟩
end
end

theorem Mem.grown {E : En} {g : Gh} {bl : List (Nat × List AV)} {ow : List Nat} {w w' : World} (h : Mem E g bl ow w) {n T e : Nat} {rows rows' : List (List AV)} {y y' : Value} (hy : ownRep g w n T e rows y) {xs' : List Value}
    (h1 : w'.os = w.os) (h2 : w'.tape = w.tape) (h3 : w'.output = w.output) (h4 : w.heap.size ≤ w'.heap.size) (hblk : ∀ k, k < w.heap.size → g.om n ≠ some k → w'.heap[k]? = w.heap[k]?)
    (hkeep : ∀ b o, g.om n = some b → o < rows.length * e → w'.cell? ⟨b, o, none⟩ = w.cell? ⟨b, o, none⟩) (hnew : ∀ b, y'.ownBlock = some b → g.om n = some b ∨ w.heap.size ≤ b)
    (hr : w'.ownsRow 0 T e y' rows'.length xs') (hd : dreps g.I w rows'.flatten xs') (hl : ∀ r ∈ rows', r.length = e) (hlen : rows.length ≤ rows'.length) :
    ∃ g', (∀ x v, rep g w x v → rep g' w' (kill n x) v) ∧ Mem E g' (killB n bl) ow w' ∧ ownRep g' w' n T e rows' y' := by
  obtain ⟨hw, hob, xs, hown, hdr, hl0, hIn⟩ := hy
  let g' : Gh := { g with I := fun b o => g.I b o ∨ (y'.ownBlock = some b ∧ o < rows'.length * e), om := fun k => if k = n then y'.ownBlock else g.om k }
  have hIlt : ∀ b o, g.I b o → b < w.heap.size := fun b o hb => cell_lt (h.cell b o hb)
  have hmul : rows.length * e ≤ rows'.length * e := Nat.mul_le_mul_right _ hlen
  have keeps : Keeps g.I w w' := fun b o hb => by
    by_cases hn : g.om n = some b
    · refine hkeep b o hn ?_
      rcases Nat.lt_or_ge o (rows.length * e) with h5 | h5
      · exact h5
      · exact ((hIn b hn).2 o h5 hb).elim
    · exact World.cell?_of_block (a := ⟨b, o, none⟩) (hblk b (hIlt b o hb) hn)
  have hI : ∀ b o, g.I b o → g'.I b o := fun b o hb => .inl hb
  have hob' : ∀ k b, g.ow k → g'.om k = some b → (k = n ∧ y'.ownBlock = some b) ∨ (k ≠ n ∧ g.om k = some b) := fun k b _ h5 => by
    by_cases hk : k = n
    · simp only [g', hk, if_true] at h5; exact .inl ⟨hk, h5⟩
    · simp only [g', hk, if_false] at h5; exact .inr ⟨hk, h5⟩
  have ho : ∀ k T e rows y, k ≠ n → ownRep g w k T e rows y → ownRep g' w' k T e rows y := fun k T0 e0 rows0 y0 hk hy0 => by
    obtain ⟨q1, q2, ys, q3, q4, q5, q6⟩ := hy0
    have hom : g'.om k = g.om k := by simp only [g', hk, if_false]
    refine ⟨q1, by rw [hom]; exact q2, ys, ownsRow_of_heap q3 fun b hb => hblk b (ownsRow_lt q3 hb) fun h5 => hk (h.oinj k n b q1 hw (by rw [← q2]; exact hb) h5), dreps_mono hI keeps q4, q5, fun b hb => ?_⟩
    rw [hom] at hb
    refine ⟨fun o h5 => .inl ((q6 b hb).1 o h5), fun o h5 h6 => ?_⟩
    rcases h6 with h6 | ⟨h6, _⟩
    · exact (q6 b hb).2 o h5 h6
    · rcases hnew b h6 with h7 | h7
      · exact hk (h.oinj k n b q1 hw hb h7)
      · have := (h.ofr k b q1 hb).2; omega
  have hz : ∀ k b j, 7000000 ≤ k → g.m k = some b → Cap w b j → Cap w' b j := fun k b j _ hk hc => hc.same (hblk b hc.lt fun h5 => h.disj k n b hk hw h5)
  have hrep : ∀ x v, rep g w x v → rep g' w' (kill n x) v := fun x v hx => rep_kill hI keeps (fun _ _ h => h) rfl ho hz hx
  refine ⟨g', hrep, ?_, hw, by simp only [g', if_true], xs', hr, dreps_mono hI keeps hd, hl, fun b hb => ?_⟩
  · refine { below := ⟨h1.trans h.below.os, h2.trans h.below.tape, h3.trans h.below.output, Nat.le_trans h.below.size h4, fun k hk hM => (hblk k (Nat.lt_of_lt_of_le hk h.base) fun h5 => ?_).trans (h.below.block k hk hM)⟩,
             base := Nat.le_trans h.base h4, cell := fun b o hb => ?_, mfr := fun k b hk => ⟨(h.mfr k b hk).1, Nat.lt_of_lt_of_le (h.mfr k b hk).2 h4⟩, ofr := fun k b k1 k2 => ?_, minj := h.minj, oinj := fun k k' b k1 k1' k2 k2' => ?_, disj := fun k k' b k1 k2 k3 => ?_,
             blk := fun k ds hk => ?_, key := fun k b hk => ?_, own := h.own, inew := fun b o hb => ?_, iold := fun b o hb => .inl (h.iold b o hb), pin := h.pin }
    · exact (h.ofr n k hw h5).1.elim (fun h => by omega) hM
    · rcases hb with hb | ⟨hb, ho⟩
      · rw [keeps b o hb]; exact h.cell b o hb
      · rcases hr.2 with ⟨rfl, _⟩ | ⟨b', cap, cur, rfl, _, q1, q2, q3, q4, q5⟩
        · simp [Value.ownBlock] at hb
        · simp only [Value.ownBlock, Option.some.injEq] at hb
          subst hb
          rw [cell_of_heap q1]
          have : rows'.length * e ≤ cap * e := Nat.mul_le_mul_right _ q2
          rw [Array.getElem?_eq_getElem (by omega)]; rfl
    · rcases hob' k b k1 k2 with ⟨rfl, k3⟩ | ⟨_, k3⟩
      · refine ⟨?_, ownsRow_lt hr k3⟩
        rcases hnew b k3 with k4 | k4
        · exact (h.ofr k b k1 k4).1
        · exact .inl (Nat.le_trans h.base k4)
      · exact ⟨(h.ofr k b k1 k3).1, Nat.lt_of_lt_of_le (h.ofr k b k1 k3).2 h4⟩
    · rcases hob' k b k1 k2 with ⟨rfl, k3⟩ | ⟨hk, k3⟩ <;> rcases hob' k' b k1' k2' with ⟨rfl, k4⟩ | ⟨hk', k4⟩
      · rfl
      · rcases hnew b k3 with k5 | k5
        · exact h.oinj _ _ b k1 k1' k5 k4
        · have := (h.ofr k' b k1' k4).2; omega
      · rcases hnew b k4 with k5 | k5
        · exact h.oinj _ _ b k1 k1' k3 k5
        · have := (h.ofr k b k1 k3).2; omega
      · exact h.oinj _ _ b k1 k1' k3 k4
    · rcases hob' k' b k2 k3 with ⟨rfl, k4⟩ | ⟨_, k4⟩
      · rcases hnew b k4 with k5 | k5
        · exact h.disj k _ b k1 k2 k5
        · have := (h.mfr k b k1).2; omega
      · exact h.disj k k' b k1 k2 k4
    · obtain ⟨cs, k1, rfl⟩ := mem_killB hk
      obtain ⟨b, arr, q1, q2, q3, q4⟩ := h.blk k cs k1
      refine ⟨b, arr, q1, (hblk b (h.mfr k b q1).2 fun h5 => h.disj k n b q1 hw h5).trans q2, reps_kill hI keeps (fun _ _ h => h) rfl ho hz q3, fun o h5 => ?_⟩
      rcases h5 with h5 | ⟨h5, _⟩
      · exact q4 o h5
      · rcases hnew b h5 with h6 | h6
        · exact h.disj k n b q1 hw h6
        · have := (h.mfr k b q1).2; omega
    · obtain ⟨cs, k1⟩ := h.key k b hk
      exact ⟨_, mem_killB' k1⟩
    · rcases hb with hb | ⟨hb, _⟩
      · exact h.inew b o hb
      · rcases hnew b hb with h5 | h5
        · exact .inr (h.ofr n b hw h5).1
        · exact .inr (.inl (Nat.le_trans h.base h5))
  · simp only [g', if_true] at hb
    refine ⟨fun o h5 => .inr ⟨hb, h5⟩, fun o h5 h6 => ?_⟩
    rcases h6 with h6 | ⟨_, h6⟩
    · rcases hnew b hb with h7 | h7
      · exact (hIn b h7).2 o (by omega) h6
      · have := hIlt b o h6; omega
    · omega

theorem Mem.nilOwn {E : En} {g : Gh} {bl : List (Nat × List AV)} {ow : List Nat} {w : World} (h : Mem E g bl ow w) (n T e : Nat) (hn : n ∉ ow) : ∃ g', Goes g w g' w ∧ Mem E g' bl (n :: ow) w ∧ ownRep g' w n T e [] (.slice none 0 0) := by
  have hno : ¬ g.ow n := fun hw => hn (h.own n hw)
  let g' : Gh := { g with ow := fun k => k = n ∨ g.ow k, om := fun k => if k = n then none else g.om k }
  have hob : ∀ k b, g'.ow k → g'.om k = some b → g.ow k ∧ g.om k = some b := fun k b h1 h2 => by
    by_cases hk : k = n
    · simp only [g', hk, if_true] at h2; cases h2
    · simp only [g', hk, if_false, false_or] at h1 h2; exact ⟨h1, h2⟩
  have how : ∀ k, g.ow k → g'.ow k ∧ g'.om k = g.om k := fun k hk => ⟨.inr hk, by
    have : k ≠ n := fun e => hno (e ▸ hk)
    simp only [g', this, if_false]⟩
  have goes : Goes g w g' w := ⟨fun _ _ h => h, fun _ _ _ => rfl, fun _ _ h => h, fun _ _ _ => rfl, fun k T0 e0 rows y hy => ownRep_goes (g := g) (g' := g') (fun _ _ h => h) (fun _ _ _ => rfl) how (fun _ _ _ _ => rfl) (fun _ _ _ _ _ h => h) hy, fun _ _ _ _ _ h => h⟩
  refine ⟨g', goes, ⟨h.below, h.base, h.cell, h.mfr, fun k b k1 k2 => h.ofr k b (hob k b k1 k2).1 (hob k b k1 k2).2, h.minj, fun k k' b k1 k1' k2 k2' => h.oinj k k' b (hob k b k1 k2).1 (hob k' b k1' k2').1 (hob k b k1 k2).2 (hob k' b k1' k2').2,
    fun k k' b k1 k2 k3 => h.disj k k' b k1 (hob k' b k2 k3).1 (hob k' b k2 k3).2, fun k cs hk => ?_, h.key, fun k hk => ?_, h.inew, h.iold, h.pin⟩, .inl rfl, by simp only [g', if_true]; rfl, [], ⟨by simp, .inl ⟨rfl, rfl⟩⟩, by simp [dreps], by simp, fun b hb => by simp only [g', if_true] at hb; cases hb⟩
  · obtain ⟨b, arr, q1, q2, q3, q4⟩ := h.blk k cs hk
    exact ⟨b, arr, q1, q2, reps_goes goes q3, q4⟩
  · rcases hk with rfl | hk
    · simp
    · exact List.mem_cons_of_mem _ (h.own k hk)

theorem drows_flat {I : Nat → Nat → Prop} {w : World} {rows : List (List AV)} {e b o : Nat} (h : drows I w e b o rows) : ∃ zs, dreps I w rows.flatten zs ∧ zs.length = rows.length * e ∧ ∀ j z, zs[j]? = some z → w.cell? ⟨b, o + j, none⟩ = some z := by
  obtain ⟨h1, h2⟩ := drows_iff.1 h
  obtain ⟨zs, g1, g2, g3⟩ := dcells_list h2
  exact ⟨zs, g1, by rw [g2, flatten_length h1], fun j z hz => (g3 j z hz).1⟩
theorem cells_one {g : Gh} {w : World} : ∀ {xs : List AV} {ys : List Value}, dreps g.I w xs ys → (∀ x ∈ xs, isCell x = true) → ∀ u ∈ ys, u.oneCell' = true
  | [], ys, h, _, u, hu => by simp only [dreps] at h; subst h; simp at hu
  | x :: xs, ys, h, hc, u, hu => by
    simp only [dreps] at h
    obtain ⟨z, zs, rfl, k1, k2⟩ := h
    rcases List.mem_cons.1 hu with rfl | hu
    · exact oneCell_of (rep_of_drep k1) (hc x (by simp))
    · exact cells_one k2 (fun x hx => hc x (by simp [hx])) u hu

theorem append_own {E : En} {g : Gh} {bl : List (Nat × List AV)} {ow : List Nat} {w : World} (hm : Mem E g bl ow w) {t n T e by_ ty : Nat} [hs : SlOk E.P t T e by_] {rows rows2 : List (List AV)} {y u : Value} (hy : ownRep g w n T e rows y) (hu : drep g.I w (.sl e rows2) u)
    (hcell : ∀ x ∈ rows2.flatten, isCell x = true) (hl2 : ∀ r ∈ rows2, r.length = e) (hl : rows.length + rows2.length ≤ 1048576) (hb : Nat.ble by_ 134217728 = true) :
    ∃ y' w' g', (Builtin.append_ #[t, t] ty #[y, u]).run E.P w = .ok y' w' ∧ (∀ x v, rep g w x v → rep g' w' (kill n x) v) ∧ Mem E g' (killB n bl) ow w' ∧ ownRep g' w' n T e (rows ++ rows2) y' := by
  obtain ⟨in0, iz, i1, i2, i3, i4, i5⟩ := hs.info
  have hb := Nat.le_of_ble_eq_true hb
  have hbytes : (rows.length + rows2.length) * by_ ≤ 140737488355328 := Nat.le_trans (Nat.mul_le_mul hl hb) (by decide)
  have hmax : rows.length + rows2.length ≤ maxLen := by unfold maxLen; omega
  have hy0 := hy
  obtain ⟨hw, hob, xs, hown, hdr, hl0, hIn⟩ := hy
  have hlr : ∀ r ∈ rows ++ rows2, r.length = e := fun r hr => by
    rcases List.mem_append.1 hr with hr | hr
    · exact hl0 r hr
    · exact hl2 r hr
  simp only [drep] at hu
  obtain ⟨A, c, rfl, hA, hc⟩ := hu
  by_cases hz : rows2 = []
  · subst hz
    have hrun : (Builtin.append_ #[t, t] ty #[y, .slice A 0 c]).run E.P w = .ok y w := by
      rcases hown.2 with ⟨rfl, _⟩ | ⟨g0, cap, cur, rfl, _, _, hnc, _⟩
      · simp [Builtin.append_, run_underlying hs.und, sizeOf, typeInfo, i1, Builtin.lenOf, Builtin.firstCells]
        try (cases A <;> simp [loadCells, loadCellsFrom])
      · simp [Builtin.append_, run_underlying hs.und, sizeOf, typeInfo, i1, Builtin.lenOf, Builtin.firstCells, hnc]
        try (cases A <;> simp [loadCells, loadCellsFrom, storeCells])
    obtain ⟨g', k1, k2, k3⟩ := hm.grown (rows' := rows) (y' := y) (w' := w) hy0 rfl rfl rfl (Nat.le_refl _) (fun _ _ _ => rfl) (fun _ _ _ _ => rfl) (fun b hb => .inl (by rw [← hob]; exact hb)) hown hdr hl0 (Nat.le_refl _)
    exact ⟨y, w, g', hrun, k1, k2, by rw [List.append_nil]; exact k3⟩
  · obtain ⟨b2, o2, rfl, hrows⟩ := hA.resolve_left hz
    obtain ⟨news, n1, n2, n3⟩ := drows_flat hrows
    have hnews : ∀ j z, news[j]? = some z → w.cell? ((⟨b2, o2, none⟩ : Addr).add j) = some z := fun j z hj => by rw [addr_add]; exact n3 j z hj
    have hone := cells_one n1 hcell
    have hd' : dreps g.I w (rows ++ rows2).flatten (xs ++ news) := by rw [List.flatten_append]; exact dreps_append hdr n1
    have hlen : (rows ++ rows2).length = rows.length + rows2.length := List.length_append
    have grows : (∃ v' w', (Builtin.append_ #[t, t] ty #[y, .slice (some ⟨b2, o2, none⟩) rows2.length c]).run E.P w = .ok v' w' ∧ w'.ownsRow w.heap.size T e v' (rows.length + rows2.length) (xs ++ news) ∧ w.grownBy w' none) →
        ∃ y' w' g', (Builtin.append_ #[t, t] ty #[y, .slice (some ⟨b2, o2, none⟩) rows2.length c]).run E.P w = .ok y' w' ∧ (∀ x v, rep g w x v → rep g' w' (kill n x) v) ∧ Mem E g' (killB n bl) ow w' ∧ ownRep g' w' n T e (rows ++ rows2) y' := by
      rintro ⟨v', w', r1, r2, r3⟩
      obtain ⟨g', k1, k2, k3⟩ := hm.grown (rows' := rows ++ rows2) (y' := v') (w' := w') hy0 r3.os r3.tape r3.output r3.size (fun k hk _ => r3.block k hk (by simp)) (fun b o hb _ => World.cell?_of_block (a := ⟨b, o, none⟩) (r3.block b (hm.ofr n b hw hb).2 (by simp)))
        (fun b hb => .inr (by
          rcases r2.2 with ⟨rfl, _⟩ | ⟨b', cap, cur, rfl, q0, _⟩
          · simp [Value.ownBlock] at hb
          · simp only [Value.ownBlock, Option.some.injEq] at hb
            omega))
        (by
          rw [hlen]
          refine ⟨r2.1, ?_⟩
          rcases r2.2 with q | ⟨b', cap, cur, q1, q0, q2⟩
          · exact .inl q
          · exact .inr ⟨b', cap, cur, q1, Nat.zero_le _, q2⟩) hd' hlr (by rw [hlen]; omega)
      exact ⟨v', w', g', r1, k1, k2, k3⟩
    rcases hown.2 with ⟨rfl, h0⟩ | ⟨b, cap, cur, rfl, _, q1, q2, q3, q4, q5⟩
    · have h00 : rows = [] := List.length_eq_zero_iff.1 h0
      subst h00
      have hx : xs = [] := by have := hown.1; simpa using this
      subst hx
      refine grows ?_
      obtain ⟨v', w', r1, r2, r3, _⟩ := run_append_own (P := E.P) w w.heap.size t ty T in0 iz e by_ hs.und i1 i2 i3 i4 i5 hs.pos (.slice none 0 0) 0 [] ⟨by simp, .inl ⟨rfl, rfl⟩⟩ ⟨b2, o2, none⟩ rows2.length c news n2 hnews hone (by simpa using hmax) (by simpa using hbytes) (Nat.le_refl _)
      exact ⟨v', w', r1, by simpa using r2, r3⟩
    · by_cases hroom : rows.length + rows2.length ≤ cap
      · obtain ⟨w', r1, r2, r3⟩ := run_append_fits (P := E.P) w 0 t ty T in0 e hs.und i1 i3 b rows.length cap xs hown ⟨b2, o2, none⟩ rows2.length c news n2 hnews hone hroom
        have hob' : g.om n = some b := hob.symm
        obtain ⟨g', k1, k2, k3⟩ := hm.grown (rows' := rows ++ rows2) (y' := .slice (some ⟨b, 0, none⟩) (rows.length + rows2.length) cap) (w' := w') hy0 r3.os r3.tape r3.output r3.size (fun k hk h5 => r3.block k hk fun h6 => h5 (by rw [hob', h6]))
          (fun b' o h5 h6 => by
            rw [hob'] at h5
            cases h5
            rw [World.ownsRow.cellAt r2 o (Nat.lt_of_lt_of_le h6 (Nat.mul_le_mul_right _ (by omega))), World.ownsRow.cellAt hown o h6, List.getElem?_append_left (by rw [hown.1]; exact h6)])
          (fun b' hb' => .inl (by rw [hob']; exact hb')) (by rw [hlen]; exact r2) hd' hlr (by rw [hlen]; omega)
        exact ⟨_, w', g', r1, k1, k2, k3⟩
      · refine grows ?_
        have holds : ∀ j z, xs[j]? = some z → w.cell? ((⟨b, 0, none⟩ : Addr).add j) = some z := hown.cells (g := b) rfl
        exact run_append_arg_grows (P := E.P) w t ty T in0 iz e by_ hs.und i1 i2 i3 i4 i5 hs.pos ⟨b, 0, none⟩ rows.length cap xs hown.1 holds ⟨b2, o2, none⟩ rows2.length c news n2 hnews (by omega) hmax hbytes

section
variable {E : En} {ops : Array Oper} {rest : List Oper} {Q : Exit → St → Prop} {tm tm1 : List (Nat × AV)} {bl bl1 : List (Nat × List AV)} {ow : List Nat} {d : Nat} {ty : TypeId} {pos : String} {af : Array Edge}
theorem wapp {x y : Operand} {t n T e by_ : Nat} {rows rows2 : List (List AV)} {yv : AV} [hs : SlOk E.P t T e by_] (hx : ev tm x = .own n T e rows) (hy : ev tm y = yv) (hr : arows yv = some (e, rows2)) (hcell : ∀ x ∈ rows2.flatten, isCell x = true) (hl2 : ∀ r ∈ rows2, r.length = e) (hl : rows.length + rows2.length ≤ 1048576) (hb : Nat.ble by_ 134217728 = true) (hd : Nat.blt d E.nt = true)
    (ht : killTO n tm = some tm1) (hbl : killBO n bl = some bl1) (hk : WL E ops rest Q ⟨(d, .own n T e (rows ++ rows2)) :: tm1, bl1, ow⟩) : WL E ops (⟨some d, .call ⟨.builtin .append, #[x, y], #[t, t]⟩, ty, pos, af, none⟩ :: rest) Q ⟨tm, bl, ow⟩ := by
  intro g a w hi
  unfold wpListIn
  rw [show Region.wanted ⟨some d, .call ⟨.builtin .append, #[x, y], #[t, t]⟩, ty, pos, af, none⟩ (yielded ops a.tmps) = true by simp [Region.wanted]]
  refine wpIn_of_wp (fun _ h => by cases h) ?_
  have h1 := rep_ev hi.tm x
  have h2 := rep_ev hi.tm y
  rw [hx] at h1; rw [hy] at h2
  simp only [rep] at h1
  obtain ⟨y', w', g', r1, r2, r3, r4⟩ := append_own (t := t) (ty := ty) hi.mem h1 (drep_arows h2 hr) hcell hl2 hl hb
  rw [killTO_eq] at ht
  rw [killBO_eq] at hbl
  cases ht
  cases hbl
  unfold Oper.wp
  have hrun : (execOp a.eval ⟨some d, .call ⟨.builtin .append, #[x, y], #[t, t]⟩, ty, pos, af, none⟩).run E.P w = .ok (.value y') w' := by
    simp [execOp, resolve, invoke, builtin, r1]
  rw [hrun]
  have hi' : Inv E g' ⟨killT n tm, killB n bl, ow⟩ a w' := ⟨r3, fun t => by rw [look_killT]; exact r2 _ _ (hi.tm t), hi.de, hi.sz⟩
  have := hi'.app (d := some d) (v := .own n T e (rows ++ rows2)) (y := y') (nb := []) (no := []) (fun k hk => by cases hk; exact Nat.le_of_ble_eq_true hd) (Goes.refl _ _) (by simpa using r3) (by simp only [rep]; exact r4)
  exact hk g' _ w' this
theorem wappE {x y : Operand} {t n T e by_ : Nat} {rows rows2 out : List (List AV)} {yv : AV} [hs : SlOk E.P t T e by_] (hx : ev tm x = .own n T e rows) (hy : ev tm y = yv) (hr : arows yv = some (e, rows2)) (hcell : ∀ x ∈ rows2.flatten, isCell x = true) (hl2 : ∀ r ∈ rows2, r.length = e) (hl : rows.length + rows2.length ≤ 1048576) (hb : Nat.ble by_ 134217728 = true) (hd : Nat.blt d E.nt = true)
    (ho : rows ++ rows2 = out) (ht : killTO n tm = some tm1) (hbl : killBO n bl = some bl1) (hk : WL E ops rest Q ⟨(d, .own n T e out) :: tm1, bl1, ow⟩) : WL E ops (⟨some d, .call ⟨.builtin .append, #[x, y], #[t, t]⟩, ty, pos, af, none⟩ :: rest) Q ⟨tm, bl, ow⟩ := by
  subst ho
  exact wapp hx hy hr hcell hl2 hl hb hd ht hbl hk
end

/- A result whose slices are seen as data. -/
mutual
def datO : AV → Option AV
  | .agg cs => match datOL cs with | some r => some (.agg r) | none => none
  | .tup cs => match datOL cs with | some r => some (.tup r) | none => none
  | .own _ _ e rows => some (.sl e rows)
  | x => some x
def datOL : List AV → Option (List AV)
  | [] => some []
  | x :: xs => match datO x with
    | none => none
    | some y => match datOL xs with | some r => some (y :: r) | none => none
end
mutual
theorem rep_dat {g : Gh} {w : World} : ∀ {x z : AV} {y : Value}, datO x = some z → rep g w x y → rep g w z y
  | .agg cs, z, y, h, hr => by
    simp only [datO] at h
    split at h
    · rename_i r hr'
      cases h
      simp only [rep] at hr ⊢
      obtain ⟨a, e, hr⟩ := hr
      exact ⟨a, e, reps_dat hr' hr⟩
    · cases h
  | .tup cs, z, y, h, hr => by
    simp only [datO] at h
    split at h
    · rename_i r hr'
      cases h
      simp only [rep] at hr ⊢
      obtain ⟨a, e, hr⟩ := hr
      exact ⟨a, e, reps_dat hr' hr⟩
    · cases h
  | .own n T e rows, z, y, h, hr => by
    simp only [datO] at h
    cases h
    simp only [rep] at hr ⊢
    exact drep_of_own hr
  | .top, z, y, h, hr => by simp only [datO] at h; cases h; exact hr
  | .v x, z, y, h, hr => by simp only [datO] at h; cases h; exact hr
  | .sl e rows, z, y, h, hr => by simp only [datO] at h; cases h; exact hr
  | .ptr n o, z, y, h, hr => by simp only [datO] at h; cases h; exact hr
  | .eptr cs, z, y, h, hr => by simp only [datO] at h; cases h; exact hr
  | .fn f a b, z, y, h, hr => by simp only [datO] at h; cases h; exact hr
  | .arr n T e l, z, y, h, hr => by simp only [datO] at h; cases h; exact hr
theorem reps_dat {g : Gh} {w : World} : ∀ {xs zs : List AV} {ys : List Value}, datOL xs = some zs → reps g w xs ys → reps g w zs ys
  | [], zs, ys, h, hr => by simp only [datOL] at h; cases h; exact hr
  | x :: xs, zs, ys, h, hr => by
    simp only [datOL] at h
    split at h
    · cases h
    · rename_i y' hy'
      split at h
      · rename_i r hr'
        cases h
        simp only [reps] at hr ⊢
        obtain ⟨y, zs', e, k1, k2⟩ := hr
        exact ⟨y, zs', e, rep_dat hy' k1, reps_dat hr' k2⟩
      · cases h
end
theorem callOk_dat {P : Program} {f : Nat} {args : List AV} {X Y : AV} (h : CallOk P f args (fun r => r = X)) (hd : datO X = some Y) : CallOk P f args (fun r => r = Y) := by
  unfold CallOk at h ⊢
  intro I w vals hI ha
  refine (h I w vals hI ha).mono fun e w' he => ?_
  obtain ⟨y, r, g', h1, rfl, h2, h3⟩ := he
  exact ⟨y, _, g', h1, rfl, rep_dat hd h2, h3⟩
theorem callOk_nilSl {P : Program} {f : Nat} {args : List AV} {e : Nat} (h : CallOk P f args (fun r => r = .v (.slice none 0 0))) : CallOk P f args (fun r => r = .sl e []) := by
  unfold CallOk at h ⊢
  intro I w vals hI ha
  refine (h I w vals hI ha).mono fun x w' he => ?_
  obtain ⟨y, r, g', h1, rfl, h2, h3⟩ := he
  refine ⟨y, _, g', h1, rfl, ?_, h3⟩
  simp only [rep] at h2
  subst h2
  simp only [rep, drep]
  exact ⟨none, 0, rfl, .inl trivial, Nat.zero_le _⟩
end Go.Eng

namespace Go.Eng
open Go

/- A value that reads so whatever the ghosts and the world. -/
mutual
def pl : AV → Bool
  | .v _ => true
  | .top => true
  | .agg cs => plL cs
  | .tup cs => plL cs
  | .sl _ [] => true
  | _ => false
def plL : List AV → Bool
  | [] => true
  | x :: xs => pl x && plL xs
end
mutual
theorem rep_pl {g g' : Gh} {w w' : World} : ∀ {x : AV} {y : Value}, pl x = true → rep g w x y → rep g' w' x y
  | .top, _, _, _ => by simp [rep]
  | .v x, y, _, h => by simpa [rep] using h
  | .agg cs, y, hp, h => by
    simp only [rep, pl] at h hp ⊢
    obtain ⟨a, e, h⟩ := h
    exact ⟨a, e, reps_pl hp h⟩
  | .tup cs, y, hp, h => by
    simp only [rep, pl] at h hp ⊢
    obtain ⟨a, e, h⟩ := h
    exact ⟨a, e, reps_pl hp h⟩
  | .sl e [], y, _, h => by
    simp only [rep, drep] at h ⊢
    obtain ⟨A, c, h1, _, h3⟩ := h
    exact ⟨A, c, h1, .inl trivial, h3⟩
  | .sl e (r :: rs), y, hp, _ => by simp [pl] at hp
  | .own .., _, hp, _ => by simp [pl] at hp
  | .ptr .., _, hp, _ => by simp [pl] at hp
  | .eptr .., _, hp, _ => by simp [pl] at hp
  | .fn .., _, hp, _ => by simp [pl] at hp
  | .arr .., _, hp, _ => by simp [pl] at hp
theorem reps_pl {g g' : Gh} {w w' : World} : ∀ {xs : List AV} {ys : List Value}, plL xs = true → reps g w xs ys → reps g' w' xs ys
  | [], ys, _, h => by simpa [reps] using h
  | x :: xs, ys, hp, h => by
    simp only [reps, plL, Bool.and_eq_true] at h hp ⊢
    obtain ⟨y, zs, e, h1, h2⟩ := h
    exact ⟨y, zs, e, rep_pl hp.1 h1, reps_pl hp.2 h2⟩
end

inductive LeS (bl : List (Nat × List AV)) : List AV → List AV → Prop where
  | nil : LeS bl [] []
  | v {x : Value} {xs ys : List AV} (hs : LeS bl xs ys) : LeS bl (.v x :: xs) (.v x :: ys)
  | sl {e : Nat} {rows : List (List AV)} {xs ys : List AV} (hs : LeS bl xs ys) : LeS bl (.sl e rows :: xs) (.sl e rows :: ys)
  | own {n T e : Nat} {rows : List (List AV)} {xs ys : List AV} (hs : LeS bl xs ys) : LeS bl (.own n T e rows :: xs) (.sl e rows :: ys)
  | nilS {e : Nat} {xs ys : List AV} (hs : LeS bl xs ys) : LeS bl (.v (.slice none 0 0) :: xs) (.sl e [] :: ys)
  | arr {n T e l : Nat} {rows more : List (List AV)} {xs ys : List AV} (hb : lookB bl n = some (rows ++ more).flatten) (hl : l = rows.length) (hlen : ∀ r ∈ rows, r.length = e) (hp : ∀ x ∈ rows.flatten, plain x = true) (hs : LeS bl xs ys) : LeS bl (.arr n T e l :: xs) (.sl e rows :: ys)
  | agg {cs ds xs ys : List AV} (h : LeS bl cs ds) (hs : LeS bl xs ys) : LeS bl (.agg cs :: xs) (.agg ds :: ys)
theorem dreps_leS {E : En} {g : Gh} {bl bl' : List (Nat × List AV)} {ow : List Nat} {w : World} (hm : Mem E g bl' ow w) (hbl : ∀ p ∈ bl, p ∈ bl') {xs ys : List AV} (h : LeS bl xs ys) : ∀ {zs : List Value}, reps g w xs zs → dreps (seen g w) w ys zs := by
  induction h with
  | nil => intro zs h; simp only [reps] at h; simpa only [dreps] using h
  | v _ ih =>
    intro zs h
    simp only [reps, rep] at h
    obtain ⟨y, zs', e, h1, h2⟩ := h
    simp only [dreps, drep]
    exact ⟨y, zs', e, h1, ih h2⟩
  | sl _ ih =>
    intro zs h
    simp only [reps, rep] at h
    obtain ⟨y, zs', e, h1, h2⟩ := h
    simp only [dreps]
    exact ⟨y, zs', e, drep_mono (fun b o hb => .inl hb) (fun _ _ _ => rfl) h1, ih h2⟩
  | own _ ih =>
    intro zs h
    simp only [reps, rep] at h
    obtain ⟨y, zs', e, h1, h2⟩ := h
    simp only [dreps]
    exact ⟨y, zs', e, drep_mono (fun b o hb => .inl hb) (fun _ _ _ => rfl) (drep_of_own h1), ih h2⟩
  | nilS _ ih =>
    intro zs h
    simp only [reps, rep] at h
    obtain ⟨y, zs', e, h1, h2⟩ := h
    subst h1
    simp only [dreps, drep]
    exact ⟨_, zs', e, ⟨none, 0, rfl, .inl trivial, Nat.zero_le _⟩, ih h2⟩
  | @arr n T e l rows more xs ys hb hl hlen hp _ ih =>
    intro zs h
    subst hl
    simp only [reps, rep] at h
    obtain ⟨y, zs', ez, ⟨b, c, h3, _, rfl, h4, _⟩, h2⟩ := h
    simp only [dreps, drep]
    refine ⟨_, zs', ez, ⟨_, c, rfl, .inr ⟨b, 0, rfl, ?_⟩, h4⟩, ih h2⟩
    obtain ⟨b', arr, k1, k2, k3, k4⟩ := hm.blk _ _ (hbl _ (lookB_mem hb))
    have : b' = b := by rw [h3] at k1; exact (Option.some.inj k1).symm
    subst this
    rw [List.flatten_append] at k3
    refine drows_iff.2 ⟨hlen, dcells_of_list (dreps_take (I := seen g w) (w' := w) hp k3) fun j z hj => ?_⟩
    have hj' : arr.toList[j]? = some z := by
      rw [List.getElem?_take] at hj
      split at hj
      · exact hj
      · cases hj
    have hc : w.cell? ⟨b', 0 + j, none⟩ = some z := by rw [cell_of_heap k2, Nat.zero_add]; simpa using hj'
    exact ⟨hc, .inr ⟨⟨_, h3⟩, by rw [hc]; rfl⟩⟩
  | agg _ _ ih1 ih2 =>
    intro zs h
    simp only [reps, rep] at h
    obtain ⟨y, zs', e, ⟨a, ea, h1⟩, h2⟩ := h
    simp only [dreps, drep]
    exact ⟨y, zs', e, ⟨a, ea, ih1 h1⟩, ih2 h2⟩
theorem seen_cell {E : En} {g : Gh} {bl : List (Nat × List AV)} {ow : List Nat} {w : World} (hm : Mem E g bl ow w) : ∀ b o, seen g w b o → (w.cell? ⟨b, o, none⟩).isSome = true := fun b o hb => by
  rcases hb with hb | hb
  · exact hm.cell b o hb
  · exact hb.2
section
variable {E : En} {bl : List (Nat × List AV)} {tm : List (Nat × AV)} {d : Option Tmp} {ty : TypeId} {pos : String} {af : Array Edge} {gd : Option (Nat × Bool)}
theorem QV_callS {x : Operand} {xs : Array Operand} {ts : Array TypeId} {f : Nat} {ys : List AV} {r : AV} [hf : FnOk E.P f] (h : CallOk E.P f ys (fun r' => r' = r)) (hx : ev tm x = .v (.func (.func f) #[] #[])) (ha : LeS bl (xs.toList.map (ev tm)) ys) (hp : pl r = true) :
    QV E bl tm ⟨d, .call ⟨.value x, xs, ts⟩, ty, pos, af, gd⟩ r [] [] := by
  intro g w ρ bl' ow' hm hbl _ _ hop
  have h1 := hop x (by simp [Op.operands, Call.operands])
  have h2 : reps g w (xs.toList.map (ev tm)) (xs.toList.map ρ) := reps_map _ fun y hy => hop y (by simp [Op.operands, Call.operands] at hy ⊢; exact .inr hy)
  rw [hx] at h1
  simp only [rep] at h1
  obtain ⟨fn, f1, f2, f3⟩ := hf.ok
  have f2' : fn.name ≠ "runtime.NumGoroutine" := by simpa using f2
  have f3' : fn.body ≠ none := fun e => by rw [e] at f3; simp at f3
  have hrun : (execOp ρ ⟨d, .call ⟨.value x, xs, ts⟩, ty, pos, af, gd⟩).run E.P w = .ok (.enter f (xs.map ρ)) w := by
    simp [execOp, resolve, Deferred.ofValue, h1, invoke, callFunc, f1, f2', f3']
  rw [hrun]
  refine (h (seen g w) w (xs.map ρ) (seen_cell hm) (by rw [Array.toList_map]; exact dreps_leS hm hbl ha h2)).mono fun e w' he => ?_
  obtain ⟨y, r', g', rfl, rfl, h3, h4⟩ := he
  have hr : Ret g.I w (g0 g.I) w' := ⟨h4.below, fun _ _ h => h, fun _ _ h => .inl h, fun b o hb => by
    rw [World.cell?_of_block (a := ⟨b, o, none⟩) (h4.below.block b (cell_lt (hm.cell b o hb)) (fun h => h))]; exact hm.cell b o hb, fun n b h => h.elim, fun n n' b h => h.elim⟩
  obtain ⟨gc, h5, h6, _, _⟩ := hm.called hr 0 [] (fun n hn => by simp at hn)
  exact ⟨_, rfl, gc, h5, by simpa using h6, rep_pl hp h3⟩
end

inductive MutA (n T e N len : Nat) (rows : List (List AV)) : AV → AV → Prop where
  | own : MutA n T e N len rows (.own n T e rows) (.arr N T e len)
  | agg : MutA n T e N len rows (.agg [.own n T e rows]) (.agg [.arr N T e len])
  | tup {b : Value} : MutA n T e N len rows (.tup [.agg [.own n T e rows], .v b]) (.tup [.agg [.arr N T e len], .v b])
  | tupS {b : Value} : MutA n T e N len rows (.tup [.own n T e rows, .v b]) (.tup [.arr N T e len, .v b])
theorem mut_has {g : Gh} {w : World} {n T e N len : Nat} {rows : List (List AV)} {x z : AV} {y : Value} (h : MutA n T e N len rows x z) (hr : rep g w x y) : ∃ u, ownRep g w n T e rows u := by
  cases h <;> simp only [rep, reps] at hr
  · exact ⟨_, hr⟩
  · obtain ⟨_, _, u, _, _, hr, _⟩ := hr; exact ⟨u, hr⟩
  · obtain ⟨_, _, _, _, _, ⟨_, _, u, _, _, hr, _⟩, _⟩ := hr; exact ⟨u, hr⟩
  · obtain ⟨_, _, u, _, _, hr, _⟩ := hr; exact ⟨u, hr⟩
theorem mut_rep {g gc : Gh} {w w' : World} {n T e N len : Nat} {rows : List (List AV)} (hA : ∀ u, ownRep g w n T e rows u → rep gc w' (.arr N T e len) u) {x z : AV} {y : Value} (h : MutA n T e N len rows x z) (hr : rep g w x y) : rep gc w' z y := by
  cases h
  · simp only [rep] at hr; exact hA _ hr
  · simp only [rep, reps] at hr ⊢
    obtain ⟨a, ea, u, zs, e1, hr, e2⟩ := hr
    have := hA _ hr
    simp only [rep] at this
    exact ⟨a, ea, u, zs, e1, this, e2⟩
  · simp only [rep, reps] at hr ⊢
    obtain ⟨a, ea, u, zs, e1, ⟨a', ea', u', zs', e1', hr, e2⟩, e3⟩ := hr
    have := hA _ hr
    simp only [rep] at this
    exact ⟨a, ea, u, zs, e1, ⟨a', ea', u', zs', e1', this, e2⟩, e3⟩
  · simp only [rep, reps] at hr ⊢
    obtain ⟨a, ea, u, zs, e1, hr, e2⟩ := hr
    have := hA _ hr
    simp only [rep] at this
    exact ⟨a, ea, u, zs, e1, this, e2⟩

section
variable {E : En} {ops : Array Oper} {rest : List Oper} {Q : Exit → St → Prop} {tm : List (Nat × AV)} {bl bl' : List (Nat × List AV)} {ow : List Nat} {d : Nat} {ty : TypeId} {pos : String} {af : Array Edge}
theorem wlmu {x : Operand} {xs : Array Operand} {ts : Array TypeId} {f n T e N len : Nat} {ys : List AV} {rows : List (List AV)} {r z : AV} [hf : FnOk E.P f] (h : CallOk E.P f ys (fun r' => r' = r)) (hN : Nat.ble 1000000 N = true) (h0 : 0 < rows.length) (hpl : ∀ x ∈ rows.flatten, plain x = true) (hx : ev tm x = .v (.func (.func f) #[] #[])) (ha : LeS bl (xs.toList.map (ev tm)) ys)
    (hz : MutA n T e N len rows r z) (hlen : rows.length = len) (hd : Nat.blt d E.nt = true) (hfr : bl.all (fun q => !Nat.beq q.1 N) = true) (hk : ∀ more, MoreOk e more → WL E ops rest Q ⟨(d, z) :: tm, (N, (rows ++ more).flatten) :: bl, ow⟩) :
    WL E ops (⟨some d, .call ⟨.value x, xs, ts⟩, ty, pos, af, none⟩ :: rest) Q ⟨tm, bl, ow⟩ := by
  subst hlen
  intro g a w hi
  unfold wpListIn
  rw [show Region.wanted ⟨some d, .call ⟨.value x, xs, ts⟩, ty, pos, af, none⟩ (yielded ops a.tmps) = true by simp [Region.wanted]]
  refine wpIn_of_wp (fun _ h => by cases h) ?_
  have h1 := rep_ev hi.tm x
  have h2 : reps g w (xs.toList.map (ev tm)) (xs.toList.map a.eval) := reps_map _ fun y _ => rep_ev hi.tm y
  rw [hx] at h1
  simp only [rep] at h1
  obtain ⟨fn, f1, f2, f3⟩ := hf.ok
  have f2' : fn.name ≠ "runtime.NumGoroutine" := by simpa using f2
  have f3' : fn.body ≠ none := fun e => by rw [e] at f3; simp at f3
  have hrun : (execOp a.eval ⟨some d, .call ⟨.value x, xs, ts⟩, ty, pos, af, none⟩).run E.P w = .ok (.enter f (xs.map a.eval)) w := by
    simp [execOp, resolve, Deferred.ofValue, h1, invoke, callFunc, f1, f2', f3']
  unfold Oper.wp
  rw [hrun]
  have hm := hi.mem
  refine (h (seen g w) w (xs.map a.eval) (seen_cell hm) (by rw [Array.toList_map]; exact dreps_leS hm (fun _ h => h) ha h2)).mono fun e' w' he => ?_
  obtain ⟨y, r', g', rfl, rfl, h3, h4⟩ := he
  obtain ⟨u, hu⟩ := mut_has hz h3
  obtain ⟨b, c, arr, b1, b2, b3, b4, b5, b6, b7⟩ := own_here hu h0
  have hl : ∀ r ∈ rows, r.length = e := by obtain ⟨_, _, _, _, _, hl, _⟩ := hu; exact hl
  have hb := h4.own n b hu.1 b1
  have heap : ∀ k, k < w.heap.size → w'.heap[k]? = w.heap[k]? := fun k hk => h4.below.block k hk (fun h => h)
  have hsz := h4.below.size
  have hIlt : ∀ b o, g.I b o → b < w.heap.size := fun b o hb => cell_lt (hm.cell b o hb)
  have keeps : Keeps g.I w w' := fun b o hb => World.cell?_of_block (a := ⟨b, o, none⟩) (heap b (hIlt b o hb))
  have hfr' : ∀ q ∈ bl, q.1 ≠ N := fun q hq e => by
    have := List.all_eq_true.1 hfr q hq
    simp [e] at this
  have hnone : g.m N = none := by
    cases hmN : g.m N with
    | none => rfl
    | some b' => obtain ⟨cs, hc⟩ := hm.key N b' hmN; exact absurd rfl (hfr' _ hc)
  let gc : Gh := { g with m := fun k => if k = N then some b else g.m k, mt := fun k => if k = N then T else g.mt k }
  have hmm : ∀ k b', gc.m k = some b' → (k = N ∧ b' = b) ∨ (k ≠ N ∧ g.m k = some b') := fun k b' hk => by
    by_cases e : k = N
    · simp only [gc, e, if_true, Option.some.injEq] at hk; exact .inl ⟨e, hk.symm⟩
    · simp only [gc, e, if_false] at hk; exact .inr ⟨e, hk⟩
  have goes : Goes g w gc w' := by
    refine ⟨fun _ _ h => h, keeps, fun k b' hk => ?_, fun k b' hk => ?_, fun k T' e' rows' y' hy' => ownRep_goes (g := g) (g' := gc) (fun _ _ h => h) keeps (fun k hk => ⟨hk, rfl⟩) (fun k b' k1 k2 => heap b' (hm.ofr k b' k1 k2).2) (fun _ _ _ _ _ h => h) hy', fun _ b' _ _ _ hc => hc.same (heap b' hc.lt)⟩
    · have : k ≠ N := fun e => by rw [e, hnone] at hk; cases hk
      simp only [gc, this, if_false]; exact hk
    · have : k ≠ N := fun e => by rw [e, hnone] at hk; cases hk
      simp only [gc, this, if_false]
  let more : List (List AV) := List.replicate (c - rows.length) (List.replicate e .top)
  have hmore : MoreOk e more := fun r hr => by
    rw [List.eq_of_mem_replicate hr]
    exact ⟨by simp, fun x hx => by rw [List.eq_of_mem_replicate hx]; rfl⟩
  have hml : more.flatten.length = (c - rows.length) * e := by
    rw [flatten_length (e := e) (fun r hr => (hmore r hr).1)]; simp [more]
  have hce : c * e = rows.length * e + (c - rows.length) * e := by rw [← Nat.add_mul]; congr 1; omega
  have hreps : reps gc w' (rows ++ more).flatten arr.toList := by
    rw [List.flatten_append, ← List.take_append_drop (rows.length * e) arr.toList]
    refine reps_append (reps_plain (g := g') (w := w') hpl (reps_of_dreps b7)) (reps_tops _ _ ?_ ?_)
    · rw [List.all_eq_true]
      intro x hx
      obtain ⟨r, hr, hx⟩ := List.mem_flatten.1 hx
      rw [List.eq_of_mem_replicate hr] at hx
      rw [List.eq_of_mem_replicate hx]; rfl
    · have ea : arr.toList.length = arr.size := by simp
      rw [hml, List.length_drop, ea, b6]; omega
  have hmem : Mem E gc ((N, (rows ++ more).flatten) :: bl) ow w' :=
    { below := ⟨h4.below.os.trans hm.below.os, h4.below.tape.trans hm.below.tape, h4.below.output.trans hm.below.output, Nat.le_trans hm.below.size hsz, fun k hk hM => (heap k (Nat.lt_of_lt_of_le hk hm.base)).trans (hm.below.block k hk hM)⟩
      base := Nat.le_trans hm.base hsz
      cell := fun b' o hbo => by rw [keeps b' o hbo]; exact hm.cell b' o hbo
      mfr := fun k b' hk => by
        rcases hmm k b' hk with ⟨rfl, rfl⟩ | ⟨_, k2⟩
        · exact ⟨.inr (.inl (Nat.le_trans hm.base hb.1)), hb.2⟩
        · exact ⟨(hm.mfr k b' k2).1, Nat.lt_of_lt_of_le (hm.mfr k b' k2).2 hsz⟩
      ofr := fun k b' k1 k2 => ⟨(hm.ofr k b' k1 k2).1, Nat.lt_of_lt_of_le (hm.ofr k b' k1 k2).2 hsz⟩
      minj := fun k k' b' k1 k2 => by
        rcases hmm k b' k1 with ⟨rfl, rfl⟩ | ⟨_, k3⟩ <;> rcases hmm k' _ k2 with ⟨rfl, k4⟩ | ⟨_, k4⟩
        · rfl
        · have := (hm.mfr k' _ k4).2; have := hb.1; omega
        · subst k4; have := (hm.mfr k _ k3).2; have := hb.1; omega
        · exact hm.minj k k' b' k3 k4
      oinj := hm.oinj
      disj := fun k k' b' k1 k2 k3 => by
        rcases hmm k b' k1 with ⟨rfl, rfl⟩ | ⟨_, k4⟩
        · have := (hm.ofr k' _ k2 k3).2; have := hb.1; omega
        · exact hm.disj k k' b' k4 k2 k3
      blk := fun k ds hk => by
        rcases List.mem_cons.1 hk with hk | hk
        · cases hk
          exact ⟨b, arr, by simp only [gc, if_true], by simp only [gc, if_true]; exact b5, hreps, fun o ho => by have := hIlt _ o ho; have := hb.1; omega⟩
        · obtain ⟨b', arr', q1, q2, q3, q4⟩ := hm.blk k ds hk
          exact ⟨b', arr', goes.m k b' q1, by rw [goes.mt k b' q1]; exact (heap b' (hm.mfr k b' q1).2).trans q2, reps_goes goes q3, q4⟩
      key := fun k b' hk => by
        rcases hmm k b' hk with ⟨rfl, rfl⟩ | ⟨_, k2⟩
        · exact ⟨_, List.mem_cons_self ..⟩
        · obtain ⟨cs, hc⟩ := hm.key k b' k2; exact ⟨cs, List.mem_cons_of_mem _ hc⟩
      own := hm.own
      inew := hm.inew
      iold := hm.iold
      pin := fun k b' T' hp => ⟨goes.m k b' (hm.pin k b' T' hp).1, (goes.mt k b' (hm.pin k b' T' hp).1).trans (hm.pin k b' T' hp).2⟩ }
  have hz' : rep gc w' z y := mut_rep (gc := gc) (w' := w') (fun u' hu' => by
    obtain ⟨b', c', arr', k1, k2, k3, k4, k5, k6, _⟩ := own_here hu' h0
    rw [b1] at k1
    cases k1
    simp only [rep]
    exact ⟨b, c', by simp only [gc, if_true], by simp only [gc, if_true], k2, k3, fun h => by have := Nat.le_of_ble_eq_true hN; omega, fun _ => ⟨k4, _, _, k5, k6⟩⟩) hz h3
  have hi' : Inv E g ⟨tm, bl, ow⟩ a w := hi
  have := hi'.app (d := some d) (v := z) (y := y) (nb := [(N, (rows ++ more).flatten)]) (no := []) (fun k hk => by cases hk; exact Nat.le_of_ble_eq_true hd) goes (by simpa using hmem) hz'
  exact hk more hmore gc _ w' this
end
end Go.Eng

namespace Go.Eng
open Go
section
variable {α : Type} {row : α → List AV} {mk : Int → Nat → α} {k : Int} {l : List α} {more : List (List AV)} {i e : Nat}
def mks (mk : Int → Nat → α) (k : Int) (n : Nat) : List α := (List.range n).map (mk k)
theorem mks_len {n : Nat} : (mks mk k n).length = n := by simp [mks]
theorem len_map {β : Type} {f : α → β} {l : List α} : l.length = (l.map f).length := (List.length_map _).symm
theorem len_mks {β : Type} {f : α → β} {n : Nat} : n = ((mks mk k n).map f).length := by rw [List.length_map, mks_len]
theorem map_plain (hf : ∀ a, ∀ x ∈ row a, plain x = true) (l : List α) : ∀ x ∈ (l.map row).flatten, plain x = true := by
  intro x hx
  obtain ⟨r, hr, hx⟩ := List.mem_flatten.1 hx
  obtain ⟨p, _, rfl⟩ := List.mem_map.1 hr
  exact hf p x hx
theorem map_plainB (hf : ∀ a, (row a).all plain = true) : ∀ x ∈ (l.map row).flatten, plain x = true :=
  map_plain (fun a x hx => List.all_eq_true.1 (hf a) x hx) l
theorem map_lens (hf : ∀ a, (row a).length = e) : ∀ r ∈ l.map row, r.length = e := by
  intro r hr
  obtain ⟨p, _, rfl⟩ := List.mem_map.1 hr
  exact hf p
end
structure RowAt (rows : List (List AV)) (i e : Nat) (r : List AV) : Prop where
  at_ : rows[i]? = some r
  len : ∀ r ∈ rows, r.length = e
theorem RowAt.set {rows : List (List AV)} {i e : Nat} {r r' : List AV} (h : RowAt rows i e r) (h' : r'.length = e) : RowAt (rows.set i r') i e r' :=
  ⟨by rw [List.getElem?_set_self (List.getElem?_eq_some_iff.1 h.at_).1], fun s hs => by
    rcases List.mem_or_eq_of_mem_set hs with hs | rfl
    · exact h.len s hs
    · exact h'⟩
end Go.Eng

namespace Go.Eng
open Go

inductive AllPl : List (Nat × List AV) → Prop where
  | nil : AllPl []
  | cons {n : Nat} {rows : List (List AV)} {r : List (Nat × List AV)} (h : ∀ x ∈ rows.flatten, plain x = true) (hs : AllPl r) : AllPl ((n, (rows ++ []).flatten) :: r)
theorem AllPl.at {nb : List (Nat × List AV)} (h : AllPl nb) : ∀ p ∈ nb, ∀ x ∈ p.2, plain x = true := by
  induction h with
  | nil => intro p hp; simp at hp
  | cons h _ ih =>
    intro p hp x hx
    rcases List.mem_cons.1 hp with rfl | hp
    · rw [List.append_nil] at hx; exact h x hx
    · exact ih p hp x hx
section
variable {E : En} {ops : Array Oper} {rest : List Oper} {Q : Exit → St → Prop} {tm : List (Nat × AV)} {bl bl' : List (Nat × List AV)} {ow : List Nat} {d : Nat} {ty : TypeId} {pos : String} {af : Array Edge}
end

section
variable {E : En} {ops : Array Oper} {rest : List Oper} {Q : Exit → St → Prop} {tm : List (Nat × AV)} {bl bl1 bl' : List (Nat × List AV)} {ow : List Nat} {d : Nat} {ty : TypeId} {pos : String} {af : Array Edge}
end
end Go.Eng

namespace Go.Eng
open Go

/- Data, numbers: what reads so whatever the names. -/
mutual
def dt : AV → Bool
  | .v _ => true
  | .top => true
  | .sl .. => true
  | .agg cs => dtL cs
  | _ => false
def dtL : List AV → Bool
  | [] => true
  | x :: xs => dt x && dtL xs
end
mutual
theorem rep_dt {g g' : Gh} {w : World} (hI : g'.I = g.I) : ∀ {x : AV} {y : Value}, dt x = true → rep g w x y → rep g' w x y
  | .top, _, _, _ => by simp [rep]
  | .v x, y, _, h => by simpa [rep] using h
  | .sl e rows, y, _, h => by simp only [rep] at h ⊢; rw [hI]; exact h
  | .agg cs, y, hp, h => by
    simp only [rep, dt] at h hp ⊢
    obtain ⟨a, e, h⟩ := h
    exact ⟨a, e, reps_dt hI hp h⟩
  | .tup .., _, hp, _ => by simp [dt] at hp
  | .own .., _, hp, _ => by simp [dt] at hp
  | .ptr .., _, hp, _ => by simp [dt] at hp
  | .eptr .., _, hp, _ => by simp [dt] at hp
  | .fn .., _, hp, _ => by simp [dt] at hp
  | .arr .., _, hp, _ => by simp [dt] at hp
theorem reps_dt {g g' : Gh} {w : World} (hI : g'.I = g.I) : ∀ {xs : List AV} {ys : List Value}, dtL xs = true → reps g w xs ys → reps g' w xs ys
  | [], ys, _, h => by simpa [reps] using h
  | x :: xs, ys, hp, h => by
    simp only [reps, dtL, Bool.and_eq_true] at h hp ⊢
    obtain ⟨y, zs, e, h1, h2⟩ := h
    exact ⟨y, zs, e, rep_dt hI hp.1 h1, reps_dt hI hp.2 h2⟩
end
def gP (I : Nat → Nat → Prop) (b T : Nat) : Gh := ⟨I, fun n => if n = 1000000 then some b else none, fun _ => none, fun _ => False, fun _ => T⟩
abbrev enP (P : Program) (B : Nat) (w0 : World) (nt b T : Nat) (I0 : Nat → Nat → Prop) : En := ⟨P, B, w0, nt, fun c => c = b, [], I0, fun n c U => n = 1000000 ∧ c = b ∧ U = T, none, []⟩
structure RetP (I : Nat → Nat → Prop) (b : Nat) (w : World) (g' : Gh) (w' : World) : Prop where
  below : BelowM w.heap.size (fun c => c = b) w w'
  old : ∀ b o, I b o → g'.I b o
  new : ∀ b o, g'.I b o → I b o ∨ w.heap.size ≤ b
  cell : ∀ b o, g'.I b o → (w'.cell? ⟨b, o, none⟩).isSome = true
  own : ∀ n c, g'.ow n → g'.om n = some c → w.heap.size ≤ c ∧ c < w'.heap.size
  inj : ∀ n n' c, g'.ow n → g'.ow n' → g'.om n = some c → g'.om n' = some c → n = n'
def CallPtr (P : Program) (f : Nat) (args cs : List AV) (R : AV → List AV → Prop) : Prop :=
  ∀ (I : Nat → Nat → Prop) (w : World) (b T : Nat) (vals arr : Array Value), (∀ b o, I b o → (w.cell? ⟨b, o, none⟩).isSome = true) → (∀ o, ¬ I b o) → w.heap[b]? = some (.cells arr T (0, 0)) → reps (gP I b T) w cs arr.toList → reps (gP I b T) w args vals.toList →
    Calls P f vals w fun e w' => ∃ y r cs' arr', ∃ g' : Gh, e = .returned y ∧ R r cs' ∧ rep g' w' r y ∧ RetP I b w g' w' ∧ w'.heap[b]? = some (.cells arr' T (0, 0)) ∧ reps g' w' cs' arr'.toList ∧ ∀ o, ¬ g'.I b o
def ptrQ (E : En) (rs : List ResultVar) (R : AV → List AV → Prop) : Exit → St → Prop
  | .normal, s => ∃ s', Weak E s s' ∧ ∃ xs cs', resA E.P s' rs xs ∧ (1000000, cs') ∈ s'.bl ∧ R (oneA xs) cs' ∧ refs [] s'.ow (oneA xs) = true ∧ dtL cs' = true
  | .ret, s => ∃ s', Weak E s s' ∧ ∃ xs cs', resA E.P s' rs xs ∧ (1000000, cs') ∈ s'.bl ∧ R (oneA xs) cs' ∧ refs [] s'.ow (oneA xs) = true ∧ dtL cs' = true
  | _, _ => False
theorem callPtr {P : Program} {f nt : Nat} {fn : Func} {rs : Array ResultVar} {co : Code} {args cs : List AV} {tm : List (Nat × AV)} {R : AV → List AV → Prop} (hf : P.funcs[f]? = some fn) (hnt : fn.ntmps = nt) (hrs : fn.results = rs) (hb : fn.body = some co) (hn : Nat.ble args.length nt = true) (htm : iniO 0 args = some tm)
    (h : ∀ (B : Nat) (w0 : World) (b T : Nat) (I0 : Nat → Nat → Prop), W (enP P B w0 nt b T I0) co (ptrQ (enP P B w0 nt b T I0) rs.toList R) ⟨tm, [(1000000, cs)], []⟩) : CallPtr P f args cs R := by
  subst hnt; subst hrs
  intro I w b T vals arr hI hIb hh hreps hargs'
  have htm' := iniO_eq htm
  have hn' := Nat.le_of_ble_eq_true hn
  have hblt : b < w.heap.size := (Array.getElem?_eq_some_iff.1 hh).1
  let E : En := enP P w.heap.size w fn.ntmps b T I
  let g : Gh := gP I b T
  have hlen := reps_length hargs'
  have hgm : ∀ n c, g.m n = some c → n = 1000000 ∧ c = b := fun n c h => by
    by_cases e1 : n = 1000000
    · simp only [g, gP, e1, if_true, Option.some.injEq] at h; exact ⟨e1, h.symm⟩
    · simp only [g, gP, e1, if_false] at h; cases h
  refine calls_of_wp hf hb ?_
  refine wp_W (h w.heap.size w b T I g _ w ⟨⟨BelowM.refl _ _ _, Nat.le_refl _, hI, fun n c h => ?_, fun _ _ h => h.elim, fun n n' c h1 h2 => (hgm n c h1).1.trans (hgm n' c h2).1.symm, fun _ _ _ h => h.elim, fun _ _ _ _ h => h.elim,
    fun n cs h => ?_, fun n c h => ?_, fun _ h => h.elim, fun _ _ h => .inl h, fun _ _ h => h, fun n c U h => ?_⟩, fun t => ?_, rfl, ?_⟩) fun e a' w' hq => ?_
  · obtain ⟨rfl, rfl⟩ := hgm n c h
    exact ⟨.inr (.inr rfl), hblt⟩
  · simp only [List.mem_singleton, Prod.mk.injEq] at h
    obtain ⟨rfl, rfl⟩ := h
    exact ⟨b, arr, by simp [g, gP], hh, hreps, hIb⟩
  · obtain ⟨rfl, rfl⟩ := hgm n c h
    exact ⟨_, List.mem_singleton.2 rfl⟩
  · obtain ⟨rfl, rfl, rfl⟩ := h
    exact ⟨by simp [g, gP], rfl⟩
  · rw [← htm']
    simp only [look_zip, Nat.zero_le, if_true, Nat.sub_zero]
    rcases Nat.lt_or_ge t args.length with h1 | h1
    · obtain ⟨y, hy, hr⟩ := reps_get hargs' (List.getElem?_eq_getElem h1)
      have : t < vals.size := by simpa [← hlen] using h1
      have hy' : vals[t] = y := by simpa [this] using hy
      simp only [List.getD_eq_getElem?_getD, List.getElem?_eq_getElem h1, Option.getD_some]
      simp only [Array.getD_eq_getD_getElem?, Array.getElem?_append_left this, Array.getElem?_eq_getElem this, Option.getD_some, hy']
      exact hr
    · simp only [List.getD_eq_getElem?_getD, List.getElem?_eq_none h1, Option.getD_none, rep]
  · have : vals.size = args.length := by simpa using hlen
    simp; omega
  · obtain ⟨g', s', hq, hi⟩ := hq
    have fin : (∃ s2, Weak E s' s2 ∧ ∃ xs cs', resA P s2 fn.results.toList xs ∧ (1000000, cs') ∈ s2.bl ∧ R (oneA xs) cs' ∧ refs [] s2.ow (oneA xs) = true ∧ dtL cs' = true) → a'.defers = [] ∧ ∃ v, (results fn a'.tmps).run P w' = .ok v w' ∧
        ∃ y r cs' arr', ∃ g' : Gh, Ending.returned v = .returned y ∧ R r cs' ∧ rep g' w' r y ∧ RetP I b w g' w' ∧ w'.heap[b]? = some (.cells arr' T (0, 0)) ∧ reps g' w' cs' arr'.toList ∧ ∀ o, ¬ g'.I b o := by
      rintro ⟨s2, hw, xs, cs', h1, h2, h3, h4, h5⟩
      obtain ⟨g', hi⟩ := hw g' a' w' hi
      obtain ⟨y, k1, k2⟩ := run_results hi h1
      obtain ⟨c, arr', m1, m2, m3, m4⟩ := hi.mem.blk _ _ h2
      obtain ⟨p1, p2⟩ := hi.mem.pin 1000000 b T ⟨rfl, rfl, rfl⟩
      have : c = b := by rw [p1] at m1; exact (Option.some.inj m1).symm
      subst this
      rw [p2] at m2
      let g2 : Gh := { g' with m := fun _ => none }
      exact ⟨hi.de, y, k1, y, oneA xs, cs', arr', g2, rfl, h3, rep_refs (g := g') (g' := g2) rfl (fun n b hn => by simp at hn) rfl (fun n _ h => ⟨h, rfl⟩) h4 k2,
        ⟨hi.mem.below, hi.mem.iold, fun k o h => (hi.mem.inew k o h).imp id (fun h' => h'.resolve_right (fun e => by rw [e] at h; exact m4 o h)), hi.mem.cell, fun n k h1 h2 => ⟨(hi.mem.ofr n k h1 h2).1.resolve_right (fun e => hi.mem.disj 1000000 n k (by rw [e]; exact p1) h1 h2), (hi.mem.ofr n k h1 h2).2⟩, hi.mem.oinj⟩, m2, reps_dt (g := g') (g' := g2) rfl h5 m3, m4⟩
    cases e with
    | normal => exact fin hq
    | ret => exact fin hq
    | _ => exact hq.elim
inductive PtA (N : Nat) : List AV → List AV → Prop where
  | nil : PtA N [] []
  | ptr {xs ys : List AV} (hs : PtA N xs ys) : PtA N (.ptr N 0 :: xs) (.ptr 1000000 0 :: ys)
  | v {x : Value} {xs ys : List AV} (hs : PtA N xs ys) : PtA N (.v x :: xs) (.v x :: ys)
  | sl {e : Nat} {rows : List (List AV)} {xs ys : List AV} (hs : PtA N xs ys) : PtA N (.sl e rows :: xs) (.sl e rows :: ys)
  | own {n T e : Nat} {rows : List (List AV)} {xs ys : List AV} (hs : PtA N xs ys) : PtA N (.own n T e rows :: xs) (.sl e rows :: ys)
  | agg {cs ds xs ys : List AV} (h : LeDs cs ds) (hs : PtA N xs ys) : PtA N (.agg cs :: xs) (.agg ds :: ys)
theorem reps_ptA {g : Gh} {w : World} {N b T : Nat} (hm : g.m N = some b) {xs ys : List AV} (h : PtA N xs ys) : ∀ {zs : List Value}, reps g w xs zs → reps (gP g.I b T) w ys zs := by
  induction h with
  | nil => intro zs h; simpa only [reps] using h
  | ptr _ ih =>
    intro zs h
    simp only [reps, rep] at h ⊢
    obtain ⟨y, zs', e, ⟨c, k1, k2⟩, h2⟩ := h
    rw [hm] at k1
    cases k1
    exact ⟨y, zs', e, ⟨b, by simp [gP], k2⟩, ih h2⟩
  | v _ ih => intro zs h; simp only [reps, rep] at h ⊢; obtain ⟨y, zs', e, h1, h2⟩ := h; exact ⟨y, zs', e, h1, ih h2⟩
  | sl _ ih => intro zs h; simp only [reps, rep] at h ⊢; obtain ⟨y, zs', e, h1, h2⟩ := h; exact ⟨y, zs', e, h1, ih h2⟩
  | own _ ih =>
    intro zs h
    simp only [reps] at h ⊢
    obtain ⟨y, zs', e, h1, h2⟩ := h
    refine ⟨y, zs', e, ?_, ih h2⟩
    simp only [rep] at h1 ⊢
    exact (drep_of_own h1 : drep g.I w (.sl _ _) y)
  | agg hd _ ih =>
    intro zs h
    simp only [reps] at h ⊢
    obtain ⟨y, zs', e, h1, h2⟩ := h
    have h3 := dreps_leDs (g := g) (LeDs.agg hd LeDs.nil) (by simp only [reps]; exact ⟨y, [], rfl, h1, rfl⟩)
    simp only [dreps] at h3
    obtain ⟨_, _, e1, h4, _⟩ := h3
    cases e1
    exact ⟨y, zs', e, rep_of_drep (g := gP g.I b T) h4, ih h2⟩
theorem Mem.turned {E : En} {g g' : Gh} {bl : List (Nat × List AV)} {ow : List Nat} {w w' : World} {N b : Nat} {cs' : List AV} {arr : Array Value} (h : Mem E g bl ow w) (hn : g.m N = some b) (hro : N ∉ E.ron) (hr : RetP g.I b w g' w') (hh : w'.heap[b]? = some (.cells arr (g.mt N) (0, 0)))
    (hc : reps g' w' cs' arr.toList) (hd : dtL cs' = true) (hI : ∀ o, ¬ g'.I b o) (k : Nat) (os : List Nat) (hf : ∀ n ∈ os, k + n ∉ ow) (hn7 : Nat.blt N 7000000 = true) :
    ∃ gc, Goes g w gc w' ∧ Mem E gc (setB bl N cs') (os.map (k + ·) ++ ow) w' ∧ gc.I = g'.I ∧ (∀ n, n ∈ os → g'.ow n → gc.ow (k + n) ∧ gc.om (k + n) = g'.om n) ∧ gc.m = g.m ∧ gc.mt = g.mt ∧ ∀ j c, gc.ow j → gc.om j = some c → (g.ow j ∧ g.om j = some c) ∨ (∃ n ∈ os, j = k + n ∧ g'.ow n ∧ g'.om n = some c) := by
  let gc : Gh := { I := g'.I, m := g.m, om := fun j => if j ∈ ow then g.om j else g'.om (j - k), ow := fun j => g.ow j ∨ (j ∉ ow ∧ ∃ n ∈ os, j = k + n ∧ g'.ow n), mt := g.mt }
  have hIb : ∀ o, ¬ g.I b o := fun o ho => hI o (hr.old b o ho)
  have heap : ∀ c, c < w.heap.size → c ≠ b → w'.heap[c]? = w.heap[c]? := fun c hb hne => hr.below.block c hb hne
  have hIlt : ∀ b o, g.I b o → b < w.heap.size := fun b o hb => cell_lt (h.cell b o hb)
  have keeps : Keeps g.I w w' := fun c o hb => World.cell?_of_block (a := ⟨c, o, none⟩) (heap c (hIlt c o hb) fun e => hIb o (e ▸ hb))
  have how : ∀ j, g.ow j → gc.ow j ∧ gc.om j = g.om j := fun j hj => ⟨.inl hj, by simp only [gc, h.own j hj, if_true]⟩
  have hI2 : ∀ c o, c < w.heap.size → g'.I c o → g.I c o := fun c o hb hI => (hr.new c o hI).resolve_right (by omega)
  have hoc : ∀ j c, gc.ow j → gc.om j = some c → (g.ow j ∧ g.om j = some c) ∨ (∃ n ∈ os, j = k + n ∧ g'.ow n ∧ g'.om n = some c) := by
    intro j c h1 h2
    rcases h1 with h1 | ⟨h1, n, hn, rfl, h3⟩
    · exact .inl ⟨h1, by rw [(how j h1).2] at h2; exact h2⟩
    · simp only [gc, h1, if_false, Nat.add_sub_cancel_left] at h2
      exact .inr ⟨n, hn, rfl, h3, h2⟩
  have hob : ∀ n c, g.ow n → g.om n = some c → c ≠ b := fun n c h1 h2 e => h.disj N n b hn h1 (e ▸ h2)
  have goes : Goes g w gc w' := ⟨hr.old, keeps, fun _ _ h => h, fun _ _ _ => rfl, fun n T e rows y hy => ownRep_goes (g := g) (g' := gc) hr.old keeps how (fun n c h1 h2 => heap c (h.ofr n c h1 h2).2 (hob n c h1 h2)) (fun n c o h1 h2 h3 => hI2 c o (h.ofr n c h1 h2).2 h3) hy, fun j c i h7 hj hc => hc.same (heap c hc.lt fun e => by
    have h8 := Nat.le_of_ble_eq_true hn7
    have := h.minj j N b (e ▸ hj) hn
    omega)⟩
  refine ⟨gc, goes, ?_, rfl, fun n hn h1 => ⟨.inr ⟨hf n hn, n, hn, rfl, h1⟩, by simp only [gc, hf n hn, if_false, Nat.add_sub_cancel_left]⟩, rfl, rfl, hoc⟩
  have hsz := hr.below.size
  have hbB : E.B ≤ b ∨ E.M b := (h.mfr N b hn).1.resolve_left hro
  refine { below := ⟨hr.below.os.trans h.below.os, hr.below.tape.trans h.below.tape, hr.below.output.trans h.below.output, Nat.le_trans h.below.size hsz, fun j hj hM => ?_⟩,
           base := Nat.le_trans h.base hsz, cell := hr.cell, mfr := fun n c hn => ⟨(h.mfr n c hn).1, Nat.lt_of_lt_of_le (h.mfr n c hn).2 hsz⟩, ofr := ?_, minj := h.minj, oinj := ?_, disj := ?_, blk := ?_, key := fun j c hj => ?_, own := ?_, inew := ?_, iold := fun b o hb => hr.old b o (h.iold b o hb), pin := h.pin }
  · rw [heap j (Nat.lt_of_lt_of_le hj h.base) fun e => by subst e; rcases hbB with h1 | h1 <;> first | omega | exact hM h1]
    exact h.below.block j hj hM
  · intro j c h1 h2
    rcases hoc j c h1 h2 with ⟨h3, h4⟩ | ⟨n, _, _, h3, h4⟩
    · exact ⟨(h.ofr j c h3 h4).1, Nat.lt_of_lt_of_le (h.ofr j c h3 h4).2 hsz⟩
    · have := hr.own n c h3 h4
      exact ⟨.inl (Nat.le_trans h.base this.1), this.2⟩
  · intro j j' c h1 h1' h2 h2'
    rcases hoc j c h1 h2 with ⟨h3, h4⟩ | ⟨n, _, rfl, h3, h4⟩ <;> rcases hoc j' c h1' h2' with ⟨h5, h6⟩ | ⟨n', _, rfl, h5, h6⟩
    · exact h.oinj j j' c h3 h5 h4 h6
    · have h7 := (h.ofr j c h3 h4).2; have h8 := (hr.own n' c h5 h6).1; omega
    · have h7 := (h.ofr j' c h5 h6).2; have h8 := (hr.own n c h3 h4).1; omega
    · rw [hr.inj n n' c h3 h5 h4 h6]
  · intro j j' c h1 h2 h3
    rcases hoc j' c h2 h3 with ⟨h4, h5⟩ | ⟨n, _, rfl, h4, h5⟩
    · exact h.disj j j' c h1 h4 h5
    · have h7 := (h.mfr j c h1).2; have h8 := (hr.own n c h4 h5).1; omega
  · intro n ds hds
    simp only [setB, List.mem_map] at hds
    obtain ⟨⟨k', ds'⟩, hp, he⟩ := hds
    obtain ⟨c, arr', h1, h2, h3, h4⟩ := h.blk k' ds' hp
    have hcl := (h.mfr k' c h1).2
    cases hb : Nat.beq k' N
    · simp only [hb, cond_false, Prod.mk.injEq] at he
      obtain ⟨rfl, rfl⟩ := he
      have hne : c ≠ b := fun e => by
        subst e
        have := h.minj k' N c h1 hn
        rw [this] at hb; simp at hb
      exact ⟨c, arr', h1, (heap c hcl hne).trans h2, reps_goes goes h3, fun o ho => h4 o (hI2 c o hcl ho)⟩
    · simp only [hb, cond_true, Prod.mk.injEq] at he
      obtain ⟨rfl, rfl⟩ := he
      have e := Nat.eq_of_beq_eq_true hb
      rw [e] at h1 ⊢
      have : c = b := by rw [hn] at h1; exact (Option.some.inj h1).symm
      subst this
      exact ⟨c, arr, hn, hh, reps_dt (g := g') (g' := gc) rfl hd hc, hI⟩
  · obtain ⟨ds, hd'⟩ := h.key j c hj
    cases hb : Nat.beq j N
    · exact ⟨ds, List.mem_map.2 ⟨_, hd', by simp only [hb, cond_false]⟩⟩
    · exact ⟨cs', List.mem_map.2 ⟨_, hd', by simp only [hb, cond_true]⟩⟩
  · intro j hj
    rcases hj with hj | ⟨_, n, hn, rfl, _⟩
    · exact List.mem_append_right _ (h.own j hj)
    · exact List.mem_append_left _ (List.mem_map.2 ⟨n, hn, rfl⟩)
  · intro b o hb
    rcases hr.new b o hb with h1 | h1
    · exact h.inew b o h1
    · exact .inr (.inl (Nat.le_trans h.base h1))
section
variable {E : En} {ops : Array Oper} {rest : List Oper} {Q : Exit → St → Prop} {tm : List (Nat × AV)} {bl : List (Nat × List AV)} {ow : List Nat} {d : Nat} {ty : TypeId} {pos : String} {af : Array Edge}
theorem wlptr {x : Operand} {xs : Array Operand} {ts : Array TypeId} {f N : Nat} {args cs : List AV} {R : AV → List AV → Prop} (k : Nat) (os : List Nat) [hf : FnOk E.P f] (h : CallPtr E.P f args cs R) (hx : ev tm x = .v (.func (.func f) #[] #[])) (ha : PtA N (xs.toList.map (ev tm)) args) (hb : lookB bl N = some cs) (hcs : dtL cs = true) (hro : N ∉ E.ron)
    (hR : ∀ r cs', R r cs' → ownsIn os r = true ∧ dtL cs' = true) (hfr : (os.all fun n => ow.all fun j => !Nat.beq (k + n) j) = true) (hd : Nat.blt d E.nt = true)
    (hk : ∀ r cs', R r cs' → WL E ops rest Q ⟨(d, ren k r) :: tm, setB bl N cs', os.map (k + ·) ++ ow⟩) (hn7 : Nat.blt N 7000000 = true := by rfl) : WL E ops (⟨some d, .call ⟨.value x, xs, ts⟩, ty, pos, af, none⟩ :: rest) Q ⟨tm, bl, ow⟩ := by
  intro g a w hi
  unfold wpListIn
  rw [show Region.wanted ⟨some d, .call ⟨.value x, xs, ts⟩, ty, pos, af, none⟩ (yielded ops a.tmps) = true by simp [Region.wanted]]
  refine wpIn_of_wp (fun _ h => by cases h) ?_
  have h1 := rep_ev hi.tm x
  have h2 : reps g w (xs.toList.map (ev tm)) (xs.toList.map a.eval) := reps_map _ fun y _ => rep_ev hi.tm y
  rw [hx] at h1
  simp only [rep] at h1
  obtain ⟨fn, f1, f2, f3⟩ := hf.ok
  have f2' : fn.name ≠ "runtime.NumGoroutine" := by simpa using f2
  have f3' : fn.body ≠ none := fun e => by rw [e] at f3; simp at f3
  have hrun : (execOp a.eval ⟨some d, .call ⟨.value x, xs, ts⟩, ty, pos, af, none⟩).run E.P w = .ok (.enter f (xs.map a.eval)) w := by
    simp [execOp, resolve, Deferred.ofValue, h1, invoke, callFunc, f1, f2', f3']
  unfold Oper.wp
  rw [hrun]
  obtain ⟨b, arr, m1, m2, m3, m4⟩ := hi.mem.blk _ _ (lookB_mem hb)
  refine (h g.I w b (g.mt N) (xs.map a.eval) arr hi.mem.cell m4 m2 (reps_dt (g := g) (g' := gP g.I b (g.mt N)) rfl hcs m3) (by rw [Array.toList_map]; exact reps_ptA m1 ha h2)).mono fun e' w' he => ?_
  obtain ⟨y, r, cs', arr', g', rfl, hr, k1, k2, k3, k4, k5⟩ := he
  obtain ⟨q1, q2⟩ := hR r cs' hr
  have hfr' : ∀ n ∈ os, k + n ∉ ow := fun n hn hm => by
    have := List.all_eq_true.1 (List.all_eq_true.1 hfr n hn) _ hm
    simp at this
  obtain ⟨gc, p1, p2, p3, p4, _⟩ := hi.mem.turned m1 hro k2 k3 k4 q2 k5 k os hfr' hn7
  have hput := look_put (E := E) (g := gc) (w := w') (a := a) (s := ⟨tm, setB bl N cs', ow⟩) (d := some d) (v := ren k r) (y := y) [] (os.map (k + ·)) (fun k hk => by cases hk; exact Nat.le_of_ble_eq_true hd) hi.sz (fun t => rep_goes p1 (hi.tm t)) (rep_ren p3 p4 q1 k1)
  exact hk r cs' hr gc _ w' ⟨p2, hput, hi.de, by simp [Act.put, hi.sz]⟩
end
end Go.Eng

namespace Go.Eng
open Go

def CallMake (P : Program) (f : Nat) (args : List AV) (R : List AV → Prop) : Prop :=
  ∀ (I : Nat → Nat → Prop) (w : World) (vals : Array Value), (∀ b o, I b o → (w.cell? ⟨b, o, none⟩).isSome = true) → dreps I w args vals.toList →
    Calls P f vals w fun e w' => ∃ (b T : Nat) (arr : Array Value) (cs : List AV) (g' : Gh), e = .returned (.pointer (some ⟨b, 0, none⟩)) ∧ R cs ∧ dtL cs = true ∧ w.heap.size ≤ b ∧ w'.heap[b]? = some (.cells arr T (0, 0)) ∧ reps g' w' cs arr.toList ∧ (∀ o, ¬ g'.I b o) ∧ Ret I w g' w'
def makeQ (E : En) (rs : List ResultVar) (R : List AV → Prop) : Exit → St → Prop
  | .normal, s => ∃ n cs, resA E.P s rs [.ptr n 0] ∧ (n, cs) ∈ s.bl ∧ R cs ∧ dtL cs = true
  | .ret, s => ∃ n cs, resA E.P s rs [.ptr n 0] ∧ (n, cs) ∈ s.bl ∧ R cs ∧ dtL cs = true
  | _, _ => False
theorem callMake {P : Program} {f nt : Nat} {fn : Func} {rs : Array ResultVar} {c : Code} {args : List AV} {tm : List (Nat × AV)} {R : List AV → Prop} (hf : P.funcs[f]? = some fn) (hnt : fn.ntmps = nt) (hrs : fn.results = rs) (hb : fn.body = some c) (hn : Nat.ble args.length nt = true) (htm : iniO 0 args = some tm)
    (h : ∀ (B : Nat) (w0 : World) (I0 : Nat → Nat → Prop), W ⟨P, B, w0, nt, fun _ => False, [], I0, fun _ _ _ => False, none, []⟩ c (makeQ ⟨P, B, w0, nt, fun _ => False, [], I0, fun _ _ _ => False, none, []⟩ rs.toList R) ⟨tm, [], []⟩) : CallMake P f args R := by
  subst hnt; subst hrs
  intro I w vals hI hargs
  have htm' := iniO_eq htm
  let E : En := ⟨P, w.heap.size, w, fn.ntmps, fun _ => False, [], I, fun _ _ _ => False, none, []⟩
  let g : Gh := ⟨I, fun _ => none, fun _ => none, fun _ => False, fun _ => 0⟩
  have hlen := dreps_length hargs
  have hn' := Nat.le_of_ble_eq_true hn
  have hargs' : reps g w args vals.toList := reps_of_dreps hargs
  refine calls_of_wp hf hb ?_
  refine wp_W (h w.heap.size w I g _ w ⟨⟨BelowM.refl _ _ _, Nat.le_refl _, hI, fun n b h => by simp [g] at h, fun n b h => by simp [g] at h, fun n n' b h => by simp [g] at h, fun n n' b h => by simp [g] at h, fun n n' b h => by simp [g] at h,
    fun n cs h => by simp at h, fun n b h => by simp [g] at h, fun n h => by simp [g] at h, fun b o h => .inl h, fun b o h => h, fun n b T h => h.elim⟩, fun t => ?_, rfl, ?_⟩) fun e a' w' hq => ?_
  · rw [← htm']
    simp only [look_zip, Nat.zero_le, if_true, Nat.sub_zero]
    rcases Nat.lt_or_ge t args.length with h1 | h1
    · obtain ⟨y, hy, hr⟩ := reps_get hargs' (List.getElem?_eq_getElem h1)
      have : t < vals.size := by simpa [← hlen] using h1
      have hy' : vals[t] = y := by simpa [this] using hy
      simp only [List.getD_eq_getElem?_getD, List.getElem?_eq_getElem h1, Option.getD_some]
      simp only [Array.getD_eq_getD_getElem?, Array.getElem?_append_left this, Array.getElem?_eq_getElem this, Option.getD_some, hy']
      exact hr
    · simp only [List.getD_eq_getElem?_getD, List.getElem?_eq_none h1, Option.getD_none, rep]
  · have : vals.size = args.length := by simpa using hlen
    simp; omega
  · obtain ⟨g', s', hq, hi⟩ := hq
    have fin : (∃ n cs, resA P s' fn.results.toList [.ptr n 0] ∧ (n, cs) ∈ s'.bl ∧ R cs ∧ dtL cs = true) → a'.defers = [] ∧ ∃ v, (results fn a'.tmps).run P w' = .ok v w' ∧
        ∃ (b T : Nat) (arr : Array Value) (cs : List AV) (g' : Gh), Ending.returned v = .returned (.pointer (some ⟨b, 0, none⟩)) ∧ R cs ∧ dtL cs = true ∧ w.heap.size ≤ b ∧ w'.heap[b]? = some (.cells arr T (0, 0)) ∧ reps g' w' cs arr.toList ∧ (∀ o, ¬ g'.I b o) ∧ Ret I w g' w' := by
      rintro ⟨n, cs, h1, h2, h3, h4⟩
      obtain ⟨y, k1, k2⟩ := run_results hi h1
      obtain ⟨b, arr, m1, m2, m3, m4⟩ := hi.mem.blk n cs h2
      have k3 : rep g' w' (.ptr n 0) y := k2
      simp only [rep] at k3
      obtain ⟨c, c1, c2⟩ := k3
      have : c = b := by rw [m1] at c1; exact (Option.some.inj c1).symm
      subst this
      subst c2
      have m5 := (hi.mem.mfr n c m1).1
      have m6 : w.heap.size ≤ c := by
        rcases m5 with m5 | m5 | m5
        · cases m5
        · exact m5
        · exact m5.elim
      exact ⟨hi.de, _, k1, c, g'.mt n, arr, cs, g', rfl, h3, h4, m6, m2, m3, m4,
        ⟨⟨hi.mem.below.os, hi.mem.below.tape, hi.mem.below.output, hi.mem.below.size, hi.mem.below.block⟩, hi.mem.iold, fun b o h => (hi.mem.inew b o h).imp id (fun h => h.resolve_right (fun h => h)), hi.mem.cell, fun n b h1 h2 => ⟨(hi.mem.ofr n b h1 h2).1.resolve_right (fun h => h), (hi.mem.ofr n b h1 h2).2⟩, hi.mem.oinj⟩⟩
    cases e with
    | normal => exact fin hq
    | ret => exact fin hq
    | _ => exact hq.elim
theorem Mem.made {E : En} {g g' : Gh} {bl : List (Nat × List AV)} {ow : List Nat} {w w' : World} {N b T : Nat} {cs : List AV} {arr : Array Value} (hm : Mem E g bl ow w) (hr : Ret g.I w g' w') (hfr : ∀ q ∈ bl, N ≠ q.1) (hb : w.heap.size ≤ b) (hh : w'.heap[b]? = some (.cells arr T (0, 0)))
    (hc : reps g' w' cs arr.toList) (hd : dtL cs = true) (hI : ∀ o, ¬ g'.I b o) :
    ∃ gc, Goes g w gc w' ∧ Mem E gc ((N, cs) :: bl) ow w' ∧ gc.m N = some b := by
  have hnone : g.m N = none := by
    cases hmN : g.m N with
    | none => rfl
    | some b' => obtain ⟨cs', hc⟩ := hm.key N b' hmN; exact absurd rfl (hfr _ hc)
  let gc : Gh := { g with I := g'.I, m := fun k => if k = N then some b else g.m k, mt := fun k => if k = N then T else g.mt k }
  have heap : ∀ c, c < w.heap.size → w'.heap[c]? = w.heap[c]? := fun c hb => hr.below.block c hb (fun h => h)
  have hIlt : ∀ b o, g.I b o → b < w.heap.size := fun b o hb => cell_lt (hm.cell b o hb)
  have keeps : Keeps g.I w w' := fun c o hb => World.cell?_of_block (a := ⟨c, o, none⟩) (heap c (hIlt c o hb))
  have hI2 : ∀ c o, c < w.heap.size → g'.I c o → g.I c o := fun c o hb hI => (hr.new c o hI).resolve_right (by omega)
  have hsz := hr.below.size
  have hbw : b < w'.heap.size := (Array.getElem?_eq_some_iff.1 hh).1
  have hmm : ∀ k c, gc.m k = some c → (k = N ∧ c = b) ∨ (k ≠ N ∧ g.m k = some c) := fun k c hk => by
    by_cases e : k = N
    · simp only [gc, e, if_true, Option.some.injEq] at hk; exact .inl ⟨e, hk.symm⟩
    · simp only [gc, e, if_false] at hk; exact .inr ⟨e, hk⟩
  have hold : ∀ k c, g.m k = some c → k ≠ N := fun k c hk e => by rw [e, hnone] at hk; cases hk
  have goes : Goes g w gc w' := ⟨hr.old, keeps, fun k c hk => by simp only [gc, hold k c hk, if_false]; exact hk, fun k c hk => by simp only [gc, hold k c hk, if_false],
    fun n T e rows y hy => ownRep_goes (g := g) (g' := gc) hr.old keeps (fun k hk => ⟨hk, rfl⟩) (fun n c h1 h2 => heap c (hm.ofr n c h1 h2).2) (fun n c o h1 h2 h3 => hI2 c o (hm.ofr n c h1 h2).2 h3) hy, fun _ c _ _ _ hc => hc.same (heap c hc.lt)⟩
  refine ⟨gc, goes, ?_, by simp [gc]⟩
  exact
    { below := ⟨hr.below.os.trans hm.below.os, hr.below.tape.trans hm.below.tape, hr.below.output.trans hm.below.output, Nat.le_trans hm.below.size hsz, fun k hk hM => (heap k (Nat.lt_of_lt_of_le hk hm.base)).trans (hm.below.block k hk hM)⟩
      base := Nat.le_trans hm.base hsz
      cell := hr.cell
      mfr := fun k c hk => by
        rcases hmm k c hk with ⟨_, rfl⟩ | ⟨_, k2⟩
        · exact ⟨.inr (.inl (Nat.le_trans hm.base hb)), hbw⟩
        · exact ⟨(hm.mfr k c k2).1, Nat.lt_of_lt_of_le (hm.mfr k c k2).2 hsz⟩
      ofr := fun k c k1 k2 => ⟨(hm.ofr k c k1 k2).1, Nat.lt_of_lt_of_le (hm.ofr k c k1 k2).2 hsz⟩
      minj := fun k k' c k1 k2 => by
        rcases hmm k c k1 with ⟨p1, p2⟩ | ⟨_, p2⟩ <;> rcases hmm k' c k2 with ⟨q1, q2⟩ | ⟨_, q2⟩
        · rw [p1, q1]
        · have := (hm.mfr k' _ q2).2; omega
        · have := (hm.mfr k _ p2).2; omega
        · exact hm.minj k k' c p2 q2
      oinj := hm.oinj
      disj := fun k k' c k1 k2 k3 => by
        rcases hmm k c k1 with ⟨p1, p2⟩ | ⟨_, p2⟩
        · have := (hm.ofr k' _ k2 k3).2; omega
        · exact hm.disj k k' c p2 k2 k3
      blk := fun k ds hk => by
        rcases List.mem_cons.1 hk with hk | hk
        · cases hk
          exact ⟨b, arr, by simp [gc], by simp only [gc, if_true]; exact hh, reps_dt (g := g') (g' := gc) rfl hd hc, hI⟩
        · obtain ⟨c, arr', p1, p2, p3, p4⟩ := hm.blk k ds hk
          have hne := hold k c p1
          have hcl := (hm.mfr k c p1).2
          exact ⟨c, arr', by simp only [gc, hne, if_false]; exact p1, by simp only [gc, hne, if_false]; exact (heap c hcl).trans p2, reps_goes goes p3, fun o ho => p4 o (hI2 c o hcl ho)⟩
      key := fun k c hk => by
        rcases hmm k c hk with ⟨rfl, _⟩ | ⟨_, k2⟩
        · exact ⟨cs, List.mem_cons_self ..⟩
        · obtain ⟨ds, hd'⟩ := hm.key k c k2
          exact ⟨ds, List.mem_cons_of_mem _ hd'⟩
      own := hm.own
      inew := fun c o hc => by
        rcases hr.new c o hc with h1 | h1
        · exact hm.inew c o h1
        · exact .inr (.inl (Nat.le_trans hm.base h1))
      iold := fun c o hc => hr.old c o (hm.iold c o hc)
      pin := fun k c U hp => by
        obtain ⟨p1, p2⟩ := hm.pin k c U hp
        have hne := hold k c p1
        simp only [gc, hne, if_false]
        exact ⟨p1, p2⟩ }
section
variable {E : En} {ops : Array Oper} {rest : List Oper} {Q : Exit → St → Prop} {tm : List (Nat × AV)} {bl : List (Nat × List AV)} {ow : List Nat} {d : Nat} {ty : TypeId} {pos : String} {af : Array Edge}
theorem wlmake {x : Operand} {xs : Array Operand} {ts : Array TypeId} {f : Nat} {ys : List AV} {R : List AV → Prop} (N : Nat) [hf : FnOk E.P f] (h : CallMake E.P f ys R) (hx : ev tm x = .v (.func (.func f) #[] #[])) (ha : LeDs (xs.toList.map (ev tm)) ys)
    (hfr : (bl.all fun q => !Nat.beq N q.1) = true) (hd : Nat.blt d E.nt = true) (hk : ∀ cs, R cs → WL E ops rest Q ⟨(d, .ptr N 0) :: tm, (N, cs) :: bl, ow⟩) :
    WL E ops (⟨some d, .call ⟨.value x, xs, ts⟩, ty, pos, af, none⟩ :: rest) Q ⟨tm, bl, ow⟩ := by
  intro g a w hi
  unfold wpListIn
  rw [show Region.wanted ⟨some d, .call ⟨.value x, xs, ts⟩, ty, pos, af, none⟩ (yielded ops a.tmps) = true by simp [Region.wanted]]
  refine wpIn_of_wp (fun _ h => by cases h) ?_
  have h1 := rep_ev hi.tm x
  have h2 : reps g w (xs.toList.map (ev tm)) (xs.toList.map a.eval) := reps_map _ fun y _ => rep_ev hi.tm y
  rw [hx] at h1
  simp only [rep] at h1
  obtain ⟨fn, f1, f2, f3⟩ := hf.ok
  have f2' : fn.name ≠ "runtime.NumGoroutine" := by simpa using f2
  have f3' : fn.body ≠ none := fun e => by rw [e] at f3; simp at f3
  have hrun : (execOp a.eval ⟨some d, .call ⟨.value x, xs, ts⟩, ty, pos, af, none⟩).run E.P w = .ok (.enter f (xs.map a.eval)) w := by
    simp [execOp, resolve, Deferred.ofValue, h1, invoke, callFunc, f1, f2', f3']
  unfold Oper.wp
  rw [hrun]
  refine (h g.I w (xs.map a.eval) hi.mem.cell (by rw [Array.toList_map]; exact dreps_leDs (g := g) ha h2)).mono fun e' w' he => ?_
  obtain ⟨b, T, arr, cs, g', rfl, k1, k2, k3, k4, k5, k6, k7⟩ := he
  have hfr' : ∀ q ∈ bl, N ≠ q.1 := fun q hq e => by
    have := List.all_eq_true.1 hfr q hq
    rw [e] at this; simp at this
  obtain ⟨gc, p1, p2, p3⟩ := hi.mem.made k7 hfr' k3 k4 k5 k2 k6
  have hput := look_put (E := E) (g := gc) (w := w') (a := a) (s := ⟨tm, (N, cs) :: bl, ow⟩) (d := some d) (v := .ptr N 0) (y := .pointer (some ⟨b, 0, none⟩)) [] [] (fun k hk => by cases hk; exact Nat.le_of_ble_eq_true hd) hi.sz (fun t => rep_goes p1 (hi.tm t)) (by simp only [rep]; exact ⟨b, p3, rfl⟩)
  exact hk cs k1 gc _ w' ⟨p2, hput, hi.de, by simp [Act.put, hi.sz]⟩
end
theorem ptrEnd {E : En} {rs : List ResultVar} {R : AV → List AV → Prop} {s s' : St} {xs cs' : List AV} (hw : Weak E s s') (h1 : resA E.P s' rs xs) (h2 : lookB s'.bl 1000000 = some cs') (h4 : refs [] s'.ow (oneA xs) = true) (h5 : dtL cs' = true) (h3 : R (oneA xs) cs') :
    ∃ s', Weak E s s' ∧ ∃ xs cs', resA E.P s' rs xs ∧ (1000000, cs') ∈ s'.bl ∧ R (oneA xs) cs' ∧ refs [] s'.ow (oneA xs) = true ∧ dtL cs' = true := ⟨s', hw, xs, cs', h1, lookB_mem h2, h3, h4, h5⟩
theorem makeEnd {P : Program} {rs : List ResultVar} {R : List AV → Prop} {s : St} {n : Nat} {cs : List AV} (h1 : resA P s rs [.ptr n 0]) (h2 : lookB s.bl n = some cs) (h4 : dtL cs = true) (h3 : R cs) : ∃ n cs, resA P s rs [.ptr n 0] ∧ (n, cs) ∈ s.bl ∧ R cs ∧ dtL cs = true := ⟨n, cs, h1, lookB_mem h2, h3, h4⟩
def bitsV (op : BinOp) (k : IntKind) (a b : Int) : Option Int :=
  match op with
  | .and => some (k.wrap ((BitVec.ofInt k.bits a &&& BitVec.ofInt k.bits b).toNat))
  | .xor => some (k.wrap ((BitVec.ofInt k.bits a ^^^ BitVec.ofInt k.bits b).toNat))
  | .or => some (k.wrap ((BitVec.ofInt k.bits a ||| BitVec.ofInt k.bits b).toNat))
  | _ => none
section
variable {E : En} {bl : List (Nat × List AV)} {tm : List (Nat × AV)} {d : Option Tmp} {ty : TypeId} {pos : String} {af : Array Edge} {gd : Option (Nat × Bool)}
theorem QV_bits {op : BinOp} {xT yT : TypeId} {x y : Operand} {k : IntKind} {a b r : Int} (hx : ev tm x = .v (.int k a)) (hy : ev tm y = .v (.int k b)) (h : bitsV op k a b = some r) :
    QV E bl tm ⟨d, .binOp op xT x y yT, ty, pos, af, gd⟩ (.v (.int k r)) [] [] :=
  QV_pure fun g w ρ hop => by
    have h1 := hop x (by simp [Op.operands])
    have h2 := hop y (by simp [Op.operands])
    rw [hx] at h1; rw [hy] at h2
    simp only [rep] at h1 h2
    refine ⟨.int k r, ?_, by simp [rep]⟩
    simp only [execOp, h1, h2]
    cases op <;> simp only [bitsV, Option.some.injEq, reduceCtorEq] at h <;> subst h <;>
      simp [eqGuard, binOp, Op.intBits]
theorem QV_shr {xT yT : TypeId} {x y : Operand} {k k' : IntKind} {a n : Int} (hx : ev tm x = .v (.int k a)) (hy : ev tm y = .v (.int k' n)) (hn : ¬ n < 0) {r : Int} (h : a.fdiv (2 ^ min n.toNat k.bits) = r) :
    QV E bl tm ⟨d, .binOp .shr xT x y yT, ty, pos, af, gd⟩ (.v (.int k r)) [] [] :=
  QV_pure fun g w ρ hop => by
    have h1 := hop x (by simp [Op.operands])
    have h2 := hop y (by simp [Op.operands])
    rw [hx] at h1; rw [hy] at h2
    simp only [rep] at h1 h2
    refine ⟨.int k r, ?_, by simp [rep]⟩
    simp only [execOp, h1, h2]
    simp [eqGuard, binOp, Op.shift, hn, h]
theorem bits255 {op : BinOp} {a : Int} (h : op = .and) : ∃ r : Int, bitsV op .i64 a 255 = some r ∧ 0 ≤ r ∧ r ≤ 255 := by
  subst h
  refine ⟨_, rfl, ?_⟩
  have h : (BitVec.ofInt 64 a &&& BitVec.ofInt 64 255).toNat ≤ 255 := by
    rw [BitVec.toNat_and]
    exact Nat.and_le_right
  have e : IntKind.i64.wrap ((BitVec.ofInt IntKind.i64.bits a &&& BitVec.ofInt IntKind.i64.bits 255).toNat : Int) = IntKind.i64.wrap ((BitVec.ofInt 64 a &&& BitVec.ofInt 64 255).toNat : Int) := rfl
  rw [e, IntWalk.i64_in _ (by omega)]
  omega
theorem bitsAny (op : BinOp) (a b : Int) (h : op = .and ∨ op = .xor) : ∃ r : Int, bitsV op .i64 a b = some r := by
  rcases h with rfl | rfl <;> exact ⟨_, rfl⟩
end
end Go.Eng

namespace Go.Eng
open Go

def inL : List Nat → Nat → Bool
  | [], _ => false
  | k :: r, i => bif Nat.beq k i then true else inL r i
def pickB (ls : List Nat) (i : Nat) (bl : List (Nat × List AV)) : List (Nat × List AV) := bif inL ls i then [] else bl
def HS (E : En) (ops : Array Oper) (bl : List (Nat × List AV)) (ls : List Nat) : Nat → List Oper → St → (St → Prop) → Prop
  | _, [], s, K => K s
  | k, o :: rest, s, K =>
    (∃ v, QV E (pickB ls k bl) s.tm o v [] [] ∧ dstB E.nt o = true ∧
      (o.guard = none ∨ ∃ j d b, o.guard = some (j, b) ∧ (ops[j]?).bind (·.dst) = some d ∧ look s.tm d = .v (.bool b)) ∧ HS E ops bl ls (k + 1) rest (s.app o.dst v [] []) K) ∨
    (∃ j d b, o.guard = some (j, !b) ∧ (ops[j]?).bind (·.dst) = some d ∧ look s.tm d = .v (.bool b) ∧ dstB E.nt o = true ∧ HS E ops bl ls (k + 1) rest (s.app o.dst (.v undef) [] []) K)
def SV (E : En) (tm : List (Nat × AV)) (bl : List (Nat × List AV)) (o : Oper) (bl1 : List (Nat × List AV)) : Prop :=
  o.dst = none ∧ o.guard = none ∧ ∀ (g : Gh) (w : World) (ρ : Operand → Value) (ow : List Nat), Mem E g bl ow w → (∀ x ∈ o.op.operands, rep g w (ev tm x) (ρ x)) →
    UponQ E.P (fun _ w' => ∃ g', Goes g w g' w' ∧ Mem E g' bl1 ow w') ((execOp ρ o).run E.P w)
structure StepS (E : En) (ops : Array Oper) (bl : List (Nat × List AV)) (s : St) (o : Oper) (t : Tr) : Prop where
  d : t.d = o.dst
  dst : dstB E.nt o = true
  nb : t.nb = []
  no : t.no = []
  run : (QV E bl s.tm o t.v [] [] ∧ (o.guard = none ∨ ∃ j d b, o.guard = some (j, b) ∧ (ops[j]?).bind (·.dst) = some d ∧ look s.tm d = .v (.bool b))) ∨
    (t.v = .v undef ∧ ∃ j d b, o.guard = some (j, !b) ∧ (ops[j]?).bind (·.dst) = some d ∧ look s.tm d = .v (.bool b))
theorem HS_trace {E : En} {ops : Array Oper} {bl : List (Nat × List AV)} {ls : List Nat} {K : St → Prop} : ∀ (l : List Oper) (k : Nat) (s : St), HS E ops bl ls k l s K →
    ∃ T : List Tr, T.length = l.length ∧ K (stS (fun _ => true) T 0 s) ∧ (∀ t ∈ T, t.nb = [] ∧ t.no = []) ∧
      (∀ i o t, l[i]? = some o → T[i]? = some t → StepS E ops (pickB ls (k + i) bl) (stS (fun j => decide (j < i)) T 0 s) o t)
  | [], k, s, h => ⟨[], rfl, h, fun t ht => by simp at ht, fun i o t hi => by simp at hi⟩
  | o :: rest, k, s, h => by
    have shift : ∀ (L : Nat → Bool) (T : List Tr) (i : Nat) (s : St), stS L T (i + 1) s = stS (fun j => L (j + 1)) T i s := by
      intro L T
      induction T with
      | nil => intro i s; rfl
      | cons t T ih => intro i s; simp only [stS]; exact ih (i + 1) _
    have zero : ∀ (T : List Tr) (i : Nat) (s : St), stS (fun _ => false) T i s = s := by
      intro T
      induction T with
      | nil => intro i s; rfl
      | cons t T ih => intro i s; simp only [stS, cond_false]; exact ih _ s
    have go : ∀ (t : Tr), StepS E ops (pickB ls k bl) s o t → HS E ops bl ls (k + 1) rest (s.app t.d t.v [] []) K →
        ∃ T : List Tr, T.length = (o :: rest).length ∧ K (stS (fun _ => true) T 0 s) ∧ (∀ t ∈ T, t.nb = [] ∧ t.no = []) ∧
      (∀ i o' t, (o :: rest)[i]? = some o' → T[i]? = some t → StepS E ops (pickB ls (k + i) bl) (stS (fun j => decide (j < i)) T 0 s) o' t) := by
      intro t hs hk
      obtain ⟨T, h1, h2, h0, h3⟩ := HS_trace rest (k + 1) _ hk
      refine ⟨t :: T, by simp [h1], ?_, ?_, fun i o' t' hi ht => ?_⟩
      · simp only [stS, cond_true]; rw [shift, hs.nb, hs.no]; exact h2
      · intro t' ht'
        rcases List.mem_cons.1 ht' with rfl | ht'
        · exact ⟨hs.nb, hs.no⟩
        · exact h0 t' ht'
      · cases i with
        | zero =>
          simp only [List.getElem?_cons_zero, Option.some.injEq] at hi ht
          subst hi; subst ht
          have e : stS (fun j => decide (j < 0)) (t :: T) 0 s = s := by
            simp only [stS, Nat.not_lt_zero, decide_false, cond_false]; exact zero _ _ _
          rw [e]; exact hs
        | succ i =>
          have := h3 i o' t' (by simpa using hi) (by simpa using ht)
          simp only [stS, Nat.zero_lt_succ, decide_true, cond_true]
          rw [shift, hs.nb, hs.no, show k + (i + 1) = k + 1 + i by omega]
          simpa [Nat.add_lt_add_iff_right] using this
    rcases h with ⟨v, h1, h2, h4, h5⟩ | ⟨j, d, b, h1, h2, h3, h4, h5⟩
    · exact go ⟨o.dst, v, [], []⟩ ⟨rfl, h2, rfl, rfl, .inl ⟨h1, h4⟩⟩ h5
    · exact go ⟨o.dst, .v undef, [], []⟩ ⟨rfl, h4, rfl, rfl, .inr ⟨rfl, j, d, b, h1, h2, h3⟩⟩ h5
theorem stS_bl {L : Nat → Bool} : ∀ (T : List Tr) (i : Nat) (s : St), (∀ t ∈ T, t.nb = [] ∧ t.no = []) → (stS L T i s).bl = s.bl ∧ (stS L T i s).ow = s.ow
  | [], _, s, _ => ⟨rfl, rfl⟩
  | t :: T, i, s, h => by
    simp only [stS]
    obtain ⟨h1, h2⟩ := stS_bl (L := L) T (i + 1) (bif L i then s.app t.d t.v t.nb t.no else s) fun t' ht' => h t' (by simp [ht'])
    obtain ⟨e1, e2⟩ := h t (by simp)
    rw [h1, h2]
    cases L i
    · exact ⟨rfl, rfl⟩
    · simp only [cond_true, St.app, e1, e2]; exact ⟨rfl, rfl⟩
section
variable {E : En} {ops : Array Oper} {bl0 : List (Nat × List AV)} {ls : List Nat} {k : Nat} {rest : List Oper} {K : St → Prop} {tm : List (Nat × AV)} {bl bl1 : List (Nat × List AV)} {ow : List Nat} {d : Nat} {op : Op} {ty : TypeId} {pos : String} {af : Array Edge} {gd : Option (Nat × Bool)} {v : AV} {Q : Exit → St → Prop}
theorem HS_nil {s : St} (h : K s) : HS E ops bl0 ls k [] s K := h
theorem hs0 (h : QV E (pickB ls k bl0) tm ⟨some d, op, ty, pos, af, gd⟩ v [] []) (hg : GY ops tm gd) (hd : Nat.blt d E.nt = true) (hk : HS E ops bl0 ls (k + 1) rest ⟨(d, v) :: tm, bl, ow⟩ K) : HS E ops bl0 ls k (⟨some d, op, ty, pos, af, gd⟩ :: rest) ⟨tm, bl, ow⟩ K := by
  refine .inl ⟨v, h, hd, ?_, hk⟩
  cases gd with
  | none => exact .inl rfl
  | some p => obtain ⟨j, b⟩ := p; obtain ⟨d', h1, h2⟩ := hg; exact .inr ⟨j, d', b, rfl, h1, h2⟩
theorem SV_store {t : Nat} {x y : Operand} {n o sz : Nat} {ag : Bool} {cs : List AV} [ht : TyOk E.P t ag sz] (hx : ev tm x = .ptr n o) (hy : ev tm y = v) (hb : lookB bl n = some cs) (hro : n ∉ E.ron)
    (hc : isC v = true) (hall : (acells v).all isCell = true) (hl : (acells v).length = sz) (hfit : o + sz ≤ cs.length) : SV E tm bl ⟨none, .store t x y, ty, pos, af, none⟩ (setB bl n (splice cs o (acells v))) := by
  refine ⟨rfl, rfl, fun g w ρ ow hm hop => ?_⟩
  have h1 := hop x (by simp [Op.operands])
  have h2 := hop y (by simp [Op.operands])
  rw [hx] at h1; rw [hy] at h2
  simp only [rep] at h1
  obtain ⟨b, h1, h1'⟩ := h1
  obtain ⟨b', arr, e1, e2, e3, e4⟩ := hm.blk n cs (lookB_mem hb)
  have : b' = b := by rw [h1] at e1; exact (Option.some.inj e1).symm
  subst this
  have hcs := reps_cellsC h2 hc
  have hvl : (ρ y).cells.size = sz := by rw [cells_length h2 hc, hl]
  have hal := reps_length e3
  have hall' : ∀ u ∈ (ρ y).cells.toList, u.oneCell' = true := by
    have : ∀ (xs : List AV) (ys : List Value), reps g w xs ys → xs.all isCell = true → ∀ u ∈ ys, u.oneCell' = true := by
      intro xs
      induction xs with
      | nil => intro ys h _ u hu; simp only [reps] at h; subst h; simp at hu
      | cons x xs ih =>
        intro ys h ha u hu
        simp only [reps] at h
        obtain ⟨z, zs, rfl, k1, k2⟩ := h
        simp only [List.all_cons, Bool.and_eq_true] at ha
        rcases List.mem_cons.1 hu with rfl | hu
        · exact oneCell_of k1 ha.1
        · exact ih zs k2 ha.2 u hu
    exact this _ _ hcs hall
  have hst := run_storeCells_at E.P b' o (g.mt n) (ρ y).cells.toList 0 arr w e2 (by simp at hal ⊢; omega) hall'
  simp only [Nat.add_zero] at hst
  have hrun : (execOp ρ ⟨none, .store t x y, ty, pos, af, none⟩).run E.P w = .ok .skip (w.setRow b' (arr.toList.take o ++ (ρ y).cells.toList ++ arr.toList.drop (o + (ρ y).cells.toList.length)).toArray) := by
    have hne : ¬ ((ρ y).cells.size ≠ sz) := by omega
    simp only [execOp, h1', Instr.storeAt, Instr.sureAddr, storeVar, Sem.run_bind, Sem.run_pure, Result.andThen_ok, ht.sz, if_neg hne, hst]
  have hrs := reps_splice (off := o) e3 hcs
  obtain ⟨k1, k2⟩ := hm.setBlock (cs := splice cs o (acells v)) (arr := (arr.toList.take o ++ (ρ y).cells.toList ++ arr.toList.drop (o + (ρ y).cells.toList.length)).toArray) h1 hro e2 e4 (by simpa [List.append_assoc] using hrs) (by simp at hal ⊢; omega)
  rw [hrun]
  exact ⟨g, k1, k2⟩
end
end Go.Eng
