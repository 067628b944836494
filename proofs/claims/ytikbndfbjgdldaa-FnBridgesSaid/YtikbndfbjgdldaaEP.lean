/- append to a slice of the call's own; results seen as data. No program in sight. -/
import Derived.Test.YtikbndfbjgdldaaEM
import Derived.ArgAppend
namespace Go.Eng
open Go

/- Behind an append the old slice of that name is seen as data alone. -/
mutual
def kill (n : Nat) : AV → AV
  | .agg cs => .agg (killL n cs)
  | .tup cs => .tup (killL n cs)
  | .own k T e rows => bif Nat.beq k n then .sl e rows else .own k T e rows
  | .fn f fs cs => .fn f (killL n fs) (killL n cs)
  | .top => .top
  | .v x => .v x
  | .sl e rows => .sl e rows
  | .ptr k o => .ptr k o
  | .eptr cs => .eptr cs
  | .arr k T e l => .arr k T e l
def killL (n : Nat) : List AV → List AV
  | [] => []
  | x :: xs => kill n x :: killL n xs
end
mutual
def killO (n : Nat) : AV → Option AV
  | .agg cs => match killOL n cs with | some r => some (.agg r) | none => none
  | .tup cs => match killOL n cs with | some r => some (.tup r) | none => none
  | .own k T e rows => bif Nat.beq k n then some (.sl e rows) else some (.own k T e rows)
  | .fn f fs cs => match killOL n fs with
    | none => none
    | some a => match killOL n cs with | some b => some (.fn f a b) | none => none
  | .top => some .top
  | .v x => some (.v x)
  | .sl e rows => some (.sl e rows)
  | .ptr k o => some (.ptr k o)
  | .eptr cs => some (.eptr cs)
  | .arr k T e l => some (.arr k T e l)
def killOL (n : Nat) : List AV → Option (List AV)
  | [] => some []
  | x :: xs => match killO n x with
    | none => none
    | some y => match killOL n xs with | some r => some (y :: r) | none => none
end
mutual
theorem killO_eq {n : Nat} : ∀ (x : AV), killO n x = some (kill n x)
  | .agg cs => by simp only [killO, killOL_eq cs, kill]
  | .tup cs => by simp only [killO, killOL_eq cs, kill]
  | .own k T e rows => by simp only [killO, kill]; cases Nat.beq k n <;> rfl
  | .fn f a b => by simp only [killO, killOL_eq a, killOL_eq b, kill]
  | .top => by simp only [killO, kill]
  | .v x => by simp only [killO, kill]
  | .sl e rows => by simp only [killO, kill]
  | .ptr k o => by simp only [killO, kill]
  | .eptr cs => by simp only [killO, kill]
  | .arr k T e l => by simp only [killO, kill]
theorem killOL_eq {n : Nat} : ∀ (xs : List AV), killOL n xs = some (killL n xs)
  | [] => by simp only [killOL, killL]
  | x :: xs => by simp only [killOL, killO_eq x, killOL_eq xs, killL]
end
def killT (n : Nat) : List (Nat × AV) → List (Nat × AV)
  | [] => []
  | (k, x) :: r => (k, kill n x) :: killT n r
def killTO (n : Nat) : List (Nat × AV) → Option (List (Nat × AV))
  | [] => some []
  | (k, x) :: r => match killO n x with
    | none => none
    | some y => match killTO n r with | some s => some ((k, y) :: s) | none => none
theorem killTO_eq {n : Nat} : ∀ (l : List (Nat × AV)), killTO n l = some (killT n l)
  | [] => rfl
  | (k, x) :: r => by simp only [killTO, killO_eq x, killTO_eq r, killT]
def killB (n : Nat) : List (Nat × List AV) → List (Nat × List AV)
  | [] => []
  | (k, x) :: r => (k, killL n x) :: killB n r
def killBO (n : Nat) : List (Nat × List AV) → Option (List (Nat × List AV))
  | [] => some []
  | (k, x) :: r => match killOL n x with
    | none => none
    | some y => match killBO n r with | some s => some ((k, y) :: s) | none => none
theorem killBO_eq {n : Nat} : ∀ (l : List (Nat × List AV)), killBO n l = some (killB n l)
  | [] => rfl
  | (k, x) :: r => by simp only [killBO, killOL_eq x, killBO_eq r, killB]
theorem look_killT {n t : Nat} : ∀ (l : List (Nat × AV)), look (killT n l) t = kill n (look l t)
  | [] => by simp [killT, look, kill]
  | (k, x) :: r => by
    simp only [killT, look]
    cases Nat.beq k t
    · exact look_killT r
    · rfl
theorem mem_killB {n k : Nat} {ds : List AV} : ∀ {l : List (Nat × List AV)}, (k, ds) ∈ killB n l → ∃ cs, (k, cs) ∈ l ∧ ds = killL n cs
  | [], h => by simp [killB] at h
  | (j, x) :: r, h => by
    simp only [killB, List.mem_cons, Prod.mk.injEq] at h
    rcases h with ⟨rfl, rfl⟩ | h
    · exact ⟨x, by simp, rfl⟩
    · obtain ⟨cs, h1, h2⟩ := mem_killB h
      exact ⟨cs, by simp [h1], h2⟩
theorem mem_killB' {n k : Nat} {cs : List AV} : ∀ {l : List (Nat × List AV)}, (k, cs) ∈ l → (k, killL n cs) ∈ killB n l
  | [], h => by simp at h
  | (j, x) :: r, h => by
    simp only [killB, List.mem_cons, Prod.mk.injEq] at h ⊢
    rcases h with ⟨rfl, rfl⟩ | h
    · exact .inl ⟨rfl, rfl⟩
    · exact .inr (mem_killB' h)

section
variable {g g' : Gh} {w w' : World} {n : Nat}
mutual
theorem rep_kill (hI : ∀ b o, g.I b o → g'.I b o) (hk : Keeps g.I w w') (hm : ∀ k b, g.m k = some b → g'.m k = some b) (ht : g'.mt = g.mt)
    (ho : ∀ k T e rows y, k ≠ n → ownRep g w k T e rows y → ownRep g' w' k T e rows y) : ∀ {x : AV} {y : Value}, rep g w x y → rep g' w' (kill n x) y
  | .top, _, _ => by simp [kill, rep]
  | .v x, y, h => by simpa [kill, rep] using h
  | .agg cs, y, h => by
    simp only [rep, kill] at h ⊢
    obtain ⟨a, e, h⟩ := h
    exact ⟨a, e, reps_kill hI hk hm ht ho h⟩
  | .tup cs, y, h => by
    simp only [rep, kill] at h ⊢
    obtain ⟨a, e, h⟩ := h
    exact ⟨a, e, reps_kill hI hk hm ht ho h⟩
  | .sl e rows, y, h => by
    simp only [rep, kill] at h ⊢
    exact drep_mono hI hk h
  | .own k T e rows, y, h => by
    simp only [kill]
    cases hb : Nat.beq k n
    · simp only [cond_false, rep] at h ⊢
      exact ho k T e rows y (fun e => by subst e; simp at hb) h
    · simp only [cond_true, rep] at h ⊢
      exact drep_mono hI hk (drep_of_own h)
  | .ptr k off, y, h => by
    simp only [rep, kill] at h ⊢
    obtain ⟨b, h1, h2⟩ := h
    exact ⟨b, hm _ _ h1, h2⟩
  | .eptr cs, y, h => by
    simp only [rep, kill] at h ⊢
    obtain ⟨b, o, h1, h2⟩ := h
    exact ⟨b, o, h1, dcells_mono hI hk h2⟩
  | .fn f fs cs, y, h => by
    simp only [rep, kill] at h ⊢
    obtain ⟨a, b, h1, h2, h3⟩ := h
    exact ⟨a, b, h1, reps_kill hI hk hm ht ho h2, reps_kill hI hk hm ht ho h3⟩
  | .arr k T e len, y, h => by
    simp only [rep, kill] at h ⊢
    obtain ⟨b, c, h1, h2, h3⟩ := h
    exact ⟨b, c, hm _ _ h1, by rw [ht]; exact h2, h3⟩
theorem reps_kill (hI : ∀ b o, g.I b o → g'.I b o) (hk : Keeps g.I w w') (hm : ∀ k b, g.m k = some b → g'.m k = some b) (ht : g'.mt = g.mt)
    (ho : ∀ k T e rows y, k ≠ n → ownRep g w k T e rows y → ownRep g' w' k T e rows y) : ∀ {xs : List AV} {ys : List Value}, reps g w xs ys → reps g' w' (killL n xs) ys
  | [], ys, h => by simpa [killL, reps] using h
  | x :: xs, ys, h => by
    simp only [reps, killL] at h ⊢
    obtain ⟨y, zs, e, h1, h2⟩ := h
    exact ⟨y, zs, e, rep_kill hI hk hm ht ho h1, reps_kill hI hk hm ht ho h2⟩
end
end

/-- A slice of the call's own has grown, in place or into a new block. -/
theorem Mem.grown {E : En} {g : Gh} {bl : List (Nat × List AV)} {ow : List Nat} {w w' : World} (h : Mem E g bl ow w) {n T e : Nat} {rows rows' : List (List AV)} {y y' : Value} (hy : ownRep g w n T e rows y) {xs' : List Value}
    (h1 : w'.os = w.os) (h2 : w'.tape = w.tape) (h3 : w'.output = w.output) (h4 : w.heap.size ≤ w'.heap.size) (hblk : ∀ k, k < w.heap.size → g.om n ≠ some k → w'.heap[k]? = w.heap[k]?)
    (hkeep : ∀ b o, g.om n = some b → o < rows.length * e → w'.cell? ⟨b, o, none⟩ = w.cell? ⟨b, o, none⟩) (hnew : ∀ b, y'.ownBlock = some b → g.om n = some b ∨ w.heap.size ≤ b)
    (hr : w'.ownsRow 0 T e y' rows'.length xs') (hd : dreps g.I w rows'.flatten xs') (hl : ∀ r ∈ rows', r.length = e) (hlen : rows.length ≤ rows'.length) :
    ∃ g', (∀ x v, rep g w x v → rep g' w' (kill n x) v) ∧ Mem E g' (killB n bl) ow w' ∧ ownRep g' w' n T e rows' y' := by
  obtain ⟨hw, hob, xs, hown, hdr, hl0, hIn⟩ := hy
  let g' : Gh := { g with I := fun b o => g.I b o ∨ (y'.ownBlock = some b ∧ o < rows'.length * e), om := fun k => if k = n then y'.ownBlock else g.om k }
  have hIlt : ∀ b o, g.I b o → b < w.heap.size := fun b o hb => cell_lt (h.cell b o hb)
  have hmul : rows.length * e ≤ rows'.length * e := Nat.mul_le_mul_right _ hlen
  have keeps : Keeps g.I w w' := fun b o hb => by
    by_cases hn : g.om n = some b
    · refine hkeep b o hn ?_
      rcases Nat.lt_or_ge o (rows.length * e) with h5 | h5
      · exact h5
      · exact ((hIn b hn).2 o h5 hb).elim
    · exact World.cell?_of_block (a := ⟨b, o, none⟩) (hblk b (hIlt b o hb) hn)
  have hI : ∀ b o, g.I b o → g'.I b o := fun b o hb => .inl hb
  have hob' : ∀ k b, g.ow k → g'.om k = some b → (k = n ∧ y'.ownBlock = some b) ∨ (k ≠ n ∧ g.om k = some b) := fun k b _ h5 => by
    by_cases hk : k = n
    · simp only [g', hk, if_true] at h5; exact .inl ⟨hk, h5⟩
    · simp only [g', hk, if_false] at h5; exact .inr ⟨hk, h5⟩
  have ho : ∀ k T e rows y, k ≠ n → ownRep g w k T e rows y → ownRep g' w' k T e rows y := fun k T0 e0 rows0 y0 hk hy0 => by
    obtain ⟨q1, q2, ys, q3, q4, q5, q6⟩ := hy0
    have hom : g'.om k = g.om k := by simp only [g', hk, if_false]
    refine ⟨q1, by rw [hom]; exact q2, ys, ownsRow_of_heap q3 fun b hb => hblk b (ownsRow_lt q3 hb) fun h5 => hk (h.oinj k n b q1 hw (by rw [← q2]; exact hb) h5), dreps_mono hI keeps q4, q5, fun b hb => ?_⟩
    rw [hom] at hb
    refine ⟨fun o h5 => .inl ((q6 b hb).1 o h5), fun o h5 h6 => ?_⟩
    rcases h6 with h6 | ⟨h6, _⟩
    · exact (q6 b hb).2 o h5 h6
    · rcases hnew b h6 with h7 | h7
      · exact hk (h.oinj k n b q1 hw hb h7)
      · have := (h.ofr k b q1 hb).2; omega
  have hrep : ∀ x v, rep g w x v → rep g' w' (kill n x) v := fun x v hx => rep_kill hI keeps (fun _ _ h => h) rfl ho hx
  refine ⟨g', hrep, ?_, hw, by simp only [g', if_true], xs', hr, dreps_mono hI keeps hd, hl, fun b hb => ?_⟩
  · refine { below := ⟨h1.trans h.below.os, h2.trans h.below.tape, h3.trans h.below.output, Nat.le_trans h.below.size h4, fun k hk hM => (hblk k (Nat.lt_of_lt_of_le hk h.base) fun h5 => ?_).trans (h.below.block k hk hM)⟩,
             base := Nat.le_trans h.base h4, cell := fun b o hb => ?_, mfr := fun k b hk => ⟨(h.mfr k b hk).1, Nat.lt_of_lt_of_le (h.mfr k b hk).2 h4⟩, ofr := fun k b k1 k2 => ?_, minj := h.minj, oinj := fun k k' b k1 k1' k2 k2' => ?_, disj := fun k k' b k1 k2 k3 => ?_,
             blk := fun k ds hk => ?_, key := fun k b hk => ?_, own := h.own, inew := fun b o hb => ?_, iold := fun b o hb => .inl (h.iold b o hb), pin := h.pin }
    · have := (h.ofr n k hw h5).1; omega
    · rcases hb with hb | ⟨hb, ho⟩
      · rw [keeps b o hb]; exact h.cell b o hb
      · rcases hr.2 with ⟨rfl, _⟩ | ⟨b', cap, cur, rfl, _, q1, q2, q3, q4, q5⟩
        · simp [Value.ownBlock] at hb
        · simp only [Value.ownBlock, Option.some.injEq] at hb
          subst hb
          rw [cell_of_heap q1]
          have : rows'.length * e ≤ cap * e := Nat.mul_le_mul_right _ q2
          rw [Array.getElem?_eq_getElem (by omega)]; rfl
    · rcases hob' k b k1 k2 with ⟨rfl, k3⟩ | ⟨_, k3⟩
      · refine ⟨?_, ownsRow_lt hr k3⟩
        rcases hnew b k3 with k4 | k4
        · exact (h.ofr k b k1 k4).1
        · exact Nat.le_trans h.base k4
      · exact ⟨(h.ofr k b k1 k3).1, Nat.lt_of_lt_of_le (h.ofr k b k1 k3).2 h4⟩
    · rcases hob' k b k1 k2 with ⟨rfl, k3⟩ | ⟨hk, k3⟩ <;> rcases hob' k' b k1' k2' with ⟨rfl, k4⟩ | ⟨hk', k4⟩
      · rfl
      · rcases hnew b k3 with k5 | k5
        · exact h.oinj _ _ b k1 k1' k5 k4
        · have := (h.ofr k' b k1' k4).2; omega
      · rcases hnew b k4 with k5 | k5
        · exact h.oinj _ _ b k1 k1' k3 k5
        · have := (h.ofr k b k1 k3).2; omega
      · exact h.oinj _ _ b k1 k1' k3 k4
    · rcases hob' k' b k2 k3 with ⟨rfl, k4⟩ | ⟨_, k4⟩
      · rcases hnew b k4 with k5 | k5
        · exact h.disj k _ b k1 k2 k5
        · have := (h.mfr k b k1).2; omega
      · exact h.disj k k' b k1 k2 k4
    · obtain ⟨cs, k1, rfl⟩ := mem_killB hk
      obtain ⟨b, arr, q1, q2, q3, q4⟩ := h.blk k cs k1
      refine ⟨b, arr, q1, (hblk b (h.mfr k b q1).2 fun h5 => h.disj k n b q1 hw h5).trans q2, reps_kill hI keeps (fun _ _ h => h) rfl ho q3, fun o h5 => ?_⟩
      rcases h5 with h5 | ⟨h5, _⟩
      · exact q4 o h5
      · rcases hnew b h5 with h6 | h6
        · exact h.disj k n b q1 hw h6
        · have := (h.mfr k b q1).2; omega
    · obtain ⟨cs, k1⟩ := h.key k b hk
      exact ⟨_, mem_killB' k1⟩
    · rcases hb with hb | ⟨hb, _⟩
      · exact h.inew b o hb
      · rcases hnew b hb with h5 | h5
        · exact .inr (h.ofr n b hw h5).1
        · exact .inr (Nat.le_trans h.base h5)
  · simp only [g', if_true] at hb
    refine ⟨fun o h5 => .inr ⟨hb, h5⟩, fun o h5 h6 => ?_⟩
    rcases h6 with h6 | ⟨_, h6⟩
    · rcases hnew b hb with h7 | h7
      · exact (hIn b h7).2 o (by omega) h6
      · have := hIlt b o h6; omega
    · omega

/-- A slice that is nil is a slice of the call's own. -/
theorem Mem.nilOwn {E : En} {g : Gh} {bl : List (Nat × List AV)} {ow : List Nat} {w : World} (h : Mem E g bl ow w) (n T e : Nat) (hn : n ∉ ow) : ∃ g', Goes g w g' w ∧ Mem E g' bl (n :: ow) w ∧ ownRep g' w n T e [] (.slice none 0 0) := by
  have hno : ¬ g.ow n := fun hw => hn (h.own n hw)
  let g' : Gh := { g with ow := fun k => k = n ∨ g.ow k, om := fun k => if k = n then none else g.om k }
  have hob : ∀ k b, g'.ow k → g'.om k = some b → g.ow k ∧ g.om k = some b := fun k b h1 h2 => by
    by_cases hk : k = n
    · simp only [g', hk, if_true] at h2; cases h2
    · simp only [g', hk, if_false, false_or] at h1 h2; exact ⟨h1, h2⟩
  have how : ∀ k, g.ow k → g'.ow k ∧ g'.om k = g.om k := fun k hk => ⟨.inr hk, by
    have : k ≠ n := fun e => hno (e ▸ hk)
    simp only [g', this, if_false]⟩
  have goes : Goes g w g' w := ⟨fun _ _ h => h, fun _ _ _ => rfl, fun _ _ h => h, fun _ _ _ => rfl, fun k T0 e0 rows y hy => ownRep_goes (g := g) (g' := g') (fun _ _ h => h) (fun _ _ _ => rfl) how (fun _ _ _ _ => rfl) (fun _ _ _ _ _ h => h) hy⟩
  refine ⟨g', goes, ⟨h.below, h.base, h.cell, h.mfr, fun k b k1 k2 => h.ofr k b (hob k b k1 k2).1 (hob k b k1 k2).2, h.minj, fun k k' b k1 k1' k2 k2' => h.oinj k k' b (hob k b k1 k2).1 (hob k' b k1' k2').1 (hob k b k1 k2).2 (hob k' b k1' k2').2,
    fun k k' b k1 k2 k3 => h.disj k k' b k1 (hob k' b k2 k3).1 (hob k' b k2 k3).2, fun k cs hk => ?_, h.key, fun k hk => ?_, h.inew, h.iold, h.pin⟩, .inl rfl, by simp only [g', if_true]; rfl, [], ⟨by simp, .inl ⟨rfl, rfl⟩⟩, by simp [dreps], by simp, fun b hb => by simp only [g', if_true] at hb; cases hb⟩
  · obtain ⟨b, arr, q1, q2, q3, q4⟩ := h.blk k cs hk
    exact ⟨b, arr, q1, q2, reps_goes goes q3, q4⟩
  · rcases hk with rfl | hk
    · simp
    · exact List.mem_cons_of_mem _ (h.own k hk)

theorem drows_flat {I : Nat → Nat → Prop} {w : World} {rows : List (List AV)} {e b o : Nat} (h : drows I w e b o rows) : ∃ zs, dreps I w rows.flatten zs ∧ zs.length = rows.length * e ∧ ∀ j z, zs[j]? = some z → w.cell? ⟨b, o + j, none⟩ = some z := by
  obtain ⟨h1, h2⟩ := drows_iff.1 h
  obtain ⟨zs, g1, g2, g3⟩ := dcells_list h2
  exact ⟨zs, g1, by rw [g2, flatten_length h1], fun j z hz => (g3 j z hz).1⟩
theorem cells_one {g : Gh} {w : World} : ∀ {xs : List AV} {ys : List Value}, dreps g.I w xs ys → (∀ x ∈ xs, isCell x = true) → ∀ u ∈ ys, u.oneCell' = true
  | [], ys, h, _, u, hu => by simp only [dreps] at h; subst h; simp at hu
  | x :: xs, ys, h, hc, u, hu => by
    simp only [dreps] at h
    obtain ⟨z, zs, rfl, k1, k2⟩ := h
    rcases List.mem_cons.1 hu with rfl | hu
    · exact oneCell_of (rep_of_drep k1) (hc x (by simp))
    · exact cells_one k2 (fun x hx => hc x (by simp [hx])) u hu

/-- What append does to a slice of the call's own. -/
theorem append_own {E : En} {g : Gh} {bl : List (Nat × List AV)} {ow : List Nat} {w : World} (hm : Mem E g bl ow w) {t n T e by_ ty : Nat} [hs : SlOk E.P t T e by_] {rows rows2 : List (List AV)} {y u : Value} (hy : ownRep g w n T e rows y) (hu : drep g.I w (.sl e rows2) u)
    (hcell : ∀ x ∈ rows2.flatten, isCell x = true) (hl2 : ∀ r ∈ rows2, r.length = e) (hl : rows.length + rows2.length ≤ 1048576) (hb : Nat.ble by_ 134217728 = true) :
    ∃ y' w' g', (Builtin.append_ #[t, t] ty #[y, u]).run E.P w = .ok y' w' ∧ (∀ x v, rep g w x v → rep g' w' (kill n x) v) ∧ Mem E g' (killB n bl) ow w' ∧ ownRep g' w' n T e (rows ++ rows2) y' := by
  obtain ⟨in0, iz, i1, i2, i3, i4, i5⟩ := hs.info
  have hb := Nat.le_of_ble_eq_true hb
  have hbytes : (rows.length + rows2.length) * by_ ≤ 140737488355328 := Nat.le_trans (Nat.mul_le_mul hl hb) (by decide)
  have hmax : rows.length + rows2.length ≤ maxLen := by unfold maxLen; omega
  have hy0 := hy
  obtain ⟨hw, hob, xs, hown, hdr, hl0, hIn⟩ := hy
  have hlr : ∀ r ∈ rows ++ rows2, r.length = e := fun r hr => by
    rcases List.mem_append.1 hr with hr | hr
    · exact hl0 r hr
    · exact hl2 r hr
  simp only [drep] at hu
  obtain ⟨A, c, rfl, hA, hc⟩ := hu
  by_cases hz : rows2 = []
  · subst hz
    have hrun : (Builtin.append_ #[t, t] ty #[y, .slice A 0 c]).run E.P w = .ok y w := by
      rcases hown.2 with ⟨rfl, _⟩ | ⟨g0, cap, cur, rfl, _, _, hnc, _⟩
      · simp [Builtin.append_, run_underlying hs.und, sizeOf, typeInfo, i1, Builtin.lenOf, Builtin.firstCells]
        try (cases A <;> simp [loadCells, loadCellsFrom])
      · simp [Builtin.append_, run_underlying hs.und, sizeOf, typeInfo, i1, Builtin.lenOf, Builtin.firstCells, hnc]
        try (cases A <;> simp [loadCells, loadCellsFrom, storeCells])
    obtain ⟨g', k1, k2, k3⟩ := hm.grown (rows' := rows) (y' := y) (w' := w) hy0 rfl rfl rfl (Nat.le_refl _) (fun _ _ _ => rfl) (fun _ _ _ _ => rfl) (fun b hb => .inl (by rw [← hob]; exact hb)) hown hdr hl0 (Nat.le_refl _)
    exact ⟨y, w, g', hrun, k1, k2, by rw [List.append_nil]; exact k3⟩
  · obtain ⟨b2, o2, rfl, hrows⟩ := hA.resolve_left hz
    obtain ⟨news, n1, n2, n3⟩ := drows_flat hrows
    have hnews : ∀ j z, news[j]? = some z → w.cell? ((⟨b2, o2, none⟩ : Addr).add j) = some z := fun j z hj => by rw [addr_add]; exact n3 j z hj
    have hone := cells_one n1 hcell
    have hd' : dreps g.I w (rows ++ rows2).flatten (xs ++ news) := by rw [List.flatten_append]; exact dreps_append hdr n1
    have hlen : (rows ++ rows2).length = rows.length + rows2.length := List.length_append
    have grows : (∃ v' w', (Builtin.append_ #[t, t] ty #[y, .slice (some ⟨b2, o2, none⟩) rows2.length c]).run E.P w = .ok v' w' ∧ w'.ownsRow w.heap.size T e v' (rows.length + rows2.length) (xs ++ news) ∧ w.grownBy w' none) →
        ∃ y' w' g', (Builtin.append_ #[t, t] ty #[y, .slice (some ⟨b2, o2, none⟩) rows2.length c]).run E.P w = .ok y' w' ∧ (∀ x v, rep g w x v → rep g' w' (kill n x) v) ∧ Mem E g' (killB n bl) ow w' ∧ ownRep g' w' n T e (rows ++ rows2) y' := by
      rintro ⟨v', w', r1, r2, r3⟩
      obtain ⟨g', k1, k2, k3⟩ := hm.grown (rows' := rows ++ rows2) (y' := v') (w' := w') hy0 r3.os r3.tape r3.output r3.size (fun k hk _ => r3.block k hk (by simp)) (fun b o hb _ => World.cell?_of_block (a := ⟨b, o, none⟩) (r3.block b (hm.ofr n b hw hb).2 (by simp)))
        (fun b hb => .inr (by
          rcases r2.2 with ⟨rfl, _⟩ | ⟨b', cap, cur, rfl, q0, _⟩
          · simp [Value.ownBlock] at hb
          · simp only [Value.ownBlock, Option.some.injEq] at hb
            omega))
        (by
          rw [hlen]
          refine ⟨r2.1, ?_⟩
          rcases r2.2 with q | ⟨b', cap, cur, q1, q0, q2⟩
          · exact .inl q
          · exact .inr ⟨b', cap, cur, q1, Nat.zero_le _, q2⟩) hd' hlr (by rw [hlen]; omega)
      exact ⟨v', w', g', r1, k1, k2, k3⟩
    rcases hown.2 with ⟨rfl, h0⟩ | ⟨b, cap, cur, rfl, _, q1, q2, q3, q4, q5⟩
    · have h00 : rows = [] := List.length_eq_zero_iff.1 h0
      subst h00
      have hx : xs = [] := by have := hown.1; simpa using this
      subst hx
      refine grows ?_
      obtain ⟨v', w', r1, r2, r3, _⟩ := run_append_own (P := E.P) w w.heap.size t ty T in0 iz e by_ hs.und i1 i2 i3 i4 i5 hs.pos (.slice none 0 0) 0 [] ⟨by simp, .inl ⟨rfl, rfl⟩⟩ ⟨b2, o2, none⟩ rows2.length c news n2 hnews hone (by simpa using hmax) (by simpa using hbytes) (Nat.le_refl _)
      exact ⟨v', w', r1, by simpa using r2, r3⟩
    · by_cases hroom : rows.length + rows2.length ≤ cap
      · obtain ⟨w', r1, r2, r3⟩ := run_append_fits (P := E.P) w 0 t ty T in0 e hs.und i1 i3 b rows.length cap xs hown ⟨b2, o2, none⟩ rows2.length c news n2 hnews hone hroom
        have hob' : g.om n = some b := hob.symm
        obtain ⟨g', k1, k2, k3⟩ := hm.grown (rows' := rows ++ rows2) (y' := .slice (some ⟨b, 0, none⟩) (rows.length + rows2.length) cap) (w' := w') hy0 r3.os r3.tape r3.output r3.size (fun k hk h5 => r3.block k hk fun h6 => h5 (by rw [hob', h6]))
          (fun b' o h5 h6 => by
            rw [hob'] at h5
            cases h5
            rw [World.ownsRow.cellAt r2 o (Nat.lt_of_lt_of_le h6 (Nat.mul_le_mul_right _ (by omega))), World.ownsRow.cellAt hown o h6, List.getElem?_append_left (by rw [hown.1]; exact h6)])
          (fun b' hb' => .inl (by rw [hob']; exact hb')) (by rw [hlen]; exact r2) hd' hlr (by rw [hlen]; omega)
        exact ⟨_, w', g', r1, k1, k2, k3⟩
      · refine grows ?_
        have holds : ∀ j z, xs[j]? = some z → w.cell? ((⟨b, 0, none⟩ : Addr).add j) = some z := hown.cells (g := b) rfl
        exact run_append_arg_grows (P := E.P) w t ty T in0 iz e by_ hs.und i1 i2 i3 i4 i5 hs.pos ⟨b, 0, none⟩ rows.length cap xs hown.1 holds ⟨b2, o2, none⟩ rows2.length c news n2 hnews (by omega) hmax hbytes

section
variable {E : En} {ops : Array Oper} {rest : List Oper} {Q : Exit → St → Prop} {tm tm1 : List (Nat × AV)} {bl bl1 : List (Nat × List AV)} {ow : List Nat} {d : Nat} {ty : TypeId} {pos : String} {af : Array Edge}
/-- append: the name stays; what was known by it is data. -/
theorem wapp {x y : Operand} {t n T e by_ : Nat} {rows rows2 : List (List AV)} {yv : AV} [hs : SlOk E.P t T e by_] (hx : ev tm x = .own n T e rows) (hy : ev tm y = yv) (hr : arows yv = some (e, rows2)) (hcell : ∀ x ∈ rows2.flatten, isCell x = true) (hl2 : ∀ r ∈ rows2, r.length = e) (hl : rows.length + rows2.length ≤ 1048576) (hb : Nat.ble by_ 134217728 = true) (hd : Nat.blt d E.nt = true)
    (ht : killTO n tm = some tm1) (hbl : killBO n bl = some bl1) (hk : WL E ops rest Q ⟨(d, .own n T e (rows ++ rows2)) :: tm1, bl1, ow⟩) : WL E ops (⟨some d, .call ⟨.builtin .append, #[x, y], #[t, t]⟩, ty, pos, af, none⟩ :: rest) Q ⟨tm, bl, ow⟩ := by
  intro g a w hi
  unfold wpList
  rw [show Region.wanted ⟨some d, .call ⟨.builtin .append, #[x, y], #[t, t]⟩, ty, pos, af, none⟩ (yielded ops a.tmps) = true by simp [Region.wanted]]
  refine .inl ?_
  have h1 := rep_ev hi.tm x
  have h2 := rep_ev hi.tm y
  rw [hx] at h1; rw [hy] at h2
  simp only [rep] at h1
  obtain ⟨y', w', g', r1, r2, r3, r4⟩ := append_own (t := t) (ty := ty) hi.mem h1 (drep_arows h2 hr) hcell hl2 hl hb
  rw [killTO_eq] at ht
  rw [killBO_eq] at hbl
  cases ht
  cases hbl
  unfold Oper.wp
  have hrun : (execOp a.eval ⟨some d, .call ⟨.builtin .append, #[x, y], #[t, t]⟩, ty, pos, af, none⟩).run E.P w = .ok (.value y') w' := by
    simp [execOp, resolve, invoke, builtin, r1]
  rw [hrun]
  have hi' : Inv E g' ⟨killT n tm, killB n bl, ow⟩ a w' := ⟨r3, fun t => by rw [look_killT]; exact r2 _ _ (hi.tm t), hi.de, hi.sz⟩
  have := hi'.app (d := some d) (v := .own n T e (rows ++ rows2)) (y := y') (nb := []) (no := []) (fun k hk => by cases hk; exact Nat.le_of_ble_eq_true hd) (Goes.refl _ _) (by simpa using r3) (by simp only [rep]; exact r4)
  exact hk g' _ w' this
/-- The same; what it reads as is said otherwise. -/
theorem wappE {x y : Operand} {t n T e by_ : Nat} {rows rows2 out : List (List AV)} {yv : AV} [hs : SlOk E.P t T e by_] (hx : ev tm x = .own n T e rows) (hy : ev tm y = yv) (hr : arows yv = some (e, rows2)) (hcell : ∀ x ∈ rows2.flatten, isCell x = true) (hl2 : ∀ r ∈ rows2, r.length = e) (hl : rows.length + rows2.length ≤ 1048576) (hb : Nat.ble by_ 134217728 = true) (hd : Nat.blt d E.nt = true)
    (ho : rows ++ rows2 = out) (ht : killTO n tm = some tm1) (hbl : killBO n bl = some bl1) (hk : WL E ops rest Q ⟨(d, .own n T e out) :: tm1, bl1, ow⟩) : WL E ops (⟨some d, .call ⟨.builtin .append, #[x, y], #[t, t]⟩, ty, pos, af, none⟩ :: rest) Q ⟨tm, bl, ow⟩ := by
  subst ho
  exact wapp hx hy hr hcell hl2 hl hb hd ht hbl hk
/-- append to nil. -/
theorem wapp0 {x y : Operand} {t T e by_ : Nat} {rows2 : List (List AV)} {yv : AV} [hs : SlOk E.P t T e by_] (hx : ev tm x = .v (.slice none 0 0)) (hy : ev tm y = yv) (hr : arows yv = some (e, rows2)) (hcell : ∀ x ∈ rows2.flatten, isCell x = true) (hl2 : ∀ r ∈ rows2, r.length = e) (hl : rows2.length ≤ 1048576) (hb : Nat.ble by_ 134217728 = true) (hd : Nat.blt d E.nt = true)
    (hf : freshB [] [d] ⟨tm, bl, ow⟩ = true) (ht : killTO d tm = some tm1) (hbl : killBO d bl = some bl1) (hk : WL E ops rest Q ⟨(d, .own d T e rows2) :: tm1, bl1, d :: ow⟩) : WL E ops (⟨some d, .call ⟨.builtin .append, #[x, y], #[t, t]⟩, ty, pos, af, none⟩ :: rest) Q ⟨tm, bl, ow⟩ := by
  intro g a w hi
  unfold wpList
  rw [show Region.wanted ⟨some d, .call ⟨.builtin .append, #[x, y], #[t, t]⟩, ty, pos, af, none⟩ (yielded ops a.tmps) = true by simp [Region.wanted]]
  refine .inl ?_
  have hno := (freshB_spec hf).2 d (by simp)
  obtain ⟨g2, m1, m2, m3⟩ := hi.mem.nilOwn d T e hno
  have h1 := rep_ev hi.tm x
  have h2 := rep_ev hi.tm y
  rw [hx] at h1; rw [hy] at h2
  simp only [rep] at h1
  obtain ⟨y', w', g', r1, r2, r3, r4⟩ := append_own (t := t) (ty := ty) m2 m3 (drep_arows (rep_goes m1 h2) hr) hcell hl2 (by simpa using hl) hb
  rw [killTO_eq] at ht
  rw [killBO_eq] at hbl
  cases ht
  cases hbl
  unfold Oper.wp
  have hrun : (execOp a.eval ⟨some d, .call ⟨.builtin .append, #[x, y], #[t, t]⟩, ty, pos, af, none⟩).run E.P w = .ok (.value y') w' := by
    simp [execOp, resolve, invoke, builtin, h1, r1]
  rw [hrun]
  have hi' : Inv E g' ⟨killT d tm, killB d bl, d :: ow⟩ a w' := ⟨r3, fun t => by rw [look_killT]; exact r2 _ _ (rep_goes m1 (hi.tm t)), hi.de, hi.sz⟩
  have := hi'.app (d := some d) (v := .own d T e rows2) (y := y') (nb := []) (no := []) (fun k hk => by cases hk; exact Nat.le_of_ble_eq_true hd) (Goes.refl _ _) (by simpa using r3) (by simp only [rep]; exact r4)
  exact hk g' _ w' this
end

/- A result whose slices are seen as data. -/
mutual
def datO : AV → Option AV
  | .agg cs => match datOL cs with | some r => some (.agg r) | none => none
  | .tup cs => match datOL cs with | some r => some (.tup r) | none => none
  | .own _ _ e rows => some (.sl e rows)
  | x => some x
def datOL : List AV → Option (List AV)
  | [] => some []
  | x :: xs => match datO x with
    | none => none
    | some y => match datOL xs with | some r => some (y :: r) | none => none
end
mutual
theorem rep_dat {g : Gh} {w : World} : ∀ {x z : AV} {y : Value}, datO x = some z → rep g w x y → rep g w z y
  | .agg cs, z, y, h, hr => by
    simp only [datO] at h
    split at h
    · rename_i r hr'
      cases h
      simp only [rep] at hr ⊢
      obtain ⟨a, e, hr⟩ := hr
      exact ⟨a, e, reps_dat hr' hr⟩
    · cases h
  | .tup cs, z, y, h, hr => by
    simp only [datO] at h
    split at h
    · rename_i r hr'
      cases h
      simp only [rep] at hr ⊢
      obtain ⟨a, e, hr⟩ := hr
      exact ⟨a, e, reps_dat hr' hr⟩
    · cases h
  | .own n T e rows, z, y, h, hr => by
    simp only [datO] at h
    cases h
    simp only [rep] at hr ⊢
    exact drep_of_own hr
  | .top, z, y, h, hr => by simp only [datO] at h; cases h; exact hr
  | .v x, z, y, h, hr => by simp only [datO] at h; cases h; exact hr
  | .sl e rows, z, y, h, hr => by simp only [datO] at h; cases h; exact hr
  | .ptr n o, z, y, h, hr => by simp only [datO] at h; cases h; exact hr
  | .eptr cs, z, y, h, hr => by simp only [datO] at h; cases h; exact hr
  | .fn f a b, z, y, h, hr => by simp only [datO] at h; cases h; exact hr
  | .arr n T e l, z, y, h, hr => by simp only [datO] at h; cases h; exact hr
theorem reps_dat {g : Gh} {w : World} : ∀ {xs zs : List AV} {ys : List Value}, datOL xs = some zs → reps g w xs ys → reps g w zs ys
  | [], zs, ys, h, hr => by simp only [datOL] at h; cases h; exact hr
  | x :: xs, zs, ys, h, hr => by
    simp only [datOL] at h
    split at h
    · cases h
    · rename_i y' hy'
      split at h
      · rename_i r hr'
        cases h
        simp only [reps] at hr ⊢
        obtain ⟨y, zs', e, k1, k2⟩ := hr
        exact ⟨y, zs', e, rep_dat hy' k1, reps_dat hr' k2⟩
      · cases h
end
theorem callOk_dat {P : Program} {f : Nat} {args : List AV} {X Y : AV} (h : CallOk P f args (fun r => r = X)) (hd : datO X = some Y) : CallOk P f args (fun r => r = Y) := by
  unfold CallOk at h ⊢
  intro I w vals hI ha
  refine (h I w vals hI ha).mono fun e w' he => ?_
  obtain ⟨y, r, g', h1, rfl, h2, h3⟩ := he
  exact ⟨y, _, g', h1, rfl, rep_dat hd h2, h3⟩
theorem callOk_nilSl {P : Program} {f : Nat} {args : List AV} {e : Nat} (h : CallOk P f args (fun r => r = .v (.slice none 0 0))) : CallOk P f args (fun r => r = .sl e []) := by
  unfold CallOk at h ⊢
  intro I w vals hI ha
  refine (h I w vals hI ha).mono fun x w' he => ?_
  obtain ⟨y, r, g', h1, rfl, h2, h3⟩ := he
  refine ⟨y, _, g', h1, rfl, ?_, h3⟩
  simp only [rep] at h2
  subst h2
  simp only [rep, drep]
  exact ⟨none, 0, rfl, .inl trivial, Nat.zero_le _⟩
end Go.Eng
