/- Slices of structs of two, three, four integers, and of integers: what a slice reads ('SlAt'), a row of the call's own that is filled element by element ('Fill'). No program in sight. -/
import Derived.Test.YtkaffcdjhbaifaaYBase
import Derived.Maps.AppendAt
namespace Go.Proofs.Ytkaffcdjhbaifaa
open Go.RowKit

structure T2 where
  a : Int
  b : Int
deriving Inhabited, DecidableEq
structure T3 where
  a : Int
  b : Int
  c : Int
deriving Inhabited, DecidableEq
structure T4 where
  a : Int
  b : Int
  c : Int
  d : Int
deriving Inhabited, DecidableEq
def f1 (s : Int) (_ : Nat) : Int := s
def f2 (s : T2) (j : Nat) : Int := match j with | 0 => s.a | _ => s.b
def f3 (s : T3) (j : Nat) : Int := match j with | 0 => s.a | 1 => s.b | _ => s.c
def f4 (s : T4) (j : Nat) : Int := match j with | 0 => s.a | 1 => s.b | 2 => s.c | _ => s.d

section
variable {α : Type} {k : Nat} {f : α → Nat → Int} {w wr w' : World} {A : Option Addr} {n i : Nat} {xs : List α}

/-- The slice '.slice A n _' reads, in the world w, as the list xs of elements of k integer cells each. -/
def SlAt (k : Nat) (f : α → Nat → Int) (w : World) (A : Option Addr) (n : Nat) (xs : List α) : Prop :=
  n = xs.length ∧ (0 < n → ∃ b o, A = some ⟨b, o, none⟩ ∧ b < w.heap.size ∧ ∀ i s, xs[i]? = some s → ∀ j, j < k → w.cell? ⟨b, o + i * k + j, none⟩ = some (.int .i64 (f s j)))

theorem SlAt.len (h : SlAt k f w A n xs) : n = xs.length := h.1
theorem SlAt.bel (h : SlAt k f w A n xs) (hb : Bel w wr) : SlAt k f wr A n xs := by
  refine ⟨h.1, fun hn => ?_⟩
  obtain ⟨b, o, e, hl, hc⟩ := h.2 hn
  exact ⟨b, o, e, Nat.lt_of_lt_of_le hl hb.size, fun i s hs j hj => (hb.cell b _ hl).trans (hc i s hs j hj)⟩
theorem SlAt.get (h : SlAt k f w A n xs) (hb : Bel w wr) (hi : i < n) :
    ∃ b o s, A = some ⟨b, o, none⟩ ∧ xs[i]? = some s ∧ (b < wr.heap.size ∧ b ≤ wr.heap.size ∧ b ≤ wr.heap.size + 1 ∧ b ≤ wr.heap.size + 1 + 1) ∧ ∀ j, j < k → wr.cell? ⟨b, o + i * k + j, none⟩ = some (.int .i64 (f s j)) := by
  obtain ⟨b, o, rfl, hbl, hcell⟩ := h.2 (by omega)
  have hx : i < xs.length := by have := h.1; omega
  have := hb.size
  exact ⟨b, o, xs[i], rfl, List.getElem?_eq_getElem hx, ⟨by omega, by omega, by omega, by omega⟩, fun j hj => (hb.cell b _ hbl).trans (hcell i _ (List.getElem?_eq_getElem hx) j hj)⟩

/-- A row of the call's own, in block g: n elements of k cells, the first i of which are those of xs. -/
def Fill (k : Nat) (f : α → Nat → Int) (w : World) (g : Nat) (E : TypeId) (n : Nat) (xs : List α) (i : Nat) : Prop :=
  (∃ arr, w.heap[g]? = some (.cells arr E (0, 0)) ∧ n * k ≤ arr.size) ∧ ∀ j s, j < i → xs[j]? = some s → ∀ q, q < k → w.cell? ⟨g, j * k + q, none⟩ = some (.int .i64 (f s q))
def Own (k : Nat) (f : α → Nat → Int) (w : World) (g : Nat) (E : TypeId) (xs : List α) : Prop := Fill k f w g E xs.length xs xs.length

theorem heap_lt {w : World} {g : Nat} {o : Obj} (h : w.heap[g]? = some o) : g < w.heap.size := (Array.getElem?_eq_some_iff.1 h).1
theorem cell_of_heap {w : World} {g : Nat} {arr : Array Value} {E : TypeId} {fr : Nat × Nat} (h : w.heap[g]? = some (.cells arr E fr)) (p : Nat) : w.cell? ⟨g, p, none⟩ = arr[p]? := by simp [World.cell?, h]
theorem frozen_of_heap {w : World} {g : Nat} {arr : Array Value} {E : TypeId} (h : w.heap[g]? = some (.cells arr E (0, 0))) (p : Nat) : w.frozen? ⟨g, p, none⟩ = false := by simp [World.frozen?, h]
theorem heap_bel {w wr : World} {g : Nat} {o : Obj} (h : w.heap[g]? = some o) (hb : Bel w wr) : wr.heap[g]? = some o := (Below.block hb g (heap_lt h)).trans h
theorem heap_set {w : World} {g : Nat} {arr : Array Value} {E : TypeId} {fr : Nat × Nat} (h : w.heap[g]? = some (.cells arr E fr)) (p : Nat) (u : Value) : (w.setCell ⟨g, p, none⟩ u).heap[g]? = some (.cells (arr.setIfInBounds p u) E fr) := by
  simp [World.setCell, Array.getElem?_modify, h]
theorem heap_set_ne {w : World} {g g' : Nat} {o : Obj} (h : w.heap[g]? = some o) (hne : g ≠ g') (p : Nat) (u : Value) : (w.setCell ⟨g', p, none⟩ u).heap[g]? = some o := by
  rw [Below.heap_setCell _ _ _ _ hne]; exact h
theorem cell_set (w : World) (g p q : Nat) (u : Value) : (w.setCell ⟨g, p, none⟩ u).cell? ⟨g, q, none⟩ = if p = q then (w.cell? ⟨g, q, none⟩).map (fun _ => u) else w.cell? ⟨g, q, none⟩ := by
  simp only [World.cell?, World.setCell, Array.getElem?_modify]
  cases h : w.heap[g]? with
  | none => simp
  | some o =>
    cases o <;> simp
    rename_i c e fr
    by_cases hpq : p = q
    · subst hpq
      rw [Array.getElem?_setIfInBounds]
      by_cases hs : p < c.size <;> simp [hs]
    · rw [Array.getElem?_setIfInBounds]; simp [hpq]

theorem Fill.lt {g : Nat} {E : TypeId} (h : Fill k f w g E n xs i) : g < w.heap.size := by
  obtain ⟨⟨arr, ha, _⟩, _⟩ := h
  exact heap_lt ha
theorem Fill.bel {g : Nat} {E : TypeId} (h : Fill k f w g E n xs i) (hb : Bel w wr) : Fill k f wr g E n xs i := by
  have hl := h.lt
  obtain ⟨⟨arr, ha, hs⟩, hc⟩ := h
  exact ⟨⟨arr, heap_bel ha hb, hs⟩, fun j s hj hx q hq => (hb.cell g _ hl).trans (hc j s hj hx q hq)⟩
/-- The cells of the next element are there and can be written. -/
theorem Fill.room {g : Nat} {E : TypeId} (h : Fill k f w g E n xs i) (p : Nat) (hp : p < n * k) : (∃ v, w.cell? ⟨g, p, none⟩ = some v) ∧ w.frozen? ⟨g, p, none⟩ = false := by
  obtain ⟨⟨arr, ha, hs⟩, _⟩ := h
  exact ⟨⟨arr[p]'(by omega), by rw [cell_of_heap ha]; exact Array.getElem?_eq_getElem (by omega)⟩, frozen_of_heap ha p⟩
theorem Fill.made (w : World) (E : TypeId) (z : Array Value) (n k : Nat) (f : α → Nat → Int) (xs : List α) : Fill k f (w.alloc (.cells (Go.madeCells z (n * k)) E)) w.heap.size E n xs 0 :=
  ⟨⟨_, heap_alloc_new w _, Nat.le_of_eq (size_madeCells _ _).symm⟩, fun j s hj => by omega⟩
theorem Fill.done {g : Nat} {E : TypeId} (h : Fill k f w g E n xs i) (hn : n = xs.length) (hi : n ≤ i) : Own k f w g E xs := by
  subst hn
  obtain ⟨h1, h2⟩ := h
  exact ⟨h1, fun j s hj => h2 j s (by omega)⟩
theorem Own.lt {g : Nat} {E : TypeId} (h : Own k f w g E xs) : g < w.heap.size := Fill.lt h
theorem Own.bel {g : Nat} {E : TypeId} (h : Own k f w g E xs) (hb : Bel w wr) : Own k f wr g E xs := Fill.bel h hb
theorem Own.slAt {g : Nat} {E : TypeId} (h : Own k f w g E xs) : SlAt k f w (some ⟨g, 0, none⟩) xs.length xs :=
  ⟨rfl, fun _ => ⟨g, 0, rfl, h.lt, fun i s hs j hj => by
    have := h.2 i s (by have := (List.getElem?_eq_some_iff.1 hs).1; omega) hs j hj
    simpa using this⟩⟩
theorem Own.slAt' {g : Nat} {E : TypeId} (h : Own k f w g E xs) (hn : n = xs.length) : SlAt k f w (some ⟨g, 0, none⟩) n xs := by subst hn; exact h.slAt
end

section
variable {w wr : World} {A : Option Addr} {n i : Nat}
theorem SlAt.get1 {xs : List Int} (h : SlAt 1 f1 w A n xs) (hb : Bel w wr) (hi : i < n) :
    ∃ b o s, A = some ⟨b, o, none⟩ ∧ Hid (xs[i]? = some s) ∧ (b < wr.heap.size ∧ b ≤ wr.heap.size ∧ b ≤ wr.heap.size + 1 ∧ b ≤ wr.heap.size + 1 + 1) ∧ wr.cell? ⟨b, o + i, none⟩ = some (.int .i64 s) := by
  obtain ⟨b, o, s, e, hs, hl, hc⟩ := h.get hb hi
  have h0 := hc 0 (by decide)
  rw [Nat.mul_one, Nat.add_zero] at h0
  exact ⟨b, o, s, e, hs, hl, h0⟩
theorem SlAt.get2 {xs : List T2} (h : SlAt 2 f2 w A n xs) (hb : Bel w wr) (hi : i < n) :
    ∃ b o s, A = some ⟨b, o, none⟩ ∧ Hid (xs[i]? = some s) ∧ (b < wr.heap.size ∧ b ≤ wr.heap.size ∧ b ≤ wr.heap.size + 1 ∧ b ≤ wr.heap.size + 1 + 1) ∧
      wr.cell? ⟨b, o + i * 2, none⟩ = some (.int .i64 s.a) ∧ wr.cell? ⟨b, o + i * 2 + 1, none⟩ = some (.int .i64 s.b) := by
  obtain ⟨b, o, s, e, hs, hl, hc⟩ := h.get hb hi
  exact ⟨b, o, s, e, hs, hl, hc 0 (by decide), hc 1 (by decide)⟩
theorem SlAt.get3 {xs : List T3} (h : SlAt 3 f3 w A n xs) (hb : Bel w wr) (hi : i < n) :
    ∃ b o s, A = some ⟨b, o, none⟩ ∧ Hid (xs[i]? = some s) ∧ (b < wr.heap.size ∧ b ≤ wr.heap.size ∧ b ≤ wr.heap.size + 1 ∧ b ≤ wr.heap.size + 1 + 1) ∧
      wr.cell? ⟨b, o + i * 3, none⟩ = some (.int .i64 s.a) ∧ wr.cell? ⟨b, o + i * 3 + 1, none⟩ = some (.int .i64 s.b) ∧ wr.cell? ⟨b, o + i * 3 + 2, none⟩ = some (.int .i64 s.c) := by
  obtain ⟨b, o, s, e, hs, hl, hc⟩ := h.get hb hi
  exact ⟨b, o, s, e, hs, hl, hc 0 (by decide), hc 1 (by decide), hc 2 (by decide)⟩
theorem SlAt.get4 {xs : List T4} (h : SlAt 4 f4 w A n xs) (hb : Bel w wr) (hi : i < n) :
    ∃ b o s, A = some ⟨b, o, none⟩ ∧ Hid (xs[i]? = some s) ∧ (b < wr.heap.size ∧ b ≤ wr.heap.size ∧ b ≤ wr.heap.size + 1 ∧ b ≤ wr.heap.size + 1 + 1) ∧
      wr.cell? ⟨b, o + i * 4, none⟩ = some (.int .i64 s.a) ∧ wr.cell? ⟨b, o + i * 4 + 1, none⟩ = some (.int .i64 s.b) ∧ wr.cell? ⟨b, o + i * 4 + 2, none⟩ = some (.int .i64 s.c) ∧ wr.cell? ⟨b, o + i * 4 + 3, none⟩ = some (.int .i64 s.d) := by
  obtain ⟨b, o, s, e, hs, hl, hc⟩ := h.get hb hi
  exact ⟨b, o, s, e, hs, hl, hc 0 (by decide), hc 1 (by decide), hc 2 (by decide), hc 3 (by decide)⟩

theorem Fill.step2 {g : Nat} {E : TypeId} {xs : List T2} {s : T2} (h : Fill 2 f2 w g E n xs i) (hi : i < n) (hs : xs[i]? = some s) :
    Fill 2 f2 ((w.setCell ⟨g, i * 2, none⟩ (.int .i64 s.a)).setCell ⟨g, i * 2 + 1, none⟩ (.int .i64 s.b)) g E n xs (i + 1) := by
  have hr := h.room
  obtain ⟨⟨arr, ha, hz⟩, hc⟩ := h
  refine ⟨⟨_, heap_set (heap_set ha _ _) _ _, by simpa using hz⟩, fun j t hj ht q hq => ?_⟩
  simp only [cell_set]
  rcases Nat.lt_or_ge j i with hji | hji
  · rw [if_neg (by omega), if_neg (by omega)]; exact hc j t hji ht q hq
  · obtain rfl : j = i := by omega
    obtain rfl : s = t := by rw [hs] at ht; injection ht
    obtain ⟨v0, e0⟩ := (hr (j * 2) (by omega)).1
    obtain ⟨v1, e1⟩ := (hr (j * 2 + 1) (by omega)).1
    match q, hq with
    | 0, _ => rw [if_neg (by omega), if_pos (by omega)]; simp only [Nat.add_zero, e0]; rfl
    | 1, _ => rw [if_pos (by omega), if_neg (by omega), e1]; rfl
theorem Fill.step3 {g : Nat} {E : TypeId} {xs : List T3} {s : T3} (h : Fill 3 f3 w g E n xs i) (hi : i < n) (hs : xs[i]? = some s) :
    Fill 3 f3 (((w.setCell ⟨g, i * 3, none⟩ (.int .i64 s.a)).setCell ⟨g, i * 3 + 1, none⟩ (.int .i64 s.b)).setCell ⟨g, i * 3 + 2, none⟩ (.int .i64 s.c)) g E n xs (i + 1) := by
  have hr := h.room
  obtain ⟨⟨arr, ha, hz⟩, hc⟩ := h
  refine ⟨⟨_, heap_set (heap_set (heap_set ha _ _) _ _) _ _, by simpa using hz⟩, fun j t hj ht q hq => ?_⟩
  simp only [cell_set]
  rcases Nat.lt_or_ge j i with hji | hji
  · rw [if_neg (by omega), if_neg (by omega), if_neg (by omega)]; exact hc j t hji ht q hq
  · obtain rfl : j = i := by omega
    obtain rfl : s = t := by rw [hs] at ht; injection ht
    obtain ⟨v0, e0⟩ := (hr (j * 3) (by omega)).1
    obtain ⟨v1, e1⟩ := (hr (j * 3 + 1) (by omega)).1
    obtain ⟨v2, e2⟩ := (hr (j * 3 + 2) (by omega)).1
    match q, hq with
    | 0, _ => rw [if_neg (by omega), if_neg (by omega), if_pos (by omega)]; simp only [Nat.add_zero, e0]; rfl
    | 1, _ => rw [if_neg (by omega), if_pos (by omega), if_neg (by omega), e1]; rfl
    | 2, _ => rw [if_pos (by omega), if_neg (by omega), if_neg (by omega), e2]; rfl
theorem Fill.step4 {g : Nat} {E : TypeId} {xs : List T4} {s : T4} (h : Fill 4 f4 w g E n xs i) (hi : i < n) (hs : xs[i]? = some s) :
    Fill 4 f4 ((((w.setCell ⟨g, i * 4, none⟩ (.int .i64 s.a)).setCell ⟨g, i * 4 + 1, none⟩ (.int .i64 s.b)).setCell ⟨g, i * 4 + 2, none⟩ (.int .i64 s.c)).setCell ⟨g, i * 4 + 3, none⟩ (.int .i64 s.d)) g E n xs (i + 1) := by
  have hr := h.room
  obtain ⟨⟨arr, ha, hz⟩, hc⟩ := h
  refine ⟨⟨_, heap_set (heap_set (heap_set (heap_set ha _ _) _ _) _ _) _ _, by simpa using hz⟩, fun j t hj ht q hq => ?_⟩
  simp only [cell_set]
  rcases Nat.lt_or_ge j i with hji | hji
  · rw [if_neg (by omega), if_neg (by omega), if_neg (by omega), if_neg (by omega)]; exact hc j t hji ht q hq
  · obtain rfl : j = i := by omega
    obtain rfl : s = t := by rw [hs] at ht; injection ht
    obtain ⟨v0, e0⟩ := (hr (j * 4) (by omega)).1
    obtain ⟨v1, e1⟩ := (hr (j * 4 + 1) (by omega)).1
    obtain ⟨v2, e2⟩ := (hr (j * 4 + 2) (by omega)).1
    obtain ⟨v3, e3⟩ := (hr (j * 4 + 3) (by omega)).1
    match q, hq with
    | 0, _ => rw [if_neg (by omega), if_neg (by omega), if_neg (by omega), if_pos (by omega)]; simp only [Nat.add_zero, e0]; rfl
    | 1, _ => rw [if_neg (by omega), if_neg (by omega), if_pos (by omega), if_neg (by omega), e1]; rfl
    | 2, _ => rw [if_neg (by omega), if_pos (by omega), if_neg (by omega), if_neg (by omega), e2]; rfl
    | 3, _ => rw [if_pos (by omega), if_neg (by omega), if_neg (by omega), if_neg (by omega), e3]; rfl
end

/-! ### slices that are appended to -/
section
variable {α : Type} {k : Nat} {f : α → Nat → Int} {w w' : World}
/-- The cells of a list of elements of k integers each. -/
def encL (k : Nat) (f : α → Nat → Int) (xs : List α) : List Value := xs.flatMap fun s => (List.range k).map fun j => .int .i64 (f s j)
theorem encL_nil : encL k f ([] : List α) = [] := rfl
theorem encL_append (xs ys : List α) : encL k f (xs ++ ys) = encL k f xs ++ encL k f ys := by simp [encL]
theorem encL_length (xs : List α) : (encL k f xs).length = xs.length * k := by
  induction xs with
  | nil => simp [encL]
  | cons s l ih =>
    have : encL k f (s :: l) = ((List.range k).map fun j => Value.int .i64 (f s j)) ++ encL k f l := rfl
    rw [this, List.length_append, ih, List.length_map, List.length_range, List.length_cons, Nat.succ_mul, Nat.add_comm]
theorem encL_one (xs : List α) : ∀ u ∈ encL k f xs, u.oneCell' = true := by
  intro u hu
  simp only [encL, List.mem_flatMap, List.mem_map] at hu
  obtain ⟨s, _, j, _, rfl⟩ := hu
  rfl
theorem encL_get {xs : List α} {i : Nat} {s : α} (hs : xs[i]? = some s) {j : Nat} (hj : j < k) : (encL k f xs)[i * k + j]? = some (.int .i64 (f s j)) := by
  induction xs generalizing i with
  | nil => simp at hs
  | cons t l ih =>
    have hc : encL k f (t :: l) = ((List.range k).map fun j => Value.int .i64 (f t j)) ++ encL k f l := rfl
    rw [hc]
    cases i with
    | zero =>
      simp at hs; subst hs
      rw [List.getElem?_append_left (by simpa using hj), Nat.zero_mul, Nat.zero_add, List.getElem?_map, List.getElem?_range hj]
      rfl
    | succ i =>
      rw [List.getElem?_append_right (by simp [Nat.succ_mul]; omega)]
      have := ih (i := i) (by simpa using hs)
      rw [← this]
      congr 1
      simp [Nat.succ_mul]; omega
/-- The cells of the source of an append, out of what a slice reads. -/
theorem SlAt.news {b o : Nat} {xs : List α} (hk : 0 < k) (h : ∀ i s, xs[i]? = some s → ∀ j, j < k → w.cell? ⟨b, o + i * k + j, none⟩ = some (.int .i64 (f s j))) :
    ∀ j u, (encL k f xs)[j]? = some u → w.cell? ((⟨b, o, none⟩ : Addr).add j) = some u := by
  intro j u hu
  have hj : j < xs.length * k := by rw [← encL_length (f := f)]; exact (List.getElem?_eq_some_iff.1 hu).1
  have hjk : j / k < xs.length := by rw [Nat.div_lt_iff_lt_mul hk]; exact hj
  have hs : xs[j / k]? = some xs[j / k] := List.getElem?_eq_getElem hjk
  have hm : j % k < k := Nat.mod_lt _ hk
  have h1 := h _ _ hs _ hm
  have h2 := encL_get (f := f) hs hm
  have hd : j / k * k + j % k = j := by have := Nat.div_add_mod j k; rw [Nat.mul_comm] at this; exact this
  rw [hd] at h2
  rw [h2] at hu
  rw [Nat.add_assoc, hd] at h1
  have ha : (⟨b, o, none⟩ : Addr).add j = ⟨b, o + j, none⟩ := by
    unfold Addr.add
    split <;> simp_all
  rw [ha, h1]
  exact hu
theorem Bel.grown {a w w' : World} {row : Option Nat} (h : Bel a w) (hg : w.grownBy w' row) (hr : ∀ g, row = some g → a.heap.size ≤ g) : Bel a w' := Below.grown h hg h.size hr
theorem own_block {base : Nat} {e : TypeId} {size n : Nat} {v : Value} {xs : List Value} (h : w.ownsRow base e size v n xs) : ∀ g, v.ownBlock = some g → base ≤ g := by
  intro g hg
  rcases h.2 with ⟨rfl, _⟩ | ⟨g', cap, cur, rfl, hb, _⟩
  · cases hg
  · simp only [Value.ownBlock, Option.some.injEq] at hg; omega
/-- What the call owns and has appended to, read as a row. -/
theorem own_of_owns {base : Nat} {e : TypeId} {v : Value} {n : Nat} {xs : List α} (h : w.ownsRow base e k v n (encL k f xs)) (hk : 0 < k) :
    n = xs.length ∧ ((v = .slice none 0 0 ∧ n = 0) ∨ ∃ g cap, v = .slice (some ⟨g, 0, none⟩) n cap ∧ base ≤ g ∧ Own k f w g e xs) := by
  have hl : xs.length * k = n * k := by rw [← encL_length (f := f)]; exact h.1
  have hn : n = xs.length := (Nat.mul_right_cancel hk hl).symm
  refine ⟨hn, ?_⟩
  rcases h.2 with ⟨rfl, h0⟩ | ⟨g, cap, cur, rfl, hb, hh, hc, _, hs, ht⟩
  · exact .inl ⟨rfl, h0⟩
  · refine .inr ⟨g, cap, rfl, hb, ⟨⟨cur, hh, ?_⟩, fun j s hj hx q hq => ?_⟩⟩
    · rw [hs, ← hn]; exact Nat.mul_le_mul_right _ hc
    · rw [cell_of_heap hh]
      have h2 := encL_get (f := f) hx hq
      rw [← ht] at h2
      have hlt : j * k + q < n * k := by
        have : (j + 1) * k ≤ n * k := Nat.mul_le_mul_right _ (by omega)
        rw [Nat.succ_mul] at this; omega
      rw [List.getElem?_take_of_lt hlt] at h2
      simpa using h2
theorem own_pos {base : Nat} {e : TypeId} {v : Value} {n : Nat} {xs : List α} (h : w.ownsRow base e k v n (encL k f xs)) (hk : 0 < k) (hn : 0 < n) : ∃ g cap, v = .slice (some ⟨g, 0, none⟩) n cap ∧ base ≤ g ∧ Own k f w g e xs := by
  obtain ⟨_, ⟨_, h0⟩ | h⟩ := own_of_owns h hk
  · omega
  · exact h
theorem slAt_of_owns {base : Nat} {e : TypeId} {v : Value} {n : Nat} {xs : List α} (h : w.ownsRow base e k v n (encL k f xs)) (hk : 0 < k) : ∃ A c, v = .slice A n c ∧ SlAt k f w A n xs := by
  obtain ⟨hn, h⟩ := own_of_owns h hk
  rcases h with ⟨rfl, h0⟩ | ⟨g, cap, rfl, _, ho⟩
  · exact ⟨none, 0, by rw [h0], hn, fun h => by omega⟩
  · exact ⟨_, _, rfl, ho.slAt' hn⟩
end

/-! ### 'every element so far' -/
theorem all_take_stepS {α : Type} {p : α → Bool} {xs : List α} {i : Nat} {s : α} (h : xs[i]? = some s) : (xs.take (i + 1)).all p = ((xs.take i).all p && p s) := by
  rw [List.take_add_one, h]
  simp [List.all_append]
theorem all_false_of {α : Type} {p : α → Bool} {xs : List α} {i : Nat} {s : α} (h : xs[i]? = some s) (hp : p s = false) : xs.all p = false := by
  rw [List.all_eq_false]
  exact ⟨s, List.mem_of_getElem? h, by simp [hp]⟩

theorem take_succ_eq {α : Type} {xs ys : List α} {i : Nat} {s t : α} (hs : xs[i]? = some s) (ht : ys[i]? = some t) (h : xs.take i = ys.take i) (e : s = t) : xs.take (i + 1) = ys.take (i + 1) := by
  rw [List.take_add_one, List.take_add_one, hs, ht, h, e]
theorem ne_of_get {α : Type} {xs ys : List α} {i : Nat} {s t : α} (hs : xs[i]? = some s) (ht : ys[i]? = some t) (e : s ≠ t) : xs ≠ ys := by
  rintro rfl
  rw [hs] at ht
  exact e (by injection ht)
theorem eq_of_take {α : Type} {xs ys : List α} {n : Nat} (h : xs.take n = ys.take n) (hx : n = xs.length) (hy : n = ys.length) : xs = ys := by
  rw [List.take_of_length_le (by omega), List.take_of_length_le (by omega)] at h
  exact h

/-- 'make([]T, n)' where T has several cells. -/
theorem run_make_cells {P : Program} (t e : TypeId) (i : TypeInfo) (z : Value) (ht : P.underlying t = some (.slice e)) (hi : P.info? e = some i) (hz : i.zero = some z)
    (n : Nat) (hbytes : i.bytes * n ≤ 281474976710656) (h63 : n ≤ 9223372036854775807) (w : World) :
    (Instr.makeSlice t (.int .i64 (n : Int)) (.int .i64 (n : Int))).run P w = .ok (.slice (some ⟨w.heap.size, 0, none⟩) n n) (w.alloc (.cells (madeCells z.cells (n * i.size)) e)) := by
  have hb : (i.bytes : Int) * (n : Int) ≤ 281474976710656 := by
    have h : ((i.bytes * n : Nat) : Int) ≤ 281474976710656 := by omega
    rwa [Int.natCast_mul] at h
  have hr := run_make (P := P) w t e i z ht hi hz .i64 .i64 n n (by omega) (by omega) hb (by omega)
  simp only [Int.toNat_natCast] at hr
  exact hr
end Go.Proofs.Ytkaffcdjhbaifaa
