/- Arguments that came in, opened: slices of structs of integers read as lists ('SlAt'). -/
import Derived.Test.YtajfjeoehodhlaaRow
import Derived.Test.YtajfjeoehodhlaaSlices
import Derived.Deep.Slices
import Derived.Deep.Fields
import Derived.Lib.SmallJoins
namespace Go.Proofs.Ytajfjeoehodhlaa
open Go.ChangeShapes Go.WideShapes Go.ChangeAt Go.RowKit Go.Deep Go.Joins

section
variable {H : Type} {enc : TypeId × Value → H} {P : Program} {W : World} {α : Type}

theorem add_plain {a : Addr} (h : a.spot = none) (i : Nat) : a.add i = ⟨a.block, a.off + i, none⟩ := by
  obtain ⟨b, o, sp⟩ := a
  simp only at h
  subst h
  unfold Addr.add
  split <;> simp_all

theorem spot_of_cell {a : Addr} {v : Value} (h : W.cell? a = some v) : a.spot = none := by
  unfold World.cell? at h
  split at h
  · split at h
    · cases h
    · rename_i h'
      simpa using h'
  · cases h
theorem wf_i64 {x : Int} (h : (Lit.int .i64 x).wf = true) : -9223372036854775808 ≤ x ∧ x ≤ 9223372036854775807 := by
  simp [Lit.wf, IntKind.min, IntKind.bits, IntKind.signed] at h
  omega

/-- A slice whose elements are k integer cells each reads as a list. -/
theorem rows_of_trod [Inhabited α] {k : Nat} {f : α → Nat → Int} {t e : TypeId} {fuel : Nat} {cs : List Value} {x : DataW H × List MemPlace} (ht : P.underlying t = some (.slice e)) (hC : P.cellsOf e = k) (hk : 0 < k)
    (hel : ∀ (n : Nat) (cs : List Value) (y : DataW H × List MemPlace), DataW.trod enc P W 0 (fun _ => true) true n e cs = some y → ∃ s : α, ∀ j, j < k → cs[j]? = some (.int .i64 (f s j)) ∧ (Lit.int .i64 (f s j)).wf = true)
    (h : DataW.trod enc P W 0 (fun _ => true) true fuel t cs = some x) (hlt : ∀ y ∈ x.2, y.block < W.heap.size) :
    ∃ (A : Option Addr) (n c : Nat) (xs : List α), cs = [.slice A n c] ∧ SlAt k f W A n xs ∧ n ≤ 9223372036854775807 ∧ ∀ s ∈ xs, ∀ j, j < k → -9223372036854775808 ≤ f s j ∧ f s j ≤ 9223372036854775807 := by
  rcases open_slice ht h with ⟨rfl, rfl⟩ | ⟨a, len, cap, m, n, D, Pl, rfl, _, hl, hm, hmm, rfl, hi⟩
  · exact ⟨none, 0, 0, [], rfl, ⟨rfl, fun h => by omega⟩, by omega, fun s hs => by cases hs⟩
  · have hm' : m = cap := by simpa using hmm
    subst hm'
    have hs : ∀ i, i < m → ∃ s : α, ∀ j, j < k → (W.cell? ((a.add (i * k)).add j) = some (.int .i64 (f s j)) ∧ (Lit.int .i64 (f s j)).wf = true) := by
      intro i him
      obtain ⟨cs', hc, ht'⟩ := hi i him
      rw [hC] at hc
      obtain ⟨s, hs⟩ := hel n cs' _ ht'
      obtain ⟨_, hcl, hat⟩ := World.cells?_some hc
      exact ⟨s, fun j hj => ⟨(hat j hj).trans (hs j hj).1, (hs j hj).2⟩⟩
    have hg : ∃ g : Nat → α, ∀ i, i < m → ∀ j, j < k → (W.cell? ((a.add (i * k)).add j) = some (.int .i64 (f (g i) j)) ∧ (Lit.int .i64 (f (g i) j)).wf = true) := by
      refine ⟨fun i => if h : i < m then Classical.choose (hs i h) else default, fun i him => ?_⟩
      simp only [him, dif_pos]
      exact Classical.choose_spec (hs i him)
    obtain ⟨g, hg⟩ := hg
    refine ⟨some a, len, m, (List.range len).map g, rfl, ⟨by simp, fun hn => ?_⟩, by unfold maxLen at hm; omega, fun s hs j hj => ?_⟩
    · have hsp : a.spot = none := spot_of_cell (by simpa [Addr.add] using (hg 0 (by omega) 0 hk).1)
      refine ⟨a.block, a.off, by obtain ⟨b, o, sp⟩ := a; simp only at hsp; subst hsp; rfl, ?_, fun i s hs j hj => ?_⟩
      · refine hlt (.cell a.block a.off) ?_
        simp only [List.mem_append]
        left
        simp only [MemPlace.row, List.mem_map, List.mem_range]
        exact ⟨0, by rw [hC]; exact Nat.mul_pos (by omega) hk, by simp⟩
      · have hil : i < len := by
          have := (List.getElem?_eq_some_iff.1 hs).1
          simpa using this
        have e1 := (hg i (by omega) j hj).1
        rw [add_plain hsp, add_plain rfl] at e1
        rw [List.getElem?_map, List.getElem?_range hil] at hs
        simp only [Option.map_some, Option.some.injEq] at hs
        subst hs
        simpa using e1
    · simp only [List.mem_map, List.mem_range] at hs
      obtain ⟨i, hi', rfl⟩ := hs
      exact wf_i64 (hg i (by omega) j hj).2

theorem int_el {t : TypeId} (hI : P.underlying t = some (.int .i64)) (n : Nat) (cs : List Value) (y : DataW H × List MemPlace) (h : DataW.trod enc P W 0 (fun _ => true) true n t cs = some y) :
    ∃ s : Int, ∀ j, j < 1 → cs[j]? = some (.int .i64 (f1 s j)) ∧ (Lit.int .i64 (f1 s j)).wf = true := by
  obtain ⟨x, rfl, rfl, hw⟩ := DataW.trod_int hI h
  refine ⟨x, fun j hj => ?_⟩
  have hj0 : j = 0 := by omega
  subst hj0
  exact ⟨rfl, hw⟩
theorem field_int {fs : Array Field} {e : TypeId} {n : Nat} {cs : List Value} {y : DataW H × List MemPlace} (he : P.underlying e = some (.struct fs)) (hone : oneCellFields P fs = true)
    (hI : ∀ (j : Nat) (f : Field), fs[j]? = some f → P.underlying f.type = some (.int .i64)) (h : DataW.trod enc P W 0 (fun _ => true) true n e cs = some y) (j : Nat) (hj : j < fs.size) :
    ∃ x : Int, cs[j]? = some (.int .i64 x) ∧ (Lit.int .i64 x).wf = true := by
  obtain ⟨ys, n', hn', hy, hlen, hyl, hf⟩ := DataW.trod_struct he h
  have hj' : fs[j]? = some fs[j] := Array.getElem?_eq_getElem hj
  obtain ⟨ho, hk⟩ := hone_of hone j _ hj'
  have h1 := hf j _ hj'
  rw [ho, hk, List.getElem?_eq_getElem (by omega)] at h1
  obtain ⟨x, hx, _, hw⟩ := DataW.trod_int (hI j _ hj') h1
  refine ⟨x, ?_, hw⟩
  have : ((cs.drop j).take 1)[0]? = some (.int .i64 x) := by rw [hx]; rfl
  simpa [List.getElem?_take, List.getElem?_drop] using this

theorem el2 {f0 f1 : Field} {e : TypeId} {n : Nat} {cs : List Value} {y : DataW H × List MemPlace} (he : P.underlying e = some (.struct #[f0, f1])) (hone : oneCellFields P #[f0, f1] = true)
    (h0 : P.underlying f0.type = some (.int .i64)) (h1 : P.underlying f1.type = some (.int .i64)) (h : DataW.trod enc P W 0 (fun _ => true) true n e cs = some y) :
    ∃ s : T2, ∀ j, j < 2 → cs[j]? = some (.int .i64 (f2 s j)) ∧ (Lit.int .i64 (f2 s j)).wf = true := by
  have hI : ∀ (j : Nat) (f : Field), (#[f0, f1] : Array Field)[j]? = some f → P.underlying f.type = some (.int .i64) := by
    intro j f hj
    match j, hj with
    | 0, hj => cases hj; exact h0
    | 1, hj => cases hj; exact h1
  obtain ⟨x0, a0⟩ := field_int he hone hI h 0 (by simp)
  obtain ⟨x1, a1⟩ := field_int he hone hI h 1 (by simp)
  refine ⟨⟨x0, x1⟩, fun j hj => ?_⟩
  match j, hj with
  | 0, _ => exact a0
  | 1, _ => exact a1
theorem el3 {f0 f1 f2 : Field} {e : TypeId} {n : Nat} {cs : List Value} {y : DataW H × List MemPlace} (he : P.underlying e = some (.struct #[f0, f1, f2])) (hone : oneCellFields P #[f0, f1, f2] = true)
    (h0 : P.underlying f0.type = some (.int .i64)) (h1 : P.underlying f1.type = some (.int .i64)) (h2 : P.underlying f2.type = some (.int .i64)) (h : DataW.trod enc P W 0 (fun _ => true) true n e cs = some y) :
    ∃ s : T3, ∀ j, j < 3 → cs[j]? = some (.int .i64 (f3 s j)) ∧ (Lit.int .i64 (f3 s j)).wf = true := by
  have hI : ∀ (j : Nat) (f : Field), (#[f0, f1, f2] : Array Field)[j]? = some f → P.underlying f.type = some (.int .i64) := by
    intro j f hj
    match j, hj with
    | 0, hj => cases hj; exact h0
    | 1, hj => cases hj; exact h1
    | 2, hj => cases hj; exact h2
  obtain ⟨x0, a0⟩ := field_int he hone hI h 0 (by simp)
  obtain ⟨x1, a1⟩ := field_int he hone hI h 1 (by simp)
  obtain ⟨x2, a2⟩ := field_int he hone hI h 2 (by simp)
  refine ⟨⟨x0, x1, x2⟩, fun j hj => ?_⟩
  match j, hj with
  | 0, _ => exact a0
  | 1, _ => exact a1
  | 2, _ => exact a2
end

section
variable {H : Type} {enc : TypeId × Value → H} {W : World}
theorem cells_lSpan : Try.prog.cellsOf 57 = 3 := by kernel_rfl
theorem open_Spans {r : Reach} {b0 : Nat} {v : Value} {d : DataW H} {p : List MemPlace} (hv : Value.okWide Try.prog W r b0 30 v) (h : DataW.Trod enc Try.prog W 0 (fun _ => true) true 30 v d p) (hlt : ∀ x ∈ p, x.block < W.heap.size) :
    ∃ xs : List T3, ∃ A n c, v = .slice A n c ∧ SlAt 3 f3 W A n xs ∧ n ≤ 9223372036854775807 ∧ ∀ s ∈ xs, ∀ j, j < 3 → -9223372036854775808 ≤ f3 s j ∧ f3 s j ≤ 9223372036854775807 := by
  obtain ⟨a0, len, cap, rfl⟩ := okWide_slice Try.underlying30 hv
  obtain ⟨fuel, hf⟩ := h
  obtain ⟨A, n, c, xs, e, hs⟩ := rows_of_trod (f := f3) (k := 3) Try.underlying30 cells_lSpan (by decide)
    (fun n cs y hy => el3 Try.underlying57 (by kernel_rfl) Try.underlying3 Try.underlying3 Try.underlying3 hy) hf hlt
  simp only [Value.cells, List.cons.injEq, and_true] at e
  exact ⟨xs, A, n, c, e, hs⟩
end
end Go.Proofs.Ytajfjeoehodhlaa
