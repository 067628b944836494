/- Convex stones: their corners lie in them, what lies right of them does not; widths and mirrors. -/
import Derived.Test.YtkadjimnamcjbaaYAMg
import Derived.Test.YtkadjimnamcjbaaYAIn
import Derived.Test.YtkadjimnamcjbaaYAWide
import Derived.Test.YtkadjimnamcjbaaYMBox
import Derived.Test.YtkadjimnamcjbaaYMMo
import Derived.Test.YtkadjimnamcjbaaYMCv
namespace Go.Proofs.Ytkadjimnamcjbaa
open Go.Eng

theorem cor_add (l : List Pt) (i j : Nat) : cor l (i % l.length + j) = cor l (i + j) := by simp [cor, Nat.add_mod]
theorem turn_all {s : List Pt} (h : stoneB s = true) (i : Nat) : 0 < side (cor s i) (cor s (i + 1)) (cor s (i + 2)) := by
  have h3 := stone_len h
  have hk : i % s.length < s.length := Nat.mod_lt _ (by omega)
  have h1 := h
  simp only [stoneB, Bool.and_eq_true] at h1
  have h2 := List.all_eq_true.1 h1.2.2 (i % s.length) (List.mem_range.2 hk)
  simp only [Bool.and_eq_true, turnB, decide_eq_true_eq] at h2
  have h4 := h2.1
  rw [sideW_eq (cor_ok h _) (cor_ok h _) (cor_ok h _), cor_add, cor_add, ← cor_mod] at h4
  exact h4
theorem corner_in {s : List Pt} (h : stoneB s = true) (hv : convB s = true) (k : Nat) (hk : k < s.length) : insideB s (cor s k) = true := by
  simp only [insideB, h, cor_ok h, Bool.true_and, List.all_eq_true, List.mem_range]
  intro i hi
  simp only [inB, decide_eq_true_eq]
  rw [sideW_eq (cor_ok h _) (cor_ok h _) (cor_ok h _)]
  have h1 := List.all_eq_true.1 (List.all_eq_true.1 hv i (List.mem_range.2 hi)) k (List.mem_range.2 hk)
  simpa using h1
theorem high_is (l : List Pt) : ∀ n, ∃ k, (highP l n).x = (cor l k).x
  | 0 => ⟨0, rfl⟩
  | n + 1 => by
    obtain ⟨k, hk⟩ := high_is l n
    by_cases h : (cor l n).x ≤ (highP l n).x
    · exact ⟨k, by simp only [highP]; omega⟩
    · exact ⟨n, by simp only [highP]; omega⟩
theorem right_out {s : List Pt} (h : stoneB s = true) (y : Int) : insideB s ⟨(highP s s.length).x + 1, y⟩ = false := by
  have h3 := stone_len h
  cases hin : insideB s ⟨(highP s s.length).x + 1, y⟩ with
  | false => rfl
  | true =>
    exfalso
    obtain ⟨p, ep⟩ : ∃ p : Pt, p = ⟨(highP s s.length).x + 1, y⟩ := ⟨_, rfl⟩
    have epx : p.x = (highP s s.length).x + 1 := by rw [ep]
    rw [← ep] at hin
    simp only [insideB, Bool.and_eq_true, List.all_eq_true, List.mem_range, inB, decide_eq_true_eq] at hin
    obtain ⟨_, hp, hs⟩ := hin
    have hs' : ∀ i, 0 ≤ side (cor s i) (cor s (i + 1)) p := fun i => by
      have hk : i % s.length < s.length := Nat.mod_lt _ (by omega)
      have := hs _ hk
      rw [sideW_eq (cor_ok h _) (cor_ok h _) hp, cor_add, ← cor_mod] at this
      exact this
    obtain ⟨k, hk⟩ := high_is s s.length
    obtain ⟨j, hj⟩ : ∃ j, j + 1 = k + s.length := ⟨k + s.length - 1, by omega⟩
    have eB : cor s (j + 1) = cor s k := by rw [hj]; simp [cor]
    have t := turn_all h j
    have i1 := hs' j
    have i2 := hs' (j + 1)
    have b1 := (high_all (l := s) (by omega) j).1
    have b2 := (high_all (l := s) (by omega) (j + 2)).1
    have eBx : (cor s (j + 1)).x = (highP s s.length).x := by rw [eB, hk]
    obtain ⟨A, eA⟩ : ∃ A, A = cor s j := ⟨_, rfl⟩
    obtain ⟨B, eB'⟩ : ∃ B, B = cor s (j + 1) := ⟨_, rfl⟩
    obtain ⟨C, eC⟩ : ∃ C, C = cor s (j + 2) := ⟨_, rfl⟩
    rw [show j + 1 + 1 = j + 2 from rfl] at i2
    rw [← eA, ← eB', ← eC] at t
    rw [← eA, ← eB'] at i1
    rw [← eB', ← eC] at i2
    rw [← eA] at b1
    rw [← eC] at b2
    rw [← eB'] at eBx
    have id : (p.x - B.x) * side A B C + (B.x - A.x) * side B C p + (B.x - C.x) * side A B p = 0 := by simp only [side]; grind
    have q1 : 0 ≤ (B.x - A.x) * side B C p := Int.mul_nonneg (by omega) i2
    have q2 : 0 ≤ (B.x - C.x) * side A B p := Int.mul_nonneg (by omega) i1
    rw [show p.x - B.x = 1 by omega, Int.one_mul] at id
    omega
theorem sqI_ok {a b : Pt} (h1 : ptOk a = true) (h2 : ptOk b = true) : sqI a b = sq a b := by simp [sqI, h1, h2]
theorem sq_mir (x : Int) (a b : Pt) : sq (mirP x a) (mirP x b) = sq a b := by simp only [sq, mirP]; grind
theorem wide_mir {x : Int} {s : List Pt} (h : stoneB s = true) (hm : stoneB (mirT x s 0) = true) : wide (mirT x s 0) = wide s := by
  have hl : (mirT x s 0).length = s.length := by simp [mirT]
  have e : ∀ k i, k < s.length → i < s.length → sqI (cor (mirT x s 0) k) (cor (mirT x s 0) i) = sqI (cor s (s.length - 1 - k)) (cor s (s.length - 1 - i)) := fun k i hk hi => by
    rw [sqI_ok (cor_ok hm _) (cor_ok hm _), sqI_ok (cor_ok h _) (cor_ok h _), cor_mir hk, cor_mir hi, sq_mir]
  simp only [wide, h, hm, if_true]
  rw [← wide_same, ← wide_same]
  apply Int.le_antisymm
  · obtain ⟨h0, h1⟩ := wideI_le.1 (Int.le_refl (wideI s s.length))
    refine wideI_le.2 ⟨h0, fun k hk i hi => ?_⟩
    rw [hl] at hk hi
    rw [e k i hk hi]
    exact h1 _ (by omega) _ (by omega)
  · obtain ⟨h0, h1⟩ := wideI_le.1 (Int.le_refl (wideI (mirT x s 0) (mirT x s 0).length))
    refine wideI_le.2 ⟨h0, fun k hk i hi => ?_⟩
    have := h1 (s.length - 1 - k) (by omega) (s.length - 1 - i) (by omega)
    rw [e _ _ (by omega) (by omega), show s.length - 1 - (s.length - 1 - k) = k by omega, show s.length - 1 - (s.length - 1 - i) = i by omega] at this
    exact this
theorem wide_pos {s : List Pt} (h : stoneB s = true) : 0 < wide s := by
  have h3 := stone_len h
  simp only [wide, h, if_true]
  rw [← wide_same]
  obtain ⟨_, h1⟩ := wideI_le.1 (Int.le_refl (wideI s s.length))
  have h2 := h1 0 (by omega) 1 (by omega)
  rw [sqI_ok (cor_ok h _) (cor_ok h _)] at h2
  have t := turn_all h 0
  refine Int.lt_of_lt_of_le ?_ h2
  obtain ⟨A, eA⟩ : ∃ A, A = cor s 0 := ⟨_, rfl⟩
  obtain ⟨B, eB⟩ : ∃ B, B = cor s 1 := ⟨_, rfl⟩
  obtain ⟨C, eC⟩ : ∃ C, C = cor s 2 := ⟨_, rfl⟩
  rw [show (0 : Nat) + 1 = 1 from rfl, show (0 : Nat) + 2 = 2 from rfl, ← eA, ← eB, ← eC] at t
  rw [← eA, ← eB]
  obtain ⟨a, ea⟩ : ∃ a, a = B.x - A.x := ⟨_, rfl⟩
  obtain ⟨b, eb⟩ : ∃ b, b = B.y - A.y := ⟨_, rfl⟩
  have sqp : ∀ z : Int, 0 ≤ z * z ∧ (z * z = 0 → z = 0) := fun z => by
    refine ⟨?_, fun h => (Int.mul_eq_zero.1 h).elim id id⟩
    rcases Int.le_total 0 z with h | h
    · exact Int.mul_nonneg h h
    · exact Int.mul_nonneg_of_nonpos_of_nonpos h h
  simp only [side, sq] at t ⊢
  rw [← ea, ← eb] at t ⊢
  have p1 := sqp a
  have p2 := sqp b
  by_cases z : a * a = 0
  · by_cases z2 : b * b = 0
    · rw [p1.2 z, p2.2 z2] at t
      simp at t
    · omega
  · omega
theorem mirQ_ok {x : Int} {p : Pt} (hp : ptOk p = true) (hx : inR x (-60) 60 = true) : mirQ x p = mirP x p := by simp [mirQ, hp, hx]
theorem mirU_eq {x : Int} {s : List Pt} (h : stoneB s = true) (hx : inR x (-60) 60 = true) : mirU x s 0 = mirT x s 0 := by
  have hall : s.all ptOk = true := by simp only [stoneB, Bool.and_eq_true] at h; exact h.2.1
  unfold mirU mirT
  exact List.map_congr_left fun p hp => mirQ_ok (List.all_eq_true.1 hall p (by simpa using hp)) hx
theorem mirT_twice (x : Int) (s : List Pt) : mirT x (mirT x s 0) 0 = s := by
  have e : ∀ p : Pt, mirP x (mirP x p) = p := fun p => by
    cases p
    simp only [mirP, Pt.mk.injEq, and_true]
    omega
  have e2 : (mirP x ∘ mirP x) = id := funext e
  simp only [mirT, List.drop_zero, List.map_reverse, List.reverse_reverse, List.map_map, e2, List.map_id]
end Go.Proofs.Ytkadjimnamcjbaa
