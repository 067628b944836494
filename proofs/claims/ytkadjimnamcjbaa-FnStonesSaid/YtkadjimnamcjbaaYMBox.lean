/- The box holds all corners. -/
import Derived.Test.YtkadjimnamcjbaaYABox
import Derived.Test.YtkadjimnamcjbaaYMWt
namespace Go.Proofs.Ytkadjimnamcjbaa
open Go.Eng

theorem low_le (l : List Pt) : ∀ n i, i < n → (lowP l n).x ≤ (cor l i).x ∧ (lowP l n).y ≤ (cor l i).y
  | 0, i, h => absurd h (Nat.not_lt_zero _)
  | k + 1, i, h => by
    simp only [lowP]
    by_cases e : i = k
    · subst e; omega
    · have := low_le l k i (by omega); omega
theorem high_ge (l : List Pt) : ∀ n i, i < n → (cor l i).x ≤ (highP l n).x ∧ (cor l i).y ≤ (highP l n).y
  | 0, i, h => absurd h (Nat.not_lt_zero _)
  | k + 1, i, h => by
    simp only [highP]
    by_cases e : i = k
    · subst e; omega
    · have := high_ge l k i (by omega); omega
theorem cor_mod (l : List Pt) (i : Nat) : cor l i = cor l (i % l.length) := by simp [cor]
theorem low_all {l : List Pt} (h : 0 < l.length) (i : Nat) : (lowP l l.length).x ≤ (cor l i).x ∧ (lowP l l.length).y ≤ (cor l i).y := by
  rw [cor_mod]; exact low_le l _ _ (Nat.mod_lt _ h)
theorem high_all {l : List Pt} (h : 0 < l.length) (i : Nat) : (cor l i).x ≤ (highP l l.length).x ∧ (cor l i).y ≤ (highP l l.length).y := by
  rw [cor_mod]; exact high_ge l _ _ (Nat.mod_lt _ h)
end Go.Proofs.Ytkadjimnamcjbaa
