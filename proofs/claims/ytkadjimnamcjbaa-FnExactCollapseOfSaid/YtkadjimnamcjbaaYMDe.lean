/- Determinants of three rows; the thrust at which three rows are just met; the corners of rows. Plain; no program in sight. -/
import Derived.Test.YtkadjimnamcjbaaYARw
import Derived.Test.YtkadjimnamcjbaaZ2
namespace Go.Proofs.Ytkadjimnamcjbaa
open Go.Eng

theorem wk (n : Int) : ∃ k : Int, W64 n = n + 18446744073709551616 * k := by
  refine ⟨(W64 n - n) / 18446744073709551616, ?_⟩
  have : (W64 n - n) % 18446744073709551616 = 0 := by
    simp [W64, IntKind.wrap, IntKind.bits, IntKind.signed]
    try omega
  omega
theorem wsh (n k : Int) : W64 (n + 18446744073709551616 * k) = W64 n := by
  simp [W64, IntKind.wrap, IntKind.bits, IntKind.signed]
  try omega
theorem wcong {a b : Int} (k : Int) (h : a = b + 18446744073709551616 * k) : W64 a = W64 b := by rw [h, wsh]
theorem wmul_l (a b : Int) : W64 (W64 a * b) = W64 (a * b) := by
  obtain ⟨k, hk⟩ := wk a
  exact wcong (k * b) (by rw [hk]; grind)
theorem wmul_r (a b : Int) : W64 (a * W64 b) = W64 (a * b) := by rw [Int.mul_comm, wmul_l, Int.mul_comm]
theorem wadd_l (a b : Int) : W64 (W64 a + b) = W64 (a + b) := w64_add a b
theorem wadd_r (a b : Int) : W64 (a + W64 b) = W64 (a + b) := w64_add' a b
theorem wsub_l (a b : Int) : W64 (W64 a - b) = W64 (a - b) := by
  obtain ⟨k, hk⟩ := wk a
  exact wcong k (by rw [hk]; omega)
theorem wsub_r (a b : Int) : W64 (a - W64 b) = W64 (a - b) := by
  obtain ⟨k, hk⟩ := wk b
  exact wcong (-k) (by rw [hk]; omega)

structure V3 where
  x : Int
  y : Int
  z : Int
abbrev V3.av (v : V3) : AV := .agg [vi v.x, vi v.y, vi v.z]
def det3 (a b c : V3) : Int := a.x * (b.y * c.z - b.z * c.y) - a.y * (b.x * c.z - b.z * c.x) + a.z * (b.x * c.y - b.y * c.x)
def det3W (a b c : V3) : Int := W64 (W64 (W64 (a.x * W64 (W64 (b.y * c.z) - W64 (b.z * c.y))) - W64 (a.y * W64 (W64 (b.x * c.z) - W64 (b.z * c.x)))) + W64 (a.z * W64 (W64 (b.x * c.y) - W64 (b.y * c.x))))
theorem det3W_eq (a b c : V3) : det3W a b c = W64 (det3 a b c) := by
  unfold det3W det3
  simp only [wmul_r, wadd_l, wadd_r, wsub_l, wsub_r]
theorem det3_swap (a b c : V3) : det3 a b c = det3 ⟨a.x, b.x, c.x⟩ ⟨a.y, b.y, c.y⟩ ⟨a.z, b.z, c.z⟩ := by
  unfold det3; grind
/-- Where the first numbers are at most l, the second ones at most m, the third ones at most n. -/
theorem det3_bd {a b c : V3} {l m n : Int} (ax : -l ≤ a.x ∧ a.x ≤ l) (ay : -m ≤ a.y ∧ a.y ≤ m) (az : -n ≤ a.z ∧ a.z ≤ n) (bx : -l ≤ b.x ∧ b.x ≤ l) (bY : -m ≤ b.y ∧ b.y ≤ m) (bz : -n ≤ b.z ∧ b.z ≤ n) (cx : -l ≤ c.x ∧ c.x ≤ l) (cy : -m ≤ c.y ∧ c.y ≤ m) (cz : -n ≤ c.z ∧ c.z ≤ n) :
    -(6 * (l * m * n)) ≤ det3 a b c ∧ det3 a b c ≤ 6 * (l * m * n) := by
  have tri : ∀ {p q r L M N : Int}, (-L ≤ p ∧ p ≤ L) → (-M ≤ q ∧ q ≤ M) → (-N ≤ r ∧ r ≤ N) → -(L * M * N) ≤ p * q * r ∧ p * q * r ≤ L * M * N := fun h1 h2 h3 => mul_bd (mul_bd h1 h2) h3
  have h1 := tri ax bY cz
  have h2 := tri ax cy bz
  have h3 := tri bx ay cz
  have h4 := tri cx ay bz
  have h5 := tri bx cy az
  have h6 := tri cx bY az
  have e : det3 a b c = a.x * b.y * c.z - a.x * c.y * b.z - b.x * a.y * c.z + c.x * a.y * b.z + b.x * c.y * a.z - c.x * b.y * a.z := by unfold det3; grind
  rw [e]
  generalize l * m * n = B at *
  omega

abbrev abc (r : Rw) : V3 := ⟨r.a, r.b, r.c⟩
def detR (p q r : Rw) : Int := det3 (abc p) (abc q) (abc r)
section
variable {p q r : Rw} (hp : rowB p = true) (hq : rowB q = true) (hr : rowB r = true)
include hp hq hr
theorem detR_bd : -60000 ≤ detR p q r ∧ detR p q r ≤ 60000 := by
  rw [rowB_true] at hp hq hr
  have := det3_bd (a := abc p) (b := abc q) (c := abc r) (l := 100) (m := 100) (n := 1) (by simp; omega) (by simp; omega) (by simp; omega) (by simp; omega) (by simp; omega) (by simp; omega) (by simp; omega) (by simp; omega) (by simp; omega)
  unfold detR; omega
end

/-- Where three rows are just met. -/
def det0 (p q r : Rw) : Int := bif rowB p && (rowB q && rowB r) then detR p q r else 0
/-! ### The corners -/
end Go.Proofs.Ytkadjimnamcjbaa
