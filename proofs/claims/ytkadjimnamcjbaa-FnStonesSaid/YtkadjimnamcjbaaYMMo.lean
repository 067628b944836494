/- Sums backwards. -/
import Derived.Test.YtkadjimnamcjbaaYMWt
import Derived.Test.YtkadjimnamcjbaaYAMs
namespace Go.Proofs.Ytkadjimnamcjbaa
open Go.Eng

theorem csum_below {f g : Nat → Int} : ∀ {n : Nat}, (∀ i, i < n → f i = g i) → csum f n = csum g n
  | 0, _ => rfl
  | k + 1, h => by simp only [csum]; rw [csum_below (n := k) fun i hi => h i (by omega), h k (by omega)]
theorem csum_front (f : Nat → Int) : ∀ n, csum f (n + 1) = f 0 + csum (fun i => f (i + 1)) n
  | 0 => by simp [csum]
  | k + 1 => by rw [csum, csum_front f k]; simp only [csum]; omega
theorem csum_rev : ∀ (n : Nat) (f : Nat → Int), csum (fun i => f (n - 1 - i)) n = csum f n
  | 0, _ => rfl
  | k + 1, f => by
    rw [csum_front f k, ← csum_rev k fun i => f (i + 1)]
    simp only [csum]
    have e : csum (fun i => f (k + 1 - 1 - i)) k = csum (fun i => f (k - 1 - i + 1)) k := csum_below fun i hi => by rw [show k + 1 - 1 - i = k - 1 - i + 1 by omega]
    rw [e, show k + 1 - 1 - k = 0 by omega]
    omega
theorem cor_mir {x : Int} {l : List Pt} {i : Nat} (h : i < l.length) : cor (mirT x l 0) i = mirP x (cor l (l.length - 1 - i)) := by
  have h1 : i % l.length = i := Nat.mod_eq_of_lt h
  have h2 : (l.length - 1 - i) % l.length = l.length - 1 - i := Nat.mod_eq_of_lt (by omega)
  have h3 : l.length - 1 - i < l.length := by omega
  simp [cor, mirT, h1, h2, h3, h]
theorem mir_sum (H : Pt → Pt → Int) (x : Int) (l : List Pt) (h : 0 < l.length) :
    csum (fun i => H (cor (mirT x l 0) i) (cor (mirT x l 0) (i + 1))) l.length = csum (fun j => H (mirP x (cor l (j + 1))) (mirP x (cor l j))) l.length := by
  obtain ⟨k, hk⟩ : ∃ k, l.length = k + 1 := ⟨l.length - 1, by omega⟩
  have hl : (mirT x l 0).length = l.length := by simp [mirT]
  rw [hk]
  simp only [csum]
  rw [← csum_rev k fun j => H (mirP x (cor l (j + 1))) (mirP x (cor l j))]
  congr 1
  · refine csum_below fun i hi => ?_
    rw [cor_mir (by omega), cor_mir (by omega), hk, show k + 1 - 1 - i = k - 1 - i + 1 by omega, show k + 1 - 1 - (i + 1) = k - 1 - i by omega]
  · have e : cor (mirT x l 0) (k + 1) = cor (mirT x l 0) 0 := by rw [← hk, ← hl]; exact cor_round (by omega)
    have e2 : cor l (k + 1) = cor l 0 := by rw [← hk]; exact cor_round h
    rw [e, cor_mir (by omega), cor_mir (by omega), e2, hk, show k + 1 - 1 - k = 0 by omega, show k + 1 - 1 - 0 = k by omega]
theorem csum_tel {F G : Pt → Pt → Int} {t : Pt → Int} (h : ∀ a b, F a b = G a b + (t a - t b)) (l : List Pt) : ∀ n, csum (fun j => F (cor l j) (cor l (j + 1))) n = csum (fun j => G (cor l j) (cor l (j + 1))) n + (t (cor l 0) - t (cor l n))
  | 0 => by simp [csum]
  | k + 1 => by
    have e := csum_tel h l k
    have e2 := h (cor l k) (cor l (k + 1))
    simp only [csum]
    rw [e, e2]
    omega
theorem csum_round {F G : Pt → Pt → Int} {t : Pt → Int} (h : ∀ a b, F a b = G a b + (t a - t b)) (l : List Pt) (h0 : 0 < l.length) : csum (fun j => F (cor l j) (cor l (j + 1))) l.length = csum (fun j => G (cor l j) (cor l (j + 1))) l.length := by
  rw [csum_tel h, cor_round h0]; omega
theorem areaI_mir (x : Int) (l : List Pt) (h : 0 < l.length) : areaI (mirT x l 0) = areaI l := by
  have hl : (mirT x l 0).length = l.length := by simp [mirT]
  rw [areaI, hl, mir_sum cr x l h, areaI]
  exact csum_round (F := fun a b => cr (mirP x b) (mirP x a)) (G := cr) (t := fun p => 2 * x * p.y) (fun a b => by simp only [cr, mirP]; grind) l h
theorem momY_mir (x : Int) (l : List Pt) (h : 0 < l.length) : momI Pt.y (mirT x l 0) = momI Pt.y l := by
  have hl : (mirT x l 0).length = l.length := by simp [mirT]
  rw [momI, hl, mir_sum (fun a b => (a.y + b.y) * cr a b) x l h, momI]
  exact csum_round (F := fun a b => ((mirP x b).y + (mirP x a).y) * cr (mirP x b) (mirP x a)) (G := fun a b => (a.y + b.y) * cr a b) (t := fun p => 2 * x * (p.y * p.y)) (fun a b => by simp only [cr, mirP]; grind) l h
theorem momX_mir (x : Int) (l : List Pt) (h : 0 < l.length) : momI Pt.x (mirT x l 0) = 2 * x * (3 * areaI l) - momI Pt.x l := by
  have hl : (mirT x l 0).length = l.length := by simp [mirT]
  rw [momI, hl, mir_sum (fun a b => (a.x + b.x) * cr a b) x l h, momI, areaI, show 2 * x * (3 * csum (fun i => cr (cor l i) (cor l (i + 1))) l.length) = (6 * x) * csum (fun i => cr (cor l i) (cor l (i + 1))) l.length by grind, ← csum_mul, ← csum_sub]
  exact csum_round (F := fun a b => ((mirP x b).x + (mirP x a).x) * cr (mirP x b) (mirP x a)) (G := fun a b => 6 * x * cr a b - (a.x + b.x) * cr a b) (t := fun p => 8 * x * x * p.y - 2 * x * (p.x * p.y)) (fun a b => by simp only [cr, mirP]; grind) l h
end Go.Proofs.Ytkadjimnamcjbaa
