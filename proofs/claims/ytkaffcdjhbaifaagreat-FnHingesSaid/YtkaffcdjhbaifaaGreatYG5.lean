/- ProofOfFour, both ways. -/
import Derived.Test.YtkaffcdjhbaifaaGreatYAFc
import Derived.Test.YtkaffcdjhbaifaaGreatYG3
namespace Go.Proofs.YtkaffcdjhbaifaaGreat
open Go.Eng
set_option maxRecDepth 100000
attribute [local irreducible] QV TV WL HW W CallOk Weak

def selR (l f : List Int) (k : Nat) : List Int := ((List.range k).filter fun j => decide (0 < iat f j)).map fun j => iat l j
def selF (f : List Int) (k : Nat) : List Int := ((List.range k).filter fun j => decide (0 < iat f j)).map fun j => iat f j
theorem sel_in {l f : List Int} {k : Nat} (h : 0 < iat f k) : selR l f (k + 1) = selR l f k ++ [iat l k] ∧ selF f (k + 1) = selF f k ++ [iat f k] := by
  simp [selR, selF, List.range_succ, List.filter_append, h]
theorem sel_out {l f : List Int} {k : Nat} (h : ¬ 0 < iat f k) : selR l f (k + 1) = selR l f k ∧ selF f (k + 1) = selF f k := by
  simp [selR, selF, List.range_succ, List.filter_append, h]
theorem sel_len (l f : List Int) (k : Nat) : (selR l f k).length ≤ k ∧ (selF f k).length ≤ k := by
  have := List.length_filter_le (fun j => decide (0 < iat f j)) (List.range k)
  simp [selR, selF] at this ⊢
  exact this
def fourF (rs : List Rw) (i k m x : Nat) : List Int := facL (wat rs i) (wat rs k) (wat rs m) (wat rs x)
def fourI (i k m x : Nat) : List Int := [(i : Int), k, m, x]
def four (rs : List Rw) (i k m x : Nat) : Option (List Int × List Int) :=
  bif (fourF rs i k m x).all (fun f => decide (0 ≤ f)) && ispB rs (selR (fourI i k m x) (fourF rs i k m x) (fourF rs i k m x).length) (selF (fourF rs i k m x) (fourF rs i k m x).length) then some (selR (fourI i k m x) (fourF rs i k m x) (fourF rs i k m x).length, selF (fourF rs i k m x) (fourF rs i k m x).length) else none
theorem facL_len (p q r s : Rw) : (facL p q r s).length ≤ 4 := by
  unfold facL
  cases facB p q r s
  · simp
  · simp [fz]
abbrev fourO : Option (List Int × List Int) → AV
  | some (ks, fs) => .tup [.agg [.own 20 3 1 (ks.map iRow), .own 21 3 1 (fs.map iRow)], vb true]
  | none => .tup [.agg [.v (.slice none 0 0), .v (.slice none 0 0)], vb false]
theorem implFactorsOf_sl (p q r s : Rw) : CallOk Tryz.prog 75 [p.av, q.av, r.av, s.av] (fun x => x = slI (facL p q r s)) := by
  have h := implFactorsOf_ok p q r s
  cases e : facB p q r s
  · have hL : facL p q r s = [] := by simp [facL, e]
    rw [e] at h
    rw [hL]
    exact callOk_nilSl h
  · rw [e] at h
    exact callOk_dat h rfl
end Go.Proofs.YtkaffcdjhbaifaaGreat

namespace Go.Proofs.YtkaffcdjhbaifaaGreat
open Go.Eng
set_option maxRecDepth 100000
attribute [local irreducible] QV TV WL HW W CallOk Weak

abbrev PfO := Option (List Int × List Int)
def pf4 (rs : List Rw) (i k m : Nat) : Nat → PfO
  | 0 => none
  | c + 1 => (pf4 rs i k m c).or (four rs i k m (m + 1 + c))
def pf3 (rs : List Rw) (i k : Nat) : Nat → PfO
  | 0 => none
  | c + 1 => (pf3 rs i k c).or (pf4 rs i k (k + 1 + c) (rs.length - (k + 1 + c + 1)))
def pf2 (rs : List Rw) (i : Nat) : Nat → PfO
  | 0 => none
  | c + 1 => (pf2 rs i c).or (pf3 rs i (i + 1 + c) (rs.length - (i + 1 + c + 1)))
def pf1 (rs : List Rw) : Nat → PfO
  | 0 => none
  | c + 1 => (pf1 rs c).or (pf2 rs c (rs.length - (c + 1)))
def pfind (rs : List Rw) : PfO := bif decide (rs.length ≤ 20) then pf1 rs rs.length else none
end Go.Proofs.YtkaffcdjhbaifaaGreat
