/- Points, stones, joints, arches as plain data; what the functions on points and stones answer. No program in sight. -/
import Derived.Test.YtpcahgedkmgllaaGreatZ4
import Derived.Test.YtpcahgedkmgllaaGreatYI
set_option maxHeartbeats 4000000
namespace Go.Proofs.YtpcahgedkmgllaaGreat
open Go.Eng

abbrev vi (n : Int) : AV := .v (.int .i64 n)
abbrev vb (b : Bool) : AV := .v (.bool b)
abbrev W64 (n : Int) : Int := IntKind.i64.wrap n
theorem vi_eq {a b : Int} (h : a = b) : vi a = vi b := by rw [h]
theorem vb_eq {a b : Bool} (h : a = b) : vb a = vb b := by rw [h]
theorem w64 {n : Int} (h : -9223372036854775808 ≤ n ∧ n ≤ 9223372036854775807) : W64 n = n := i64w h

structure Pt where
  x : Int
  y : Int
  deriving DecidableEq
abbrev Pt.row (p : Pt) : List AV := [vi p.x, vi p.y]
abbrev Pt.av (p : Pt) : AV := .agg [vi p.x, vi p.y]
abbrev slPt (l : List Pt) : AV := .sl 2 (l.map Pt.row)
structure Jt where
  i : Pt
  o : Pt
  deriving DecidableEq
abbrev Jt.row (j : Jt) : List AV := [vi j.i.x, vi j.i.y, vi j.o.x, vi j.o.y]
abbrev Jt.av (j : Jt) : AV := .agg [vi j.i.x, vi j.i.y, vi j.o.x, vi j.o.y]
abbrev slJt (l : List Jt) : AV := .sl 4 (l.map Jt.row)

theorem row_at {α : Type} {f : α → List AV} {l : List α} {j : Nat} {p : α} (h : l[j]? = some p) : (l.map f)[j]? = some (f p) := by simp [h]

def inR (x a b : Int) : Bool := decide (a ≤ x) && decide (x ≤ b)
theorem inR_true {x a b : Int} : inR x a b = true ↔ a ≤ x ∧ x ≤ b := by simp [inR]
def ptOk (p : Pt) : Bool := inR p.x (-60) 60 && inR p.y (-60) 60
theorem ptOk_true {p : Pt} : ptOk p = true ↔ (-60 ≤ p.x ∧ p.x ≤ 60) ∧ -60 ≤ p.y ∧ p.y ≤ 60 := by simp [ptOk, inR_true]
def sideW (a b p : Pt) : Int := W64 (W64 (W64 (b.x - a.x) * W64 (p.y - a.y)) - W64 (W64 (b.y - a.y) * W64 (p.x - a.x)))
theorem mul_bd {a b m n : Int} (ha : -m ≤ a ∧ a ≤ m) (hb : -n ≤ b ∧ b ≤ n) : -(m * n) ≤ a * b ∧ a * b ≤ m * n := by
  have hm : 0 ≤ m := by omega
  have hn : 0 ≤ n := by omega
  have h1 : (a * b).natAbs ≤ (m * n).natAbs := by
    rw [Int.natAbs_mul, Int.natAbs_mul]
    exact Nat.mul_le_mul (by omega) (by omega)
  have h2 : 0 ≤ m * n := Int.mul_nonneg hm hn
  omega
def cor (l : List Pt) (i : Nat) : Pt := l.getD (i % l.length) ⟨0, 0⟩
def turnB (l : List Pt) (i : Nat) : Bool := decide (0 < sideW (cor l i) (cor l (i + 1)) (cor l (i + 2)))
def fanB (l : List Pt) (i : Nat) : Bool := decide (l.length ≤ i + 1) || decide (0 ≤ sideW (cor l 0) (cor l i) (cor l (i + 1)))
def stoneB (l : List Pt) : Bool := inR l.length 3 6 && (l.all ptOk && (List.range l.length).all fun i => turnB l i && fanB l i)

theorem rem_at (i j n : Nat) : ((i : Int) + j).tmod (n : Int) = (((i + j) % n : Nat) : Int) := by
  rw [Int.tmod_eq_emod_of_nonneg (by omega)]
  norm_cast
theorem cor_at {l : List Pt} {i : Nat} (h : 0 < l.length) : l[i % l.length]? = some (cor l i) := by
  have : i % l.length < l.length := Nat.mod_lt _ h
  simp [cor, this]
theorem cor_lt {l : List Pt} {i : Nat} (h : i < l.length) : l[i]? = some (cor l i) := by
  have := cor_at (l := l) (i := i) (by omega)
  rwa [Nat.mod_eq_of_lt h] at this
theorem all_range_succ (f : Nat → Bool) (n : Nat) : (List.range (n + 1)).all f = ((List.range n).all f && f n) := by
  rw [List.range_succ, List.all_append]; simp
theorem all_range_false {f : Nat → Bool} {n i : Nat} (hi : i < n) (h : f i = false) : (List.range n).all f = false := by
  rw [Bool.eq_false_iff]
  intro h2
  rw [List.all_eq_true] at h2
  have := h2 i (List.mem_range.2 hi)
  rw [h] at this; cases this
theorem all_take_succ {α : Type} {f : α → Bool} {l : List α} {i : Nat} {p : α} (h : l[i]? = some p) : (l.take (i + 1)).all f = ((l.take i).all f && f p) := by
  rw [List.take_add_one, h]; simp
theorem all_at_false {α : Type} {f : α → Bool} {l : List α} {i : Nat} {p : α} (h : l[i]? = some p) (hp : f p = false) : l.all f = false := by
  rw [Bool.eq_false_iff]
  intro h2
  rw [List.all_eq_true] at h2
  have := h2 p (List.mem_of_getElem? h)
  rw [hp] at this; cases this
end Go.Proofs.YtpcahgedkmgllaaGreat

namespace Go.Proofs.YtpcahgedkmgllaaGreat
open Go.Eng
set_option maxRecDepth 100000
attribute [local irreducible] QV TV WL HW W CallOk Weak

theorem within_ok (x a b : Int) : CallOk Tryz.prog 35 [vi x, vi a, vi b] (fun r => r = vb (inR x a b)) := by
  refine callOk Tryz.func35 Tryz.ntmps35 Tryz.results35 rfl rfl rfl fun B w0 M I0 V0 => ?_
  (repeat (first | refine WL_nil ?_ | refine zq0 qv9 ?_ | refine zq1 ?_ | refine zq2 ?_ | refine zq3 ?_ | refine zq4 ?_ | refine zq5 ?_ | refine zq6 ?_ | refine wN rfl ?_))
  (refine wls rfl rfl (fun hg => ?_) (fun hg => ?_))
  all_goals (repeat (first | refine WL_nil ?_ | refine zq0 qv9 ?_ | refine zq1 ?_ | refine zq2 ?_ | refine zq3 ?_ | refine zq4 ?_ | refine zq5 ?_ | refine zq6 ?_ | refine wN rfl ?_))
  all_goals (refine Exists.intro _ ⟨Weak.refl _, Exists.intro _ ⟨resA_tmp rfl rfl, ?_, rfl⟩⟩; exact vb_eq (by simp [inR, hg]))
theorem l01In_ok (x a b : Int) : CallOk Tryz.prog 17 [vi x, vi a, vi b] (fun r => r = vb (inR x a b)) := by
  refine callOk Tryz.func17 Tryz.ntmps17 Tryz.results17 rfl rfl rfl fun B w0 M I0 V0 => ?_
  (repeat (first | refine WL_nil ?_ | refine zq0 qv9 ?_ | refine zq1 ?_ | refine zq2 ?_ | refine zq3 ?_ | refine zq4 ?_ | refine zq5 ?_ | refine zq6 ?_ | refine wN rfl ?_))
  (refine wls rfl rfl (fun hg => ?_) (fun hg => ?_))
  all_goals (repeat (first | refine WL_nil ?_ | refine zq0 qv9 ?_ | refine zq1 ?_ | refine zq2 ?_ | refine zq3 ?_ | refine zq4 ?_ | refine zq5 ?_ | refine zq6 ?_ | refine wN rfl ?_))
  all_goals (refine Exists.intro _ ⟨Weak.refl _, Exists.intro _ ⟨resA_tmp rfl rfl, ?_, rfl⟩⟩; exact vb_eq (by simp [inR, hg]))
theorem isPlace_ok (x : Int) : CallOk Tryz.prog 36 [vi x] (fun r => r = vb (inR x (-60) 60)) := by
  refine callOk Tryz.func36 Tryz.ntmps36 Tryz.results36 rfl rfl rfl fun B w0 M I0 V0 => ?_
  (repeat (first | refine WL_nil ?_ | refine zq0 (by first | exact qv9 | exact q_callA (within_ok _ _ _)) ?_ | refine zq1 ?_ | refine zq2 ?_ | refine zq3 ?_ | refine zq4 ?_ | refine zq5 ?_ | refine zq6 ?_ | refine wN rfl ?_))
  refine Exists.intro _ ⟨Weak.refl _, Exists.intro _ ⟨resA_tmp rfl rfl, ?_, rfl⟩⟩
  rfl
theorem Point_ok (p : Pt) : CallOk Tryz.prog 87 [p.av] (fun r => r = vb (ptOk p)) := by
  refine callOk Tryz.func87 Tryz.ntmps87 Tryz.results87 rfl rfl rfl fun B w0 M I0 V0 => ?_
  (repeat (first | refine WL_nil ?_ | refine zq0 (by first | exact qv9 | exact q_callA (isPlace_ok _)) ?_ | refine zq1 ?_ | refine zq2 ?_ | refine zq3 ?_ | refine zq4 ?_ | refine zq5 ?_ | refine zq6 ?_ | refine wN rfl ?_))
  (refine wls rfl rfl (fun hg => ?_) (fun hg => ?_))
  all_goals (repeat (first | refine WL_nil ?_ | refine zq0 (by first | exact qv9 | exact q_callA (isPlace_ok _)) ?_ | refine zq1 ?_ | refine zq2 ?_ | refine zq3 ?_ | refine zq4 ?_ | refine zq5 ?_ | refine zq6 ?_ | refine wN rfl ?_))
  all_goals (refine Exists.intro _ ⟨Weak.refl _, Exists.intro _ ⟨resA_tmp rfl rfl, ?_, rfl⟩⟩; exact vb_eq (by simp [ptOk, hg]))
theorem PointOk_ok (p : Pt) : CallOk Tryz.prog 62 [p.av] (fun r => r = vb (ptOk p)) := by
  refine callOk Tryz.func62 Tryz.ntmps62 Tryz.results62 rfl rfl rfl fun B w0 M I0 V0 => ?_
  (repeat (first | refine WL_nil ?_ | refine zq0 (by first | exact qv9 | exact q_callA (l01In_ok _ _ _)) ?_ | refine zq1 ?_ | refine zq2 ?_ | refine zq3 ?_ | refine zq4 ?_ | refine zq5 ?_ | refine zq6 ?_ | refine wN rfl ?_))
  (refine wls rfl rfl (fun hg => ?_) (fun hg => ?_))
  all_goals (repeat (first | refine WL_nil ?_ | refine zq0 (by first | exact qv9 | exact q_callA (l01In_ok _ _ _)) ?_ | refine zq1 ?_ | refine zq2 ?_ | refine zq3 ?_ | refine zq4 ?_ | refine zq5 ?_ | refine zq6 ?_ | refine wN rfl ?_))
  all_goals (refine Exists.intro _ ⟨Weak.refl _, Exists.intro _ ⟨resA_tmp rfl rfl, ?_, rfl⟩⟩; exact vb_eq (by simp [ptOk, hg]))
theorem side_ok (a b p : Pt) : CallOk Tryz.prog 88 [p.av, a.av, b.av] (fun r => r = vi (sideW a b p)) := by
  refine callOk Tryz.func88 Tryz.ntmps88 Tryz.results88 rfl rfl rfl fun B w0 M I0 V0 => ?_
  (repeat (first | refine WL_nil ?_ | refine zq0 qv9 ?_ | refine zq1 ?_ | refine zq2 ?_ | refine zq3 ?_ | refine zq4 ?_ | refine zq5 ?_ | refine zq6 ?_ | refine wN rfl ?_))
  refine Exists.intro _ ⟨Weak.refl _, Exists.intro _ ⟨resA_tmp rfl rfl, ?_, rfl⟩⟩
  rfl
theorem l02Side_ok (a b p : Pt) : CallOk Tryz.prog 63 [a.av, b.av, p.av] (fun r => r = vi (sideW a b p)) := by
  refine callOk Tryz.func63 Tryz.ntmps63 Tryz.results63 rfl rfl rfl fun B w0 M I0 V0 => ?_
  (repeat (first | refine WL_nil ?_ | refine zq0 qv9 ?_ | refine zq1 ?_ | refine zq2 ?_ | refine zq3 ?_ | refine zq4 ?_ | refine zq5 ?_ | refine zq6 ?_ | refine wN rfl ?_))
  refine Exists.intro _ ⟨Weak.refl _, Exists.intro _ ⟨resA_tmp rfl rfl, ?_, rfl⟩⟩
  rfl
end Go.Proofs.YtpcahgedkmgllaaGreat
