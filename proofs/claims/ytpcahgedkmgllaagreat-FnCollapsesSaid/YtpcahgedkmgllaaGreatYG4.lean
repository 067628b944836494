/- Thrusts: greatest common divisors, ThrustOk, both ways. -/
import Derived.Test.YtpcahgedkmgllaaGreatYG2
import Derived.Test.YtpcahgedkmgllaaGreatYG3
import Derived.Test.YtpcahgedkmgllaaGreatYALd
import Derived.Test.YtpcahgedkmgllaaGreatZ6
import Derived.Test.YtpcahgedkmgllaaGreatZ7
import Derived.Test.YtpcahgedkmgllaaGreatYI
set_option maxHeartbeats 4000000
namespace Go.Proofs.YtpcahgedkmgllaaGreat
open Go.Eng
set_option maxRecDepth 100000
attribute [local irreducible] QV TV WL HW W CallOk Weak

structure Th where
  h : Int
  v : Int
  m : Int
  d : Int
  deriving DecidableEq
abbrev Th.row (t : Th) : List AV := [vi t.h, vi t.v, vi t.m, vi t.d]
abbrev Th.av (t : Th) : AV := .agg [vi t.h, vi t.v, vi t.m, vi t.d]
abbrev iRow (n : Int) : List AV := [vi n]
abbrev slI (l : List Int) : AV := .sl 1 (l.map iRow)
abbrev vu (n : Nat) : AV := .v (.int .u64 (n : Int))
theorem wu_neg {n : Int} (h : -9223372036854775808 ≤ n ∧ n < 0) : IntKind.u64.wrap (0 - IntKind.u64.wrap n) = (n.natAbs : Int) := by
  simp [IntKind.wrap, IntKind.bits, IntKind.signed]; omega
theorem wu_pos {n : Int} (h : 0 ≤ n ∧ n ≤ 9223372036854775807) : IntKind.u64.wrap n = (n.natAbs : Int) := by
  simp [IntKind.wrap, IntKind.bits, IntKind.signed]; omega

theorem gcd_le {a b : Int} {m : Nat} (ha : a.natAbs ≤ m) (hb : b.natAbs ≤ m) : Int.gcd a b ≤ m := by
  unfold Int.gcd
  by_cases h : a.natAbs = 0
  · rw [h, Nat.gcd_zero_left]; exact hb
  · exact Nat.le_trans (Nat.gcd_le_left _ (by omega)) ha
def gcdL (l : List Int) : Nat := l.foldl (fun d n => Nat.gcd d n.natAbs) 0
theorem gcdL_succ {l : List Int} {i : Nat} {n : Int} (h : l[i]? = some n) : gcdL (l.take (i + 1)) = Nat.gcd (gcdL (l.take i)) n.natAbs := by
  unfold gcdL
  rw [List.take_add_one, h]
  simp
theorem gcdL_le {l : List Int} {m : Nat} (h : ∀ n ∈ l, n.natAbs ≤ m) : gcdL l ≤ m := by
  have : ∀ (l : List Int) (d : Nat), d ≤ m → (∀ n ∈ l, n.natAbs ≤ m) → l.foldl (fun d n => Nat.gcd d n.natAbs) d ≤ m := by
    intro l
    induction l with
    | nil => intro d hd _; exact hd
    | cons x l ih =>
      intro d hd hl
      refine ih _ ?_ fun n hn => hl n (by simp [hn])
      show Nat.gcd d x.natAbs ≤ m
      have hx := hl x (by simp)
      by_cases h0 : d = 0
      · rw [h0, Nat.gcd_zero_left]; exact hx
      · exact Nat.le_trans (Nat.gcd_le_left _ (by omega)) hd
  exact this l 0 (by omega) h
theorem magnitude_ok (n : Int) (hn : -9223372036854775808 ≤ n ∧ n ≤ 9223372036854775807) : CallOk Tryz.prog 103 [vi n] (fun r => r = vu n.natAbs) := by
  refine callOk Tryz.func103 Tryz.ntmps103 Tryz.results103 rfl rfl rfl fun B w0 M I0 V0 => ?_
  (repeat (first | refine WL_nil ?_ | refine zq0 qv9 ?_ | refine zq1 ?_ | refine zq2 ?_ | refine zq3 ?_ | refine zq4 ?_ | refine zq5 ?_ | refine zq6 ?_ | refine wN rfl ?_))
  (refine W_cond rfl (fun hc => ?_) (fun hc => ?_))
  · (repeat (first | refine WL_nil ?_ | refine zq0 (by first | exact qv9 | exact QV_conv (by rw [Tryz.underlying3]; rfl) Tryz.underlying96 rfl) ?_ | refine zq1 ?_ | refine zq2 ?_ | refine zq3 ?_ | refine zq4 ?_ | refine zq5 ?_ | refine zq6 ?_ | refine wN rfl ?_))
    refine Exists.intro _ ⟨Weak.refl _, Exists.intro _ ⟨resA_tmp rfl rfl, ?_, rfl⟩⟩
    simp at hc
    show AV.v (.int .u64 (IntKind.u64.wrap (0 - IntKind.u64.wrap n))) = _
    rw [wu_neg (by omega)]
  · (repeat (first | refine WL_nil ?_ | refine zq0 (by first | exact qv9 | exact QV_conv (by rw [Tryz.underlying3]; rfl) Tryz.underlying96 rfl) ?_ | refine zq1 ?_ | refine zq2 ?_ | refine zq3 ?_ | refine zq4 ?_ | refine zq5 ?_ | refine zq6 ?_ | refine wN rfl ?_))
    refine Exists.intro _ ⟨Weak.refl _, Exists.intro _ ⟨resA_tmp rfl rfl, ?_, rfl⟩⟩
    simp at hc
    show AV.v (.int .u64 (IntKind.u64.wrap n)) = _
    rw [wu_pos (by omega)]
def iat (l : List Int) (i : Nat) : Int := l.getD i 0
theorem iat_lt {l : List Int} {i : Nat} (h : i < l.length) : l[i]? = some (iat l i) := by
  simp [iat, h]
theorem commonDivisor_ok (l : List Int) (hn : l.length ≤ 1048576) (hl : ∀ n ∈ l, n.natAbs ≤ 9223372036854775807) : CallOk Tryz.prog 91 [slI l] (fun r => r = vi (gcdL l)) := by
  refine callOk Tryz.func91 Tryz.ntmps91 Tryz.results91 rfl rfl rfl fun B w0 M I0 V0 => ?_
  (repeat (first | refine WL_nil ?_ | refine zq0 qv9 ?_ | refine zq1 ?_ | refine zq2 ?_ | refine zq3 ?_ | refine zq4 ?_ | refine zq5 ?_ | refine zq6 ?_ | refine wN rfl ?_))
  refine W_loop (fun n s => ∃ k : Nat, k ≤ l.length ∧ n = l.length - k ∧ s = ⟨[(3, vu (gcdL (l.take k))), (7, slI l), (8, vi l.length), (9, vi k)], [], []⟩) ⟨_, _, ⟨0, by omega, rfl, rfl⟩, wkA⟩ ?_
  rintro n s ⟨k, hk, rfl, rfl⟩
  by_cases hlt : k < l.length
  · have hp := iat_lt hlt
    have hb := hl _ (List.mem_of_getElem? hp)
    have hg := gcdL_le (l := l.take k) (m := 9223372036854775807) fun n hn => hl n (List.mem_of_mem_take hn)
    have hmag := magnitude_ok (iat l k) (by omega)
    (repeat (first | refine WL_nil ?_ | refine zq0 qv9 ?_ | refine zq1 ?_ | refine zq2 ?_ | refine zq3 ?_ | refine zq4 ?_ | refine zq5 ?_ | refine zq6 ?_ | refine wN rfl ?_))
    (refine W_cond rfl (fun hc => ?_) (fun hc => ?_))
    · (repeat (first | refine WL_nil ?_ | refine zq0 (by first | exact qv9 | exact q_callA (hmag) | exact QV_indexAddr rfl rfl rfl rfl (row_at hp)) ?_ | refine zq1 ?_ | refine zq2 ?_ | refine zq3 ?_ | refine zq4 ?_ | refine zq5 ?_ | refine zq6 ?_ | refine wN rfl ?_))
      refine W_loop (fun n s => ∃ d m : Nat, n = m ∧ Nat.gcd d m = Nat.gcd (gcdL (l.take k)) (iat l k).natAbs ∧ s = ⟨[(3, vu d), (6, vu m), (7, slI l), (8, vi l.length), (9, vi k)], [], []⟩) ⟨_, _, ⟨_, _, rfl, rfl, rfl⟩, wkA⟩ ?_
      rintro n s ⟨d, m, rfl, hgm, rfl⟩
      (repeat (first | refine WL_nil ?_ | refine zq0 qv9 ?_ | refine zq1 ?_ | refine zq2 ?_ | refine zq3 ?_ | refine zq4 ?_ | refine zq5 ?_ | refine zq6 ?_ | refine wN rfl ?_))
      (refine W_cond rfl (fun hc => ?_) (fun hc => ?_))
      · have h0 : (n : Int) ≠ 0 := by simpa using hc
        have hrem : adv .rem .u64 (d : Int) (n : Int) = some (.int .u64 ((d % n : Nat) : Int)) := by
          simp only [adv]
          rw [Int.tmod_eq_emod_of_nonneg (by omega)]
          norm_cast
        (repeat (first | refine WL_nil ?_ | refine zq0 qv9 ?_ | refine zq1 ?_ | refine zq2 ?_ | refine zq3 ?_ | refine zq4 ?_ | refine zq5 ?_ | refine zq6 ?_ | refine wN rfl ?_))
        refine wdraw 6 (by kernel_rfl) (by kernel_rfl) (by kernel_rfl) rfl ?_
        (repeat (first | refine HW_nil ?_ | (apply hw0 (hd := rfl); (first | exact qv9 | exact QV_div rfl rfl h0 hrem); (exact gy0)) | (apply hwb (hd := rfl); exact qbx; (exact gy0); rfl) | refine zq7 ?_ | refine zq8 ?_))
        (repeat (first | refine WL_nil ?_ | refine zq0 qv9 ?_ | refine zq1 ?_ | refine zq2 ?_ | refine zq3 ?_ | refine zq4 ?_ | refine zq5 ?_ | refine zq6 ?_ | refine wN rfl ?_))
        refine Exists.intro _ (Exists.intro _ ⟨?_, ⟨n, d % n, rfl, by rw [← hgm, Nat.gcd_comm n, ← Nat.gcd_rec, Nat.gcd_comm], rfl⟩, wkA⟩)
        exact Nat.mod_lt _ (by omega)
      · have h0 : n = 0 := by
          have : (n : Int) = 0 := by simpa using hc
          omega
        subst h0
        rw [Nat.gcd_zero_right] at hgm
        subst hgm
        rw [← gcdL_succ hp]
        (repeat (first | refine WL_nil ?_ | refine zq0 qv9 ?_ | refine zq1 ?_ | refine zq2 ?_ | refine zq3 ?_ | refine zq4 ?_ | refine zq5 ?_ | refine zq6 ?_ | refine wN rfl ?_))
        refine Exists.intro _ (Exists.intro _ ⟨?_, ⟨k + 1, by omega, rfl, rfl⟩, wkA⟩)
        omega
    · simp at hc; omega
  · (repeat (first | refine WL_nil ?_ | refine zq0 qv9 ?_ | refine zq1 ?_ | refine zq2 ?_ | refine zq3 ?_ | refine zq4 ?_ | refine zq5 ?_ | refine zq6 ?_ | refine wN rfl ?_))
    (refine W_cond rfl (fun hc => ?_) (fun hc => ?_))
    · simp at hc; omega
    · have hk' : k = l.length := by omega
      subst hk'
      rw [List.take_length]
      have hg := gcdL_le hl
      (repeat (first | refine WL_nil ?_ | refine zq0 (by first | exact qv9 | exact QV_conv (by rw [Tryz.underlying96]; rfl) Tryz.underlying3 rfl) ?_ | refine zq1 ?_ | refine zq2 ?_ | refine zq3 ?_ | refine zq4 ?_ | refine zq5 ?_ | refine zq6 ?_ | refine wN rfl ?_))
      refine Exists.intro _ ⟨Weak.refl _, Exists.intro _ ⟨resA_tmp rfl rfl, ?_, rfl⟩⟩
      exact vi_eq (w64 (by omega))

def thIn (t : Th) : Bool := inR t.d 1 1000000 && (inR t.h 0 1000000000000 && (inR t.v (-10000000000000) 10000000000000 && inR t.m (-10000000000000) 10000000000000))
def gcd4 (t : Th) : Nat := Nat.gcd (Nat.gcd t.h.natAbs t.v.natAbs) (Nat.gcd t.m.natAbs t.d.natAbs)
theorem gcd4_list (t : Th) : gcdL [t.h, t.v, t.m, t.d] = gcd4 t := by
  simp [gcdL, gcd4, Nat.gcd_assoc]
def thOk (t : Th) : Bool := thIn t && decide (gcd4 t = 1)
theorem implThrustOk_ok (t : Th) : CallOk Tryz.prog 104 [t.av] (fun r => r = vb (thOk t)) := by
  have h1 := within_ok t.d 1 1000000
  have h2 := within_ok t.h 0 1000000000000
  have h3 := within_ok t.v (-10000000000000) 10000000000000
  have h4 := within_ok t.m (-10000000000000) 10000000000000
  refine callOk Tryz.func104 Tryz.ntmps104 Tryz.results104 rfl rfl rfl fun B w0 M I0 V0 => ?_
  cases e1 : inR t.d 1 1000000
  · rw [e1] at h1
    (repeat (first | refine WL_nil ?_ | refine zq0 (by first | exact qv9 | exact q_callA (h1)) ?_ | refine zq1 ?_ | refine zq2 ?_ | refine zq3 ?_ | refine zq4 ?_ | refine zq5 ?_ | refine zq6 ?_ | refine wN rfl ?_))
    refine Exists.intro _ ⟨Weak.refl _, Exists.intro _ ⟨resA_tmp rfl rfl, ?_, rfl⟩⟩
    exact vb_eq (by simp [thOk, thIn, e1])
  · rw [e1] at h1
    cases e2 : inR t.h 0 1000000000000
    · rw [e2] at h2
      (repeat (first | refine WL_nil ?_ | refine zq0 (by first | exact qv9 | exact q_callA (h1) | exact q_callA (h2)) ?_ | refine zq1 ?_ | refine zq2 ?_ | refine zq3 ?_ | refine zq4 ?_ | refine zq5 ?_ | refine zq6 ?_ | refine wN rfl ?_))
      refine Exists.intro _ ⟨Weak.refl _, Exists.intro _ ⟨resA_tmp rfl rfl, ?_, rfl⟩⟩
      exact vb_eq (by simp [thOk, thIn, e2])
    · rw [e2] at h2
      cases e3 : inR t.v (-10000000000000) 10000000000000
      · rw [e3] at h3
        (repeat (first | refine WL_nil ?_ | refine zq0 (by first | exact qv9 | exact q_callA (h1) | exact q_callA (h2) | exact q_callA (h3)) ?_ | refine zq1 ?_ | refine zq2 ?_ | refine zq3 ?_ | refine zq4 ?_ | refine zq5 ?_ | refine zq6 ?_ | refine wN rfl ?_))
        refine Exists.intro _ ⟨Weak.refl _, Exists.intro _ ⟨resA_tmp rfl rfl, ?_, rfl⟩⟩
        exact vb_eq (by simp [thOk, thIn, e3])
      · rw [e3] at h3
        cases e4 : inR t.m (-10000000000000) 10000000000000
        · rw [e4] at h4
          (repeat (first | refine WL_nil ?_ | refine zq0 (by first | exact qv9 | exact q_callA (h1) | exact q_callA (h2) | exact q_callA (h3) | exact q_callA (h4)) ?_ | refine zq1 ?_ | refine zq2 ?_ | refine zq3 ?_ | refine zq4 ?_ | refine zq5 ?_ | refine zq6 ?_ | refine wN rfl ?_))
          refine Exists.intro _ ⟨Weak.refl _, Exists.intro _ ⟨resA_tmp rfl rfl, ?_, rfl⟩⟩
          exact vb_eq (by simp [thOk, thIn, e4])
        · rw [e4] at h4
          have b1 := inR_true.1 e1
          have b2 := inR_true.1 e2
          have b3 := inR_true.1 e3
          have b4 := inR_true.1 e4
          have g1 := commonDivisor_ok [t.h, t.v, t.m, t.d] (by simp) (by simp; omega)
          rw [gcd4_list] at g1
          (repeat (first | refine WL_nil ?_ | refine zq0 (by first | exact qv9 | exact q_callA (h1) | exact q_callA (h2) | exact q_callA (h3) | exact q_callA (h4) | exact q_callA (g1)) ?_ | refine zq1 ?_ | refine zq2 ?_ | refine zq3 ?_ | (apply wln1 (hd := rfl); exact q_buildSlice 30 rfl rfl rfl rfl; (exact gy0); rfl) | refine zq4 ?_ | refine zq5 ?_ | refine zq6 ?_ | refine wN rfl ?_))
          refine Exists.intro _ ⟨Weak.refl _, Exists.intro _ ⟨resA_tmp rfl rfl, ?_, rfl⟩⟩
          refine vb_eq ?_
          simp only [thOk, thIn, e1, e2, e3, e4, Bool.true_and]
          rw [Bool.eq_iff_iff]
          simp
          omega
end Go.Proofs.YtpcahgedkmgllaaGreat

namespace Go.Proofs.YtpcahgedkmgllaaGreat
open Go.Eng
set_option maxRecDepth 100000
attribute [local irreducible] QV TV WL HW W CallOk Weak

structure Rw where
  a : Int
  b : Int
  c : Int
  d : Int
  deriving DecidableEq
abbrev Rw.row (r : Rw) : List AV := [vi r.a, vi r.b, vi r.c, vi r.d]
abbrev Rw.av (r : Rw) : AV := .agg [vi r.a, vi r.b, vi r.c, vi r.d]
abbrev slRw (l : List Rw) : AV := .sl 4 (l.map Rw.row)
def wat (l : List Rw) (i : Nat) : Rw := l.getD i ⟨0, 0, 0, 0⟩
theorem wat_lt {l : List Rw} {i : Nat} (h : i < l.length) : l[i]? = some (wat l i) := by
  simp [wat, h]
def rowB (r : Rw) : Bool := inR r.a (-100) 100 && (inR r.b (-100) 100 && (inR r.c (-1) 1 && inR r.d (-1000000000) 1000000000))
theorem rowB_true {r : Rw} : rowB r = true ↔ (-100 ≤ r.a ∧ r.a ≤ 100) ∧ (-100 ≤ r.b ∧ r.b ≤ 100) ∧ (-1 ≤ r.c ∧ r.c ≤ 1) ∧ -1000000000 ≤ r.d ∧ r.d ≤ 1000000000 := by
  simp [rowB, inR_true]
theorem implRowOk_ok (r : Rw) : CallOk Tryz.prog 54 [r.av] (fun x => x = vb (rowB r)) := by
  have h1 := within_ok r.a (-100) 100
  have h2 := within_ok r.b (-100) 100
  have h3 := within_ok r.c (-1) 1
  have h4 := within_ok r.d (-1000000000) 1000000000
  refine callOk Tryz.func54 Tryz.ntmps54 Tryz.results54 rfl rfl rfl fun B w0 M I0 V0 => ?_
  cases e1 : inR r.a (-100) 100
  · rw [e1] at h1
    (repeat (first | refine WL_nil ?_ | refine zq0 (by first | exact qv9 | exact q_callA (h1)) ?_ | refine zq1 ?_ | refine zq2 ?_ | refine zq3 ?_ | refine zq4 ?_ | refine zq5 ?_ | refine zq6 ?_ | refine wN rfl ?_))
    refine Exists.intro _ ⟨Weak.refl _, Exists.intro _ ⟨resA_tmp rfl rfl, ?_, rfl⟩⟩
    exact vb_eq (by simp [rowB, e1])
  · rw [e1] at h1
    cases e2 : inR r.b (-100) 100
    · rw [e2] at h2
      (repeat (first | refine WL_nil ?_ | refine zq0 (by first | exact qv9 | exact q_callA (h1) | exact q_callA (h2)) ?_ | refine zq1 ?_ | refine zq2 ?_ | refine zq3 ?_ | refine zq4 ?_ | refine zq5 ?_ | refine zq6 ?_ | refine wN rfl ?_))
      refine Exists.intro _ ⟨Weak.refl _, Exists.intro _ ⟨resA_tmp rfl rfl, ?_, rfl⟩⟩
      exact vb_eq (by simp [rowB, e2])
    · rw [e2] at h2
      cases e3 : inR r.c (-1) 1
      · rw [e3] at h3
        (repeat (first | refine WL_nil ?_ | refine zq0 (by first | exact qv9 | exact q_callA (h1) | exact q_callA (h2) | exact q_callA (h3)) ?_ | refine zq1 ?_ | refine zq2 ?_ | refine zq3 ?_ | refine zq4 ?_ | refine zq5 ?_ | refine zq6 ?_ | refine wN rfl ?_))
        refine Exists.intro _ ⟨Weak.refl _, Exists.intro _ ⟨resA_tmp rfl rfl, ?_, rfl⟩⟩
        exact vb_eq (by simp [rowB, e3])
      · rw [e3] at h3
        (repeat (first | refine WL_nil ?_ | refine zq0 (by first | exact qv9 | exact q_callA (h1) | exact q_callA (h2) | exact q_callA (h3) | exact q_callA (h4)) ?_ | refine zq1 ?_ | refine zq2 ?_ | refine zq3 ?_ | refine zq4 ?_ | refine zq5 ?_ | refine zq6 ?_ | refine wN rfl ?_))
        refine Exists.intro _ ⟨Weak.refl _, Exists.intro _ ⟨resA_tmp rfl rfl, ?_, rfl⟩⟩
        exact vb_eq (by simp [rowB, e1, e2, e3])
theorem rowsOk_ok (l : List Rw) (hn : l.length ≤ 1048576) : CallOk Tryz.prog 37 [slRw l] (fun r => r = vb (l.all rowB)) := by
  refine callOk Tryz.func37 Tryz.ntmps37 Tryz.results37 rfl rfl rfl fun B w0 M I0 V0 => ?_
  (repeat (first | refine WL_nil ?_ | refine zq0 qv9 ?_ | refine zq1 ?_ | refine zq2 ?_ | refine zq3 ?_ | refine zq4 ?_ | refine zq5 ?_ | refine zq6 ?_ | refine wN rfl ?_))
  refine W_loop (fun n s => ∃ k : Nat, k ≤ l.length ∧ n = l.length - k ∧ (l.take k).all rowB = true ∧ s = ⟨[(5, slRw l), (6, vi l.length), (7, vi k)], [], []⟩) ⟨_, _, ⟨0, by omega, rfl, rfl, rfl⟩, wkA⟩ ?_
  rintro n s ⟨k, hk, rfl, hall, rfl⟩
  by_cases hlt : k < l.length
  · have hp := wat_lt hlt
    have h1 := implRowOk_ok (wat l k)
    (repeat (first | refine WL_nil ?_ | refine zq0 qv9 ?_ | refine zq1 ?_ | refine zq2 ?_ | refine zq3 ?_ | refine zq4 ?_ | refine zq5 ?_ | refine zq6 ?_ | refine wN rfl ?_))
    (refine W_cond rfl (fun hc => ?_) (fun hc => ?_))
    · cases e1 : rowB (wat l k)
      · rw [e1] at h1
        (repeat (first | refine WL_nil ?_ | refine zq0 (by first | exact qv9 | exact q_callA (h1) | exact QV_indexAddr rfl rfl rfl rfl (row_at hp)) ?_ | refine zq1 ?_ | refine zq2 ?_ | refine zq3 ?_ | refine zq4 ?_ | refine zq5 ?_ | refine zq6 ?_ | refine wN rfl ?_))
        refine Exists.intro _ ⟨Weak.refl _, Exists.intro _ ⟨resA_tmp rfl rfl, ?_, rfl⟩⟩
        exact vb_eq (all_at_false hp e1).symm
      · rw [e1] at h1
        (repeat (first | refine WL_nil ?_ | refine zq0 (by first | exact qv9 | exact q_callA (h1) | exact QV_indexAddr rfl rfl rfl rfl (row_at hp)) ?_ | refine zq1 ?_ | refine zq2 ?_ | refine zq3 ?_ | refine zq4 ?_ | refine zq5 ?_ | refine zq6 ?_ | refine wN rfl ?_))
        refine Exists.intro _ (Exists.intro _ ⟨?_, ⟨k + 1, by omega, rfl, by rw [all_take_succ hp, hall, e1]; rfl, rfl⟩, wkA⟩)
        omega
    · simp at hc; omega
  · (repeat (first | refine WL_nil ?_ | refine zq0 qv9 ?_ | refine zq1 ?_ | refine zq2 ?_ | refine zq3 ?_ | refine zq4 ?_ | refine zq5 ?_ | refine zq6 ?_ | refine wN rfl ?_))
    (refine W_cond rfl (fun hc => ?_) (fun hc => ?_))
    · simp at hc; omega
    · have hk' : k = l.length := by omega
      subst hk'
      rw [List.take_length] at hall
      (repeat (first | refine WL_nil ?_ | refine zq0 qv9 ?_ | refine zq1 ?_ | refine zq2 ?_ | refine zq3 ?_ | refine zq4 ?_ | refine zq5 ?_ | refine zq6 ?_ | refine wN rfl ?_))
      refine Exists.intro _ ⟨Weak.refl _, Exists.intro _ ⟨resA_tmp rfl rfl, ?_, rfl⟩⟩
      exact vb_eq hall.symm
def lhs (t : Th) (r : Rw) : Int := W64 (W64 (W64 (r.a * t.h) + W64 (r.b * t.v)) + W64 (r.c * t.m))
def rhs (t : Th) (r : Rw) : Int := W64 (r.d * t.d)
def fulB (t : Th) (r : Rw) : Bool := thOk t && (rowB r && decide (lhs t r ≤ rhs t r))
theorem sides_ok (t : Th) (r : Rw) : CallOk Tryz.prog 105 [r.av, t.av] (fun x => x = .tup [vi (lhs t r), vi (rhs t r)]) := by
  refine callOk Tryz.func105 Tryz.ntmps105 Tryz.results105 rfl rfl rfl fun B w0 M I0 V0 => ?_
  (repeat (first | refine WL_nil ?_ | refine zq0 qv9 ?_ | refine zq1 ?_ | refine zq2 ?_ | refine zq3 ?_ | refine zq4 ?_ | refine zq5 ?_ | refine zq6 ?_ | refine wN rfl ?_))
  refine wdraw 24 (by kernel_rfl) (by kernel_rfl) (by kernel_rfl) rfl ?_
  (repeat (first | refine HW_nil ?_ | (apply hw0 (hd := rfl); (first | exact qv9); (exact gy0)) | (apply hwb (hd := rfl); exact qbx; (exact gy0); rfl) | refine zq7 ?_ | refine zq8 ?_))
  (repeat (first | refine WL_nil ?_ | refine zq0 qv9 ?_ | refine zq1 ?_ | refine zq2 ?_ | refine zq3 ?_ | refine zq4 ?_ | refine zq5 ?_ | refine zq6 ?_ | refine wN rfl ?_))
  refine Exists.intro _ ⟨Weak.refl _, Exists.intro _ ⟨resA_tmp rfl (resA_tmp rfl rfl), ?_, rfl⟩⟩
  rfl
theorem implFulfills_ok (t : Th) (r : Rw) : CallOk Tryz.prog 100 [t.av, r.av] (fun x => x = vb (fulB t r)) := by
  have h1 := implThrustOk_ok t
  have h2 := implRowOk_ok r
  have h3 := sides_ok t r
  refine callOk Tryz.func100 Tryz.ntmps100 Tryz.results100 rfl rfl rfl fun B w0 M I0 V0 => ?_
  cases e1 : thOk t
  · rw [e1] at h1
    (repeat (first | refine WL_nil ?_ | refine zq0 (by first | exact qv9 | exact q_callA (h1)) ?_ | refine zq1 ?_ | refine zq2 ?_ | refine zq3 ?_ | refine zq4 ?_ | refine zq5 ?_ | refine zq6 ?_ | refine wN rfl ?_))
    refine Exists.intro _ ⟨Weak.refl _, Exists.intro _ ⟨resA_tmp rfl rfl, ?_, rfl⟩⟩
    exact vb_eq (by simp [fulB, e1])
  · rw [e1] at h1
    cases e2 : rowB r
    · rw [e2] at h2
      (repeat (first | refine WL_nil ?_ | refine zq0 (by first | exact qv9 | exact q_callA (h1) | exact q_callA (h2)) ?_ | refine zq1 ?_ | refine zq2 ?_ | refine zq3 ?_ | refine zq4 ?_ | refine zq5 ?_ | refine zq6 ?_ | refine wN rfl ?_))
      refine Exists.intro _ ⟨Weak.refl _, Exists.intro _ ⟨resA_tmp rfl rfl, ?_, rfl⟩⟩
      exact vb_eq (by simp [fulB, e2])
    · rw [e2] at h2
      (repeat (first | refine WL_nil ?_ | refine zq0 (by first | exact qv9 | exact q_callA (h1) | exact q_callA (h2) | exact q_callA (h3)) ?_ | refine zq1 ?_ | refine zq2 ?_ | refine zq3 ?_ | refine zq4 ?_ | refine zq5 ?_ | refine zq6 ?_ | refine wN rfl ?_))
      refine Exists.intro _ ⟨Weak.refl _, Exists.intro _ ⟨resA_tmp rfl rfl, ?_, rfl⟩⟩
      exact vb_eq (by simp [fulB, e1, e2])
def fulAll (t : Th) (l : List Rw) : Bool := inR l.length 1 40 && l.all (fulB t)
theorem implFulfillsAll_ok (t : Th) (l : List Rw) (hn : l.length ≤ 1048576) : CallOk Tryz.prog 78 [t.av, slRw l] (fun r => r = vb (fulAll t l)) := by
  have hw := within_ok l.length 1 40
  refine callOk Tryz.func78 Tryz.ntmps78 Tryz.results78 rfl rfl rfl fun B w0 M I0 V0 => ?_
  cases hin : inR l.length 1 40
  · rw [hin] at hw
    (repeat (first | refine WL_nil ?_ | refine zq0 (by first | exact qv9 | exact q_callA (hw)) ?_ | refine zq1 ?_ | refine zq2 ?_ | refine zq3 ?_ | refine zq4 ?_ | refine zq5 ?_ | refine zq6 ?_ | refine wN rfl ?_))
    refine Exists.intro _ ⟨Weak.refl _, Exists.intro _ ⟨resA_tmp rfl rfl, ?_, rfl⟩⟩
    exact vb_eq (by simp [fulAll, hin])
  · rw [hin] at hw
    (repeat (first | refine WL_nil ?_ | refine zq0 (by first | exact qv9 | exact q_callA (hw)) ?_ | refine zq1 ?_ | refine zq2 ?_ | refine zq3 ?_ | refine zq4 ?_ | refine zq5 ?_ | refine zq6 ?_ | refine wN rfl ?_))
    refine W_loop (fun n s => ∃ k : Nat, k ≤ l.length ∧ n = l.length - k ∧ (l.take k).all (fulB t) = true ∧ s = ⟨[(2, .ptr 2 0), (11, slRw l), (12, vi l.length), (13, vi k)], [(2, t.row)], []⟩) ⟨_, _, ⟨0, by omega, rfl, rfl, rfl⟩, wkA⟩ ?_
    rintro n s ⟨k, hk, rfl, hall, rfl⟩
    by_cases hlt : k < l.length
    · have hp := wat_lt hlt
      have h1 := implFulfills_ok t (wat l k)
      (repeat (first | refine WL_nil ?_ | refine zq0 qv9 ?_ | refine zq1 ?_ | refine zq2 ?_ | refine zq3 ?_ | refine zq4 ?_ | refine zq5 ?_ | refine zq6 ?_ | refine wN rfl ?_))
      (refine W_cond rfl (fun hc => ?_) (fun hc => ?_))
      · cases e1 : fulB t (wat l k)
        · rw [e1] at h1
          (repeat (first | refine WL_nil ?_ | refine zq0 (by first | exact qv9 | exact q_callA (h1) | exact QV_indexAddr rfl rfl rfl rfl (row_at hp)) ?_ | refine zq1 ?_ | refine zq2 ?_ | refine zq3 ?_ | refine zq4 ?_ | refine zq5 ?_ | refine zq6 ?_ | refine wN rfl ?_))
          refine Exists.intro _ ⟨Weak.refl _, Exists.intro _ ⟨resA_tmp rfl rfl, ?_, rfl⟩⟩
          exact vb_eq (by simp [fulAll, all_at_false hp e1])
        · rw [e1] at h1
          (repeat (first | refine WL_nil ?_ | refine zq0 (by first | exact qv9 | exact q_callA (h1) | exact QV_indexAddr rfl rfl rfl rfl (row_at hp)) ?_ | refine zq1 ?_ | refine zq2 ?_ | refine zq3 ?_ | refine zq4 ?_ | refine zq5 ?_ | refine zq6 ?_ | refine wN rfl ?_))
          refine Exists.intro _ (Exists.intro _ ⟨?_, ⟨k + 1, by omega, rfl, by rw [all_take_succ hp, hall, e1]; rfl, rfl⟩, wkA⟩)
          omega
      · simp at hc; omega
    · (repeat (first | refine WL_nil ?_ | refine zq0 qv9 ?_ | refine zq1 ?_ | refine zq2 ?_ | refine zq3 ?_ | refine zq4 ?_ | refine zq5 ?_ | refine zq6 ?_ | refine wN rfl ?_))
      (refine W_cond rfl (fun hc => ?_) (fun hc => ?_))
      · simp at hc; omega
      · have hk' : k = l.length := by omega
        subst hk'
        rw [List.take_length] at hall
        (repeat (first | refine WL_nil ?_ | refine zq0 qv9 ?_ | refine zq1 ?_ | refine zq2 ?_ | refine zq3 ?_ | refine zq4 ?_ | refine zq5 ?_ | refine zq6 ?_ | refine wN rfl ?_))
        refine Exists.intro _ ⟨Weak.refl _, Exists.intro _ ⟨resA_tmp rfl rfl, ?_, rfl⟩⟩
        exact vb_eq (by simp [fulAll, hall, hin])
end Go.Proofs.YtpcahgedkmgllaaGreat

namespace Go.Proofs.YtpcahgedkmgllaaGreat
open Go.Eng

theorem wk (n : Int) : ∃ k : Int, W64 n = n + 18446744073709551616 * k := by
  refine ⟨(W64 n - n) / 18446744073709551616, ?_⟩
  have : (W64 n - n) % 18446744073709551616 = 0 := by
    simp [W64, IntKind.wrap, IntKind.bits, IntKind.signed]
    try omega
  omega
theorem wsh (n k : Int) : W64 (n + 18446744073709551616 * k) = W64 n := by
  simp [W64, IntKind.wrap, IntKind.bits, IntKind.signed]
  try omega
theorem wcong {a b : Int} (k : Int) (h : a = b + 18446744073709551616 * k) : W64 a = W64 b := by rw [h, wsh]
theorem wmul_l (a b : Int) : W64 (W64 a * b) = W64 (a * b) := by
  obtain ⟨k, hk⟩ := wk a
  exact wcong (k * b) (by rw [hk]; grind)
theorem wmul_r (a b : Int) : W64 (a * W64 b) = W64 (a * b) := by rw [Int.mul_comm, wmul_l, Int.mul_comm]
theorem wadd_l (a b : Int) : W64 (W64 a + b) = W64 (a + b) := w64_add a b
theorem wadd_r (a b : Int) : W64 (a + W64 b) = W64 (a + b) := w64_add' a b
theorem wsub_l (a b : Int) : W64 (W64 a - b) = W64 (a - b) := by
  obtain ⟨k, hk⟩ := wk a
  exact wcong k (by rw [hk]; omega)
theorem wsub_r (a b : Int) : W64 (a - W64 b) = W64 (a - b) := by
  obtain ⟨k, hk⟩ := wk b
  exact wcong (-k) (by rw [hk]; omega)

structure V3 where
  x : Int
  y : Int
  z : Int
abbrev V3.av (v : V3) : AV := .agg [vi v.x, vi v.y, vi v.z]
def det3 (a b c : V3) : Int := a.x * (b.y * c.z - b.z * c.y) - a.y * (b.x * c.z - b.z * c.x) + a.z * (b.x * c.y - b.y * c.x)
def det3W (a b c : V3) : Int := W64 (W64 (W64 (a.x * W64 (W64 (b.y * c.z) - W64 (b.z * c.y))) - W64 (a.y * W64 (W64 (b.x * c.z) - W64 (b.z * c.x)))) + W64 (a.z * W64 (W64 (b.x * c.y) - W64 (b.y * c.x))))
theorem det3W_eq (a b c : V3) : det3W a b c = W64 (det3 a b c) := by
  unfold det3W det3
  simp only [wmul_r, wadd_l, wadd_r, wsub_l, wsub_r]
theorem det3_swap (a b c : V3) : det3 a b c = det3 ⟨a.x, b.x, c.x⟩ ⟨a.y, b.y, c.y⟩ ⟨a.z, b.z, c.z⟩ := by
  unfold det3; grind
theorem det3_bd {a b c : V3} {l m n : Int} (ax : -l ≤ a.x ∧ a.x ≤ l) (ay : -m ≤ a.y ∧ a.y ≤ m) (az : -n ≤ a.z ∧ a.z ≤ n) (bx : -l ≤ b.x ∧ b.x ≤ l) (bY : -m ≤ b.y ∧ b.y ≤ m) (bz : -n ≤ b.z ∧ b.z ≤ n) (cx : -l ≤ c.x ∧ c.x ≤ l) (cy : -m ≤ c.y ∧ c.y ≤ m) (cz : -n ≤ c.z ∧ c.z ≤ n) :
    -(6 * (l * m * n)) ≤ det3 a b c ∧ det3 a b c ≤ 6 * (l * m * n) := by
  have tri : ∀ {p q r L M N : Int}, (-L ≤ p ∧ p ≤ L) → (-M ≤ q ∧ q ≤ M) → (-N ≤ r ∧ r ≤ N) → -(L * M * N) ≤ p * q * r ∧ p * q * r ≤ L * M * N := fun h1 h2 h3 => mul_bd (mul_bd h1 h2) h3
  have h1 := tri ax bY cz
  have h2 := tri ax cy bz
  have h3 := tri bx ay cz
  have h4 := tri cx ay bz
  have h5 := tri bx cy az
  have h6 := tri cx bY az
  have e : det3 a b c = a.x * b.y * c.z - a.x * c.y * b.z - b.x * a.y * c.z + c.x * a.y * b.z + b.x * c.y * a.z - c.x * b.y * a.z := by unfold det3; grind
  rw [e]
  generalize l * m * n = B at *
  omega

abbrev abc (r : Rw) : V3 := ⟨r.a, r.b, r.c⟩
abbrev dbc (r : Rw) : V3 := ⟨r.d, r.b, r.c⟩
abbrev adc (r : Rw) : V3 := ⟨r.a, r.d, r.c⟩
abbrev abd (r : Rw) : V3 := ⟨r.a, r.b, r.d⟩
def detR (p q r : Rw) : Int := det3 (abc p) (abc q) (abc r)
def detH (p q r : Rw) : Int := det3 (dbc p) (dbc q) (dbc r)
def detV (p q r : Rw) : Int := det3 (adc p) (adc q) (adc r)
def detM (p q r : Rw) : Int := det3 (abd p) (abd q) (abd r)
section
variable {p q r : Rw} (hp : rowB p = true) (hq : rowB q = true) (hr : rowB r = true)
include hp hq hr
theorem detR_bd : -60000 ≤ detR p q r ∧ detR p q r ≤ 60000 := by
  rw [rowB_true] at hp hq hr
  have := det3_bd (a := abc p) (b := abc q) (c := abc r) (l := 100) (m := 100) (n := 1) (by simp; omega) (by simp; omega) (by simp; omega) (by simp; omega) (by simp; omega) (by simp; omega) (by simp; omega) (by simp; omega) (by simp; omega)
  unfold detR; omega
theorem detH_bd : -600000000000 ≤ detH p q r ∧ detH p q r ≤ 600000000000 := by
  rw [rowB_true] at hp hq hr
  have := det3_bd (a := dbc p) (b := dbc q) (c := dbc r) (l := 1000000000) (m := 100) (n := 1) (by simp; omega) (by simp; omega) (by simp; omega) (by simp; omega) (by simp; omega) (by simp; omega) (by simp; omega) (by simp; omega) (by simp; omega)
  unfold detH; omega
theorem detV_bd : -600000000000 ≤ detV p q r ∧ detV p q r ≤ 600000000000 := by
  rw [rowB_true] at hp hq hr
  have := det3_bd (a := adc p) (b := adc q) (c := adc r) (l := 100) (m := 1000000000) (n := 1) (by simp; omega) (by simp; omega) (by simp; omega) (by simp; omega) (by simp; omega) (by simp; omega) (by simp; omega) (by simp; omega) (by simp; omega)
  unfold detV; omega
theorem detM_bd : -60000000000000 ≤ detM p q r ∧ detM p q r ≤ 60000000000000 := by
  rw [rowB_true] at hp hq hr
  have := det3_bd (a := abd p) (b := abd q) (c := abd r) (l := 100) (m := 100) (n := 1000000000) (by simp; omega) (by simp; omega) (by simp; omega) (by simp; omega) (by simp; omega) (by simp; omega) (by simp; omega) (by simp; omega) (by simp; omega)
  unfold detM; omega
end

def farB (n : Int) : Bool := inR n (-4000000000000000000) 4000000000000000000
theorem farB_true {n : Int} : farB n = true ↔ -4000000000000000000 ≤ n ∧ n ≤ 4000000000000000000 := inR_true
def mkG (t : Th) : Int := if t.d < 0 then -(gcd4 t : Int) else gcd4 t
def mkD (t : Th) : Th := ⟨t.h.tdiv (mkG t), t.v.tdiv (mkG t), t.m.tdiv (mkG t), t.d.tdiv (mkG t)⟩
def farT (t : Th) : Bool := !decide (t.d = 0) && (farB t.h && (farB t.v && (farB t.m && farB t.d)))
def mkT (t : Th) : Option Th := bif farT t && thOk (mkD t) then some (mkD t) else none
abbrev thZ : Th := ⟨0, 0, 0, 0⟩
abbrev thO (o : Option Th) : AV := .tup [(o.getD thZ).av, vb o.isSome]
def det0 (p q r : Rw) : Int := bif rowB p && (rowB q && rowB r) then detR p q r else 0
def slv (p q r : Rw) : Option Th := bif decide (det0 p q r = 0) then none else mkT ⟨detH p q r, detV p q r, detM p q r, detR p q r⟩
theorem mkT_ok {t u : Th} (h : mkT t = some u) : thOk u = true := by
  unfold mkT at h
  cases e : farT t && thOk (mkD t)
  · rw [e] at h; cases h
  · rw [e] at h
    simp only [Bool.and_eq_true, cond_true, Option.some.injEq] at e h
    rw [← h]; exact e.2
theorem slv_ok {p q r : Rw} {t : Th} (h : slv p q r = some t) : thOk t = true := by
  unfold slv at h
  cases e : decide (det0 p q r = 0)
  · rw [e] at h; exact mkT_ok h
  · rw [e] at h; cases h

def thEq (t u : Th) : Bool := t.h == u.h && (t.v == u.v && (t.m == u.m && (t.d == u.d && true)))
theorem thEq_iff {t u : Th} : thEq t u = true ↔ t = u := by
  cases t; cases u
  simp [thEq]
def hasT (l : List Th) (t : Th) : Bool := l.any fun u => thEq u t
theorem hasT_iff {l : List Th} {t : Th} : hasT l t = true ↔ t ∈ l := by
  simp only [hasT, List.any_eq_true, thEq_iff]
  constructor
  · rintro ⟨u, h, rfl⟩; exact h
  · intro h; exact ⟨t, h, rfl⟩
theorem hasT_at {l : List Th} {i : Nat} {u t : Th} (h : l[i]? = some u) (e : thEq u t = true) : hasT l t = true := List.any_eq_true.2 ⟨u, List.mem_of_getElem? h, e⟩
theorem hasT_take {l : List Th} {i : Nat} {u t : Th} (h : l[i]? = some u) : hasT (l.take (i + 1)) t = (hasT (l.take i) t || thEq u t) := by
  unfold hasT
  rw [List.take_add_one, h]
  simp
def tat (l : List Th) (i : Nat) : Th := l.getD i ⟨0, 0, 0, 0⟩
theorem tat_lt {l : List Th} {i : Nat} (h : i < l.length) : l[i]? = some (tat l i) := by
  simp [tat, h]
abbrev slTh (l : List Th) : AV := .sl 4 (l.map Th.row)
theorem th_cells (l : List Th) : ∀ x ∈ (l.map Th.row).flatten, isCell x = true := by
  intro x hx
  obtain ⟨r, hr, hx⟩ := List.mem_flatten.1 hx
  obtain ⟨p, _, rfl⟩ := List.mem_map.1 hr
  simp only [Th.row, List.mem_cons, List.not_mem_nil, or_false] at hx
  rcases hx with rfl | rfl | rfl | rfl <;> rfl
theorem th_lens (l : List Th) : ∀ r ∈ l.map Th.row, r.length = 4 := by
  intro r hr
  obtain ⟨p, _, rfl⟩ := List.mem_map.1 hr
  rfl
theorem th_app {l : List Th} {t : Th} : l.map Th.row ++ [t.row] = (l ++ [t]).map Th.row := by simp
theorem th_eqv (t u : Th) : eqvO [true, true, true, true] t.row u.row = some (thEq t u) := rfl
def holB (t : Th) (r : Rw) : Bool := decide (lhs t r ≤ rhs t r)
def addO (l : List Rw) (out : List Th) : Option Th → List Th
  | none => out
  | some t => bif hasT out t then out else bif l.all (holB t) then out ++ [t] else out
def slvA (l : List Rw) (i k m : Nat) : Option Th := slv (wat l i) (wat l k) (wat l m)
def cM (l : List Rw) (i k : Nat) (out : List Th) : Nat → List Th
  | 0 => out
  | n + 1 => addO l (cM l i k out n) (slvA l i k (k + 1 + n))
def cK (l : List Rw) (i : Nat) (out : List Th) : Nat → List Th
  | 0 => out
  | n + 1 => cM l i (i + 1 + n) (cK l i out n) (l.length - (i + 1 + n + 1))
def cI (l : List Rw) : Nat → List Th
  | 0 => []
  | n + 1 => cK l n (cI l n) (l.length - (n + 1))
def corL (l : List Rw) : List Th := bif l.all rowB && inR l.length 3 20 then cI l l.length else []
def CorP (l : List Rw) (t : Th) : Prop := thOk t = true ∧ l.all (holB t) = true
theorem addO_P {l : List Rw} {out : List Th} {o : Option Th} (h : ∀ t ∈ out, CorP l t) (ho : ∀ t, o = some t → thOk t = true) : ∀ t ∈ addO l out o, CorP l t := by
  cases o with
  | none => exact h
  | some u =>
    intro t ht
    unfold addO at ht
    simp only at ht
    cases e1 : hasT out u
    · rw [e1] at ht
      cases e2 : l.all (holB u)
      · rw [e2] at ht; exact h t ht
      · rw [e2] at ht
        simp only [cond_false, cond_true, List.mem_append, List.mem_singleton] at ht
        rcases ht with ht | rfl
        · exact h t ht
        · exact ⟨ho _ rfl, e2⟩
    · rw [e1] at ht; exact h t ht
theorem cM_P {l : List Rw} {i k : Nat} {out : List Th} (h : ∀ t ∈ out, CorP l t) : ∀ n, ∀ t ∈ cM l i k out n, CorP l t
  | 0 => h
  | n + 1 => addO_P (cM_P h n) fun _ e => slv_ok e
theorem cK_P {l : List Rw} {i : Nat} {out : List Th} (h : ∀ t ∈ out, CorP l t) : ∀ n, ∀ t ∈ cK l i out n, CorP l t
  | 0 => h
  | n + 1 => cM_P (cK_P h n) _
theorem cI_P {l : List Rw} : ∀ n, ∀ t ∈ cI l n, CorP l t
  | 0 => by simp [cI]
  | n + 1 => cK_P (cI_P n) _
theorem corL_P {l : List Rw} {t : Th} (h : t ∈ corL l) : CorP l t ∧ l.all rowB = true ∧ 3 ≤ l.length ∧ l.length ≤ 20 := by
  unfold corL at h
  cases e : l.all rowB && inR l.length 3 20
  · rw [e] at h; simp at h
  · rw [e] at h
    simp only [Bool.and_eq_true, inR_true] at e
    exact ⟨cI_P _ t h, e.1, by omega, by omega⟩
end Go.Proofs.YtpcahgedkmgllaaGreat

namespace Go.Proofs.YtpcahgedkmgllaaGreat
open Go.Eng
instance ty9 : TyOk Tryz.prog 9 false 1 := ⟨fun _ => by kernel_rfl, fun _ => by kernel_rfl⟩
instance ze9 : ZeroOk Tryz.prog 9 (.string ⟨#[]⟩) := ⟨fun _ => by kernel_rfl⟩
instance ty143 : TyOk Tryz.prog 143 true 3 := ⟨fun _ => by kernel_rfl, fun _ => by kernel_rfl⟩
instance ze143 : ZeroOk Tryz.prog 143 (.agg #[.int .i64 0, .int .i64 0, .int .i64 0]) := ⟨fun _ => by kernel_rfl⟩
instance zc9 : ZcOk Tryz.prog 9 [.v (.string ⟨#[]⟩)] := ⟨_, ze9, rfl⟩
instance zc143 : ZcOk Tryz.prog 143 [.v (.int .i64 0), .v (.int .i64 0), .v (.int .i64 0)] := ⟨_, ze143, rfl⟩
instance ar143 : ArOk Tryz.prog 143 3 3 1 := ⟨Tryz.underlying143, by kernel_rfl⟩
end Go.Proofs.YtpcahgedkmgllaaGreat

namespace Go.Proofs.YtpcahgedkmgllaaGreat
open Go.Eng
set_option maxRecDepth 100000
attribute [local irreducible] QV TV WL HW W CallOk Weak

end Go.Proofs.YtpcahgedkmgllaaGreat

namespace Go.Proofs.YtpcahgedkmgllaaGreat
open Go.Eng
set_option maxRecDepth 100000
attribute [local irreducible] QV TV WL HW W CallOk Weak

theorem gcd4_pos {t : Th} (h : t.d ≠ 0) : 0 < gcd4 t := by
  unfold gcd4
  exact Nat.gcd_pos_of_pos_right _ (Nat.gcd_pos_of_pos_right _ (by omega))
theorem gcd4_le {t : Th} {m : Nat} (h1 : t.h.natAbs ≤ m) (h2 : t.v.natAbs ≤ m) (h3 : t.m.natAbs ≤ m) (h4 : t.d.natAbs ≤ m) : gcd4 t ≤ m := gcd_le (a := Int.gcd t.h t.v) (b := Int.gcd t.m t.d) (by simpa using gcd_le h1 h2) (by simpa using gcd_le h3 h4)
theorem tdiv_bd {a g : Int} {m : Int} (ha : -m ≤ a ∧ a ≤ m) : -m ≤ a.tdiv g ∧ a.tdiv g ≤ m := by
  have h1 : (a.tdiv g).natAbs ≤ a.natAbs := by
    rw [Int.natAbs_tdiv]; exact Nat.div_le_self _ _
  omega
theorem quo64 {a g : Int} (ha : -4000000000000000000 ≤ a ∧ a ≤ 4000000000000000000) : adv .quo .i64 a g = some (.int .i64 (a.tdiv g)) := by
  have := tdiv_bd (g := g) ha
  simp only [adv]
  rw [i64w (by omega)]
theorem mkT_far {t : Th} (h : farT t = false) : mkT t = none := by simp [mkT, h]
theorem farT_true {t : Th} (h : farT t = true) : t.d ≠ 0 ∧ (-4000000000000000000 ≤ t.h ∧ t.h ≤ 4000000000000000000) ∧ (-4000000000000000000 ≤ t.v ∧ t.v ≤ 4000000000000000000) ∧ (-4000000000000000000 ≤ t.m ∧ t.m ≤ 4000000000000000000) ∧ -4000000000000000000 ≤ t.d ∧ t.d ≤ 4000000000000000000 := by
  simpa [farT, farB, inR_true] using h
end Go.Proofs.YtpcahgedkmgllaaGreat

namespace Go.Proofs.YtpcahgedkmgllaaGreat
open Go.Eng
set_option maxRecDepth 100000
attribute [local irreducible] QV TV WL HW W CallOk Weak

def rowI (js : List Jt) (ls : List Ld) (k : Nat) : Rw := ⟨(jat js k).i.y, -(jat js k).i.x, 1, W64 (lmA js ls k - W64 ((jat js k).i.x * lwA js ls k))⟩
def rowO (js : List Jt) (ls : List Ld) (k : Nat) : Rw := ⟨-(jat js k).o.y, (jat js k).o.x, -1, W64 (W64 ((jat js k).o.x * lwA js ls k) - lmA js ls k)⟩
def rowsV (js : List Jt) (ls : List Ld) : Nat → List (List AV)
  | 0 => []
  | k + 1 => rowsV js ls k ++ [(rowI js ls k).row, (rowO js ls k).row]
def rowsN (js : List Jt) (ls : List Ld) : Nat → List Rw
  | 0 => []
  | k + 1 => rowsN js ls k ++ [rowI js ls k, rowO js ls k]
theorem rowsV_eq (js : List Jt) (ls : List Ld) : ∀ k, rowsV js ls k = (rowsN js ls k).map Rw.row
  | 0 => rfl
  | k + 1 => by simp [rowsV, rowsN, rowsV_eq js ls k]
theorem rowsN_len (js : List Jt) (ls : List Ld) : ∀ k, (rowsN js ls k).length = 2 * k
  | 0 => rfl
  | k + 1 => by simp [rowsN, rowsN_len js ls k]; omega
def rowE : Rw := ⟨-1, 0, 0, 0⟩
def rowsAll (js : List Jt) (ls : List Ld) : List Rw := rowsN js ls js.length ++ [rowE]
theorem rowsAll_len (js : List Jt) (ls : List Ld) : (rowsAll js ls).length = 2 * js.length + 1 := by
  simp [rowsAll, rowsN_len]
theorem rowsAll_V (js : List Jt) (ls : List Ld) : rowsV js ls js.length ++ [rowE.row] = (rowsAll js ls).map Rw.row := by
  simp [rowsAll, rowsV_eq]
def rowsA (js : List Jt) (ls : List Ld) : List Rw := if loadsB js ls && (rowsAll js ls).all rowB then rowsAll js ls else []
theorem rowsA_len (js : List Jt) (ls : List Ld) : (rowsA js ls).length ≤ 1048576 := by
  unfold rowsA
  split
  · rename_i h
    simp only [Bool.and_eq_true] at h
    have := arch_len (loads_arch h.1)
    rw [rowsAll_len]; omega
  · simp
theorem rw_cells (l : List Rw) : ∀ x ∈ (l.map Rw.row).flatten, isCell x = true := by
  intro x hx
  obtain ⟨r, hr, hx⟩ := List.mem_flatten.1 hx
  obtain ⟨p, _, rfl⟩ := List.mem_map.1 hr
  simp only [Rw.row, List.mem_cons, List.not_mem_nil, or_false] at hx
  rcases hx with rfl | rfl | rfl | rfl <;> rfl
theorem rw_lens (l : List Rw) : ∀ r ∈ l.map Rw.row, r.length = 4 := by
  intro r hr
  obtain ⟨p, _, rfl⟩ := List.mem_map.1 hr
  rfl
theorem joint_in {js : List Jt} (h : archB js = true) {k : Nat} (hk : k < js.length) : ptOk (jat js k).i = true ∧ ptOk (jat js k).o = true := by
  have h8 := arch_len h
  have aux : ∀ a b : Jt, stoneB (quad a b) = true → (ptOk a.i = true ∧ ptOk a.o = true) ∧ ptOk b.i = true ∧ ptOk b.o = true := fun a b hs => by
    simp only [stoneB, quad, List.all_cons, List.all_nil, Bool.and_eq_true] at hs
    obtain ⟨_, ⟨h1, h2, h3, h4, _⟩, _⟩ := hs
    exact ⟨⟨h1, h4⟩, h2, h3⟩
  by_cases hk1 : k + 1 < js.length
  · exact (aux _ _ (arch_step h hk1)).1
  · obtain ⟨i, rfl⟩ : ∃ i, k = i + 1 := ⟨k - 1, by omega⟩
    exact (aux _ _ (arch_step h (k := i) (by omega))).2
theorem rowsFor_ok (js : List Jt) (ls : List Ld) (h : loadsB js ls = true) : CallOk Tryz.prog 21 [.agg [slJt js], .sl 2 ((List.range (js.length - 1)).map (wmRow js ls))] (fun r => r = bif (rowsAll js ls).all rowB then .own 5 80 4 ((rowsAll js ls).map Rw.row) else .v (.slice none 0 0)) := by
  have ha := loads_arch h
  have h8 := arch_len ha
  have hok := rowsOk_ok (rowsAll js ls) (by rw [rowsAll_len]; omega)
  have hlenS : ((List.range (js.length - 1)).map (wmRow js ls)).length = js.length - 1 := by simp
  refine callOk Tryz.func21 Tryz.ntmps21 Tryz.results21 rfl rfl rfl fun B w0 M I0 V0 => ?_
  (repeat (first | refine WL_nil ?_ | refine zq0 qv9 ?_ | refine zq1 ?_ | refine zq2 ?_ | refine zq3 ?_ | refine zq4 ?_ | refine zq5 ?_ | refine zq6 ?_ | refine wN rfl ?_))
  refine W_loop (fun n s => ∃ k c : Nat, k ≤ js.length ∧ n = js.length - k ∧ (k < js.length → c = k) ∧ s = ⟨[(1, .sl 2 ((List.range (js.length - 1)).map (wmRow js ls))), (2, .ptr 2 0), (5, .own 5 80 4 (rowsV js ls k)), (6, .ptr 6 0), (10, slJt js), (11, vi js.length), (12, vi k)], [(6, [vi (lwA js ls c), vi (lmA js ls c)]), (2, [slJt js])], [5]⟩) ⟨_, _, ⟨0, 0, by omega, rfl, fun _ => rfl, rfl⟩, wkA⟩ ?_
  rintro n s ⟨k, c, hk, rfl, hcc, rfl⟩
  by_cases hlt : k < js.length
  · have hck := hcc hlt
    subst hck
    have hp := jat_lt hlt
    have hb := joint_in ha hlt
    have hb1 := ptOk_true.1 hb.1
    have hb2 := ptOk_true.1 hb.2
    have hr : (rowsV js ls c).length + [(rowI js ls c).row, (rowO js ls c).row].length ≤ 1048576 := by rw [rowsV_eq, List.length_map, rowsN_len]; simp; omega
    (repeat (first | refine WL_nil ?_ | refine zq0 qv9 ?_ | refine zq1 ?_ | refine zq2 ?_ | refine zq3 ?_ | refine zq4 ?_ | refine zq5 ?_ | refine zq6 ?_ | refine wN rfl ?_))
    (refine W_cond rfl (fun hc => ?_) (fun hc => ?_))
    · (repeat (first | refine WL_nil ?_ | refine zq0 (by first | exact q_lenE rfl rfl hlenS | exact qv9 | exact QV_indexAddr rfl rfl rfl rfl (row_at hp)) ?_ | refine zq1 ?_ | refine zq2 ?_ | refine zq3 ?_ | (apply wln1 (hd := rfl); exact q_buildSlice 52 rfl rfl rfl rfl; (exact gy0); rfl) | refine zq4 ?_ | refine wapp rfl rfl rfl (rw_cells [rowI js ls c, rowO js ls c]) (rw_lens [rowI js ls c, rowO js ls c]) hr rfl rfl rfl rfl ?_ | refine zq5 ?_ | refine zq6 ?_ | refine wN rfl ?_))
      (refine W_cond rfl (fun hc => ?_) (fun hc => ?_))
      · have hlt2 : c < js.length - 1 := by simp at hc; omega
        have hat := range_at hlt2
        (repeat (first | refine WL_nil ?_ | refine zq0 qv9 ?_ | refine zq1 ?_ | refine zq2 ?_ | refine zq3 ?_ | refine zq4 ?_ | refine zq5 ?_ | refine zq6 ?_ | refine wN rfl ?_))
        refine wdraw 9 (by kernel_rfl) (by kernel_rfl) (by kernel_rfl) rfl ?_
        (repeat (first | refine HW_nil ?_ | (apply hw0 (hd := rfl); (first | exact qv9 | exact QV_indexAddr rfl rfl rfl rfl (row_at hat)); (exact gy0)) | (apply hwb (hd := rfl); exact qbx; (exact gy0); rfl) | refine zq7 ?_ | refine zq8 ?_))
        (repeat (first | refine WL_nil ?_ | refine zq0 qv9 ?_ | refine zq1 ?_ | refine zq2 ?_ | refine zq3 ?_ | refine zq4 ?_ | refine zq5 ?_ | refine zq6 ?_ | refine wN rfl ?_))
        refine wdraw 9 (by kernel_rfl) (by kernel_rfl) (by kernel_rfl) rfl ?_
        (repeat (first | refine HW_nil ?_ | (apply hw0 (hd := rfl); (first | exact qv9 | exact QV_indexAddr rfl rfl rfl rfl (row_at hat)); (exact gy0)) | (apply hwb (hd := rfl); exact qbx; (exact gy0); rfl) | refine zq7 ?_ | refine zq8 ?_))
        (repeat (first | refine WL_nil ?_ | refine zq0 qv9 ?_ | refine zq1 ?_ | refine zq2 ?_ | refine zq3 ?_ | refine zq4 ?_ | refine zq5 ?_ | refine zq6 ?_ | refine wN rfl ?_))
        have e1 : IntKind.i64.wrap (lwA js ls c + W64 (weightW (qd js c) + conS Ld.w ls c)) = lwA js ls (c + 1) := w64_add' _ _
        have e2 : IntKind.i64.wrap (lmA js ls c + W64 (overW momF (qd js c) + conS momL ls c)) = lmA js ls (c + 1) := w64_add' _ _
        rw [e1, e2]
        refine Exists.intro _ (Exists.intro _ ⟨?_, ⟨c + 1, c + 1, by omega, rfl, fun _ => rfl, rfl⟩, wkA⟩)
        omega
      · have hlt2 : ¬ c + 1 < js.length := by simp at hc; omega
        (repeat (first | refine WL_nil ?_ | refine zq0 qv9 ?_ | refine zq1 ?_ | refine zq2 ?_ | refine zq3 ?_ | refine zq4 ?_ | refine zq5 ?_ | refine zq6 ?_ | refine wN rfl ?_))
        refine Exists.intro _ (Exists.intro _ ⟨?_, ⟨c + 1, c, by omega, rfl, fun hx => absurd hx hlt2, rfl⟩, wkA⟩)
        omega
    · simp at hc; omega
  · (repeat (first | refine WL_nil ?_ | refine zq0 qv9 ?_ | refine zq1 ?_ | refine zq2 ?_ | refine zq3 ?_ | refine zq4 ?_ | refine zq5 ?_ | refine zq6 ?_ | refine wN rfl ?_))
    (refine W_cond rfl (fun hc => ?_) (fun hc => ?_))
    · simp at hc; omega
    · have hk' : k = js.length := by omega
      subst hk'
      have hr : (rowsV js ls js.length).length + [rowE.row].length ≤ 1048576 := by rw [rowsV_eq, List.length_map, rowsN_len]; simp; omega
      cases e1 : (rowsAll js ls).all rowB
      · rw [e1] at hok
        (repeat (first | refine WL_nil ?_ | refine zq0 (by first | exact qv9 | exact q_callA (hok)) ?_ | refine zq1 ?_ | refine zq2 ?_ | refine zq3 ?_ | (apply wln1 (hd := rfl); exact q_buildSlice 79 rfl rfl rfl rfl; (exact gy0); rfl) | refine zq4 ?_ | refine wappE rfl rfl rfl (rw_cells [rowE]) (rw_lens [rowE]) hr rfl rfl (rowsAll_V js ls) rfl rfl ?_ | refine zq5 ?_ | refine zq6 ?_ | refine wN rfl ?_))
        refine Exists.intro _ ⟨Weak.refl _, Exists.intro _ ⟨resA_tmp rfl rfl, ?_, rfl⟩⟩
        rfl
      · rw [e1] at hok
        (repeat (first | refine WL_nil ?_ | refine zq0 (by first | exact qv9 | exact q_callA (hok)) ?_ | refine zq1 ?_ | refine zq2 ?_ | refine zq3 ?_ | (apply wln1 (hd := rfl); exact q_buildSlice 79 rfl rfl rfl rfl; (exact gy0); rfl) | refine zq4 ?_ | refine wappE rfl rfl rfl (rw_cells [rowE]) (rw_lens [rowE]) hr rfl rfl (rowsAll_V js ls) rfl rfl ?_ | refine zq5 ?_ | refine zq6 ?_ | refine wN rfl ?_))
        refine Exists.intro _ ⟨Weak.refl _, Exists.intro _ ⟨resA_tmp rfl rfl, ?_, rfl⟩⟩
        rfl
theorem implRowsOf_no (js : List Jt) (ls : List Ld) (hj : js.length ≤ 1048576) (hn : ls.length ≤ 1048576) (h : loadsB js ls = false) : CallOk Tryz.prog 9 [.agg [slJt js], slLd ls] (fun r => r = .v (.slice none 0 0)) := by
  have hlo := implLoadsOk_ok js ls hj hn
  rw [h] at hlo
  refine callOk Tryz.func9 Tryz.ntmps9 Tryz.results9 rfl rfl rfl fun B w0 M I0 V0 => ?_
  (repeat (first | refine WL_nil ?_ | refine zq0 (by first | exact qv9 | exact q_callA (hlo)) ?_ | refine zq1 ?_ | refine zq2 ?_ | refine zq3 ?_ | refine zq4 ?_ | refine zq5 ?_ | refine zq6 ?_ | refine wN rfl ?_))
  refine Exists.intro _ ⟨Weak.refl _, Exists.intro _ ⟨resA_tmp rfl rfl, ?_, rfl⟩⟩
  rfl
theorem implRowsOf_nil (js : List Jt) (ls : List Ld) (hj : js.length ≤ 1048576) (hn : ls.length ≤ 1048576) (h : loadsB js ls = true) (h2 : (rowsAll js ls).all rowB = false) : CallOk Tryz.prog 9 [.agg [slJt js], slLd ls] (fun r => r = .v (.slice none 0 0)) := by
  have hlo := implLoadsOk_ok js ls hj hn
  rw [h] at hlo
  have hw := weightsOf_ok js ls h
  have hr := rowsFor_ok js ls h
  rw [h2] at hr
  refine callOk Tryz.func9 Tryz.ntmps9 Tryz.results9 rfl rfl rfl fun B w0 M I0 V0 => ?_
  (repeat (first | refine WL_nil ?_ | refine zq0 (by first | exact qv9 | exact q_callA (hlo)) ?_ | refine zq1 ?_ | refine zq2 ?_ | refine zq3 ?_ | refine zq4 ?_ | refine zq5 ?_ | refine zq6 ?_ | refine wN rfl ?_))
  refine wdraw 6 (by kernel_rfl) (by kernel_rfl) (by kernel_rfl) rfl ?_
  (repeat (first | refine HW_nil ?_ | (apply hw0 (hd := rfl); (first | exact qv9 | exact q_callA (hr)); (exact gy0)) | (apply hwb (hd := rfl); exact qbx; (exact gy0); rfl) | refine zq7 ?_ | refine zq8 ?_ | (apply hwn1 (hd := rfl); exact q_call1A 0 15 (hw); (exact gy0); rfl)))
  (repeat (first | refine WL_nil ?_ | refine zq0 qv9 ?_ | refine zq1 ?_ | refine zq2 ?_ | refine zq3 ?_ | refine zq4 ?_ | refine zq5 ?_ | refine zq6 ?_ | refine wN rfl ?_))
  refine Exists.intro _ ⟨Weak.refl _, Exists.intro _ ⟨resA_tmp rfl rfl, ?_, rfl⟩⟩
  rfl
theorem implRowsOf_yes (js : List Jt) (ls : List Ld) (hj : js.length ≤ 1048576) (hn : ls.length ≤ 1048576) (h : loadsB js ls = true) (h2 : (rowsAll js ls).all rowB = true) : CallOk Tryz.prog 9 [.agg [slJt js], slLd ls] (fun r => r = .own 25 80 4 ((rowsAll js ls).map Rw.row)) := by
  have hlo := implLoadsOk_ok js ls hj hn
  rw [h] at hlo
  have hw := weightsOf_ok js ls h
  have hr := rowsFor_ok js ls h
  rw [h2] at hr
  refine callOk Tryz.func9 Tryz.ntmps9 Tryz.results9 rfl rfl rfl fun B w0 M I0 V0 => ?_
  (repeat (first | refine WL_nil ?_ | refine zq0 (by first | exact qv9 | exact q_callA (hlo)) ?_ | refine zq1 ?_ | refine zq2 ?_ | refine zq3 ?_ | refine zq4 ?_ | refine zq5 ?_ | refine zq6 ?_ | refine wN rfl ?_))
  refine wdraw 6 (by kernel_rfl) (by kernel_rfl) (by kernel_rfl) rfl ?_
  (repeat (first | refine HW_nil ?_ | (apply hw0 (hd := rfl); (first | exact qv9); (exact gy0)) | (apply hwb (hd := rfl); exact qbx; (exact gy0); rfl) | refine zq7 ?_ | refine zq8 ?_ | (apply hwn1 (hd := rfl); exact q_call1A 0 15 (hw); (exact gy0); rfl) | (apply hwn1 (hd := rfl); exact q_call1A 20 5 (hr); (exact gy0); rfl)))
  (repeat (first | refine WL_nil ?_ | refine zq0 qv9 ?_ | refine zq1 ?_ | refine zq2 ?_ | refine zq3 ?_ | refine zq4 ?_ | refine zq5 ?_ | refine zq6 ?_ | refine wN rfl ?_))
  refine Exists.intro _ ⟨Weak.refl _, Exists.intro _ ⟨resA_tmp rfl rfl, ?_, rfl⟩⟩
  rfl
theorem implRowsOf_ok (js : List Jt) (ls : List Ld) (hj : js.length ≤ 1048576) (hn : ls.length ≤ 1048576) : CallOk Tryz.prog 9 [.agg [slJt js], slLd ls] (fun r => r = slRw (rowsA js ls)) := by
  cases h : loadsB js ls
  · rw [show rowsA js ls = [] by simp [rowsA, h]]
    exact callOk_nilSl (implRowsOf_no js ls hj hn h)
  · cases h2 : (rowsAll js ls).all rowB
    · rw [show rowsA js ls = [] by simp only [rowsA, h, h2]; rfl]
      exact callOk_nilSl (implRowsOf_nil js ls hj hn h h2)
    · rw [show rowsA js ls = rowsAll js ls by simp only [rowsA, h, h2]; rfl]
      exact callOk_dat (implRowsOf_yes js ls hj hn h h2) rfl
end Go.Proofs.YtpcahgedkmgllaaGreat

namespace Go.Proofs.YtpcahgedkmgllaaGreat
open Go.Eng
instance eq46 : FlatOk Tryz.prog 46 [true, true, true] := ⟨_, Tryz.underlying46, by kernel_rfl, by kernel_rfl, .int (by decide) rfl ty3 Tryz.underlying3 (.int (by decide) rfl ty3 Tryz.underlying3 (.int (by decide) rfl ty3 Tryz.underlying3 (.nil)))⟩
instance eq67 : FlatOk Tryz.prog 67 [true, true] := ⟨_, Tryz.underlying67, by kernel_rfl, by kernel_rfl, .int (by decide) rfl ty3 Tryz.underlying3 (.int (by decide) rfl ty3 Tryz.underlying3 (.nil))⟩
instance eq78 : FlatOk Tryz.prog 78 [true, true] := ⟨_, Tryz.underlying78, by kernel_rfl, by kernel_rfl, .int (by decide) rfl ty3 Tryz.underlying3 (.int (by decide) rfl ty3 Tryz.underlying3 (.nil))⟩
instance eq80 : FlatOk Tryz.prog 80 [true, true, true, true] := ⟨_, Tryz.underlying80, by kernel_rfl, by kernel_rfl, .int (by decide) rfl ty3 Tryz.underlying3 (.int (by decide) rfl ty3 Tryz.underlying3 (.int (by decide) rfl ty3 Tryz.underlying3 (.int (by decide) rfl ty3 Tryz.underlying3 (.nil))))⟩
instance eq105 : FlatOk Tryz.prog 105 [true, true, true, true] := ⟨_, Tryz.underlying105, by kernel_rfl, by kernel_rfl, .int (by decide) rfl ty3 Tryz.underlying3 (.int (by decide) rfl ty3 Tryz.underlying3 (.int (by decide) rfl ty3 Tryz.underlying3 (.int (by decide) rfl ty3 Tryz.underlying3 (.nil))))⟩
end Go.Proofs.YtpcahgedkmgllaaGreat

namespace Go.Proofs.YtpcahgedkmgllaaGreat
open Go.Eng
set_option maxRecDepth 100000
attribute [local irreducible] QV TV WL HW W CallOk Weak

theorem thO_none : thO none = .tup [thZ.av, vb false] := rfl
theorem thO_some (t : Th) : thO (some t) = .tup [t.av, vb true] := rfl
theorem det0_no {p q r : Rw} (h : ¬ det0 p q r = 0) : rowB p = true ∧ rowB q = true ∧ rowB r = true ∧ det0 p q r = detR p q r := by
  unfold det0 at h ⊢
  cases e1 : rowB p <;> cases e2 : rowB q <;> cases e3 : rowB r <;> simp_all
theorem solve_row {l : List Rw} {i : Nat} (h : i < l.length) : (l.map Rw.row)[i]? = some (wat l i).row := row_at (wat_lt h)
def thrL (js : List Jt) (ls : List Ld) : List Th := corL (rowsA js ls)
def stnB (js : List Jt) (ls : List Ld) : Bool := !(thrL js ls).isEmpty
end Go.Proofs.YtpcahgedkmgllaaGreat
