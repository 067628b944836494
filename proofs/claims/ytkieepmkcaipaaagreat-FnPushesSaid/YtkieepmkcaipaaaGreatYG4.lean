/- Thrusts: greatest common divisors, ThrustOk, both ways. -/
import Derived.Test.YtkieepmkcaipaaaGreatYG2
import Derived.Test.YtkieepmkcaipaaaGreatYG3
import Derived.Test.YtkieepmkcaipaaaGreatYALd
import Derived.Test.YtkieepmkcaipaaaGreatZ6
import Derived.Test.YtkieepmkcaipaaaGreatZ7
import Derived.Test.YtkieepmkcaipaaaGreatYI
namespace Go.Proofs.YtkieepmkcaipaaaGreat
open Go.Eng
set_option maxRecDepth 100000
attribute [local irreducible] QV TV WL HW W CallOk Weak

structure Th where
  h : Int
  v : Int
  m : Int
  d : Int
  deriving DecidableEq
abbrev Th.row (t : Th) : List AV := [vi t.h, vi t.v, vi t.m, vi t.d]
abbrev Th.av (t : Th) : AV := .agg [vi t.h, vi t.v, vi t.m, vi t.d]
abbrev iRow (n : Int) : List AV := [vi n]
abbrev slI (l : List Int) : AV := .sl 1 (l.map iRow)
abbrev vu (n : Nat) : AV := .v (.int .u64 (n : Int))
theorem wu_neg {n : Int} (h : -9223372036854775808 ≤ n ∧ n < 0) : IntKind.u64.wrap (0 - IntKind.u64.wrap n) = (n.natAbs : Int) := by
  simp [IntKind.wrap, IntKind.bits, IntKind.signed]; omega
theorem wu_pos {n : Int} (h : 0 ≤ n ∧ n ≤ 9223372036854775807) : IntKind.u64.wrap n = (n.natAbs : Int) := by
  simp [IntKind.wrap, IntKind.bits, IntKind.signed]; omega

theorem gcd_step (a b : Int) : Int.gcd b (a.tmod b) = Int.gcd a b := by
  simp only [Int.gcd, Int.natAbs_tmod]
  rw [Nat.gcd_comm a.natAbs b.natAbs, Nat.gcd_comm b.natAbs, ← Nat.gcd_rec]
theorem tmod_lt {a b : Int} (hb : b ≠ 0) : (a.tmod b).natAbs < b.natAbs := by
  rw [Int.natAbs_tmod]
  exact Nat.mod_lt _ (by omega)
theorem gcd_le {a b : Int} {m : Nat} (ha : a.natAbs ≤ m) (hb : b.natAbs ≤ m) : Int.gcd a b ≤ m := by
  unfold Int.gcd
  by_cases h : a.natAbs = 0
  · rw [h, Nat.gcd_zero_left]; exact hb
  · exact Nat.le_trans (Nat.gcd_le_left _ (by omega)) ha
theorem l08Gcd_ok (a b : Int) (ha : -9223372036854775807 ≤ a ∧ a ≤ 9223372036854775807) (hb : -9223372036854775807 ≤ b ∧ b ≤ 9223372036854775807) : CallOk Tryz.prog 187 [vi a, vi b] (fun r => r = vi (Int.gcd a b)) := by
  refine callOk Tryz.func187 Tryz.ntmps187 Tryz.results187 rfl rfl rfl fun B w0 M I0 V0 => ?_
  (repeat (first | refine WL_nil ?_ | (apply wl0 (hd := rfl); (first | exact qv9); (exact gy0)) | (apply wlb (hd := rfl); exact qbx; (exact gy0); rfl) | refine wln ⟨_, rfl, rfl⟩ rfl ?_ | refine wlnu ⟨_, rfl, rfl⟩ rfl ?_ | refine wst rfl rfl rfl List.not_mem_nil rfl rfl rfl rfl rfl rfl ?_ | refine W_condT rfl ?_ | refine W_condF rfl ?_ | refine W_region ?_ | refine wN rfl ?_))
  refine W_loop (fun n s => ∃ x y : Int, n = y.natAbs ∧ Int.gcd x y = Int.gcd a b ∧ x.natAbs ≤ 9223372036854775807 ∧ y.natAbs ≤ 9223372036854775807 ∧ s = ⟨[(0, vi x), (1, vi y)], [], []⟩) ⟨_, _, ⟨a, b, rfl, rfl, by omega, by omega, rfl⟩, wkA⟩ ?_
  rintro n s ⟨x, y, rfl, hg, hx, hy, rfl⟩
  (repeat (first | refine WL_nil ?_ | (apply wl0 (hd := rfl); (first | exact qv9); (exact gy0)) | (apply wlb (hd := rfl); exact qbx; (exact gy0); rfl) | refine wln ⟨_, rfl, rfl⟩ rfl ?_ | refine wlnu ⟨_, rfl, rfl⟩ rfl ?_ | refine wst rfl rfl rfl List.not_mem_nil rfl rfl rfl rfl rfl rfl ?_ | refine W_condT rfl ?_ | refine W_condF rfl ?_ | refine W_region ?_ | refine wN rfl ?_))
  (refine W_cond rfl (fun hc => ?_) (fun hc => ?_))
  · have h0 : y ≠ 0 := by simpa using hc
    have hl := tmod_lt (a := x) h0
    (repeat (first | refine WL_nil ?_ | (apply wl0 (hd := rfl); (first | exact qv9); (exact gy0)) | (apply wlb (hd := rfl); exact qbx; (exact gy0); rfl) | refine wln ⟨_, rfl, rfl⟩ rfl ?_ | refine wlnu ⟨_, rfl, rfl⟩ rfl ?_ | refine wst rfl rfl rfl List.not_mem_nil rfl rfl rfl rfl rfl rfl ?_ | refine W_condT rfl ?_ | refine W_condF rfl ?_ | refine W_region ?_ | refine wN rfl ?_))
    refine wdraw 6 (by kernel_rfl) (by kernel_rfl) (by kernel_rfl) rfl ?_
    (repeat (first | refine HW_nil ?_ | (apply hw0 (hd := rfl); (first | exact qv9 | exact QV_div rfl rfl h0 rfl); (exact gy0)) | (apply hwb (hd := rfl); exact qbx; (exact gy0); rfl) | refine hwn ⟨_, rfl, rfl⟩ rfl ?_ | refine hwnu ⟨_, rfl, rfl⟩ rfl ?_))
    (repeat (first | refine WL_nil ?_ | (apply wl0 (hd := rfl); (first | exact qv9); (exact gy0)) | (apply wlb (hd := rfl); exact qbx; (exact gy0); rfl) | refine wln ⟨_, rfl, rfl⟩ rfl ?_ | refine wlnu ⟨_, rfl, rfl⟩ rfl ?_ | refine wst rfl rfl rfl List.not_mem_nil rfl rfl rfl rfl rfl rfl ?_ | refine W_condT rfl ?_ | refine W_condF rfl ?_ | refine W_region ?_ | refine wN rfl ?_))
    refine Exists.intro _ (Exists.intro _ ⟨?_, ⟨y, x.tmod y, rfl, by rw [gcd_step, hg], hy, by omega, rfl⟩, wkA⟩)
    exact hl
  · have h0 : y = 0 := by simpa using hc
    subst h0
    (repeat (first | refine WL_nil ?_ | (apply wl0 (hd := rfl); (first | exact qv9); (exact gy0)) | (apply wlb (hd := rfl); exact qbx; (exact gy0); rfl) | refine wln ⟨_, rfl, rfl⟩ rfl ?_ | refine wlnu ⟨_, rfl, rfl⟩ rfl ?_ | refine wst rfl rfl rfl List.not_mem_nil rfl rfl rfl rfl rfl rfl ?_ | refine W_condT rfl ?_ | refine W_condF rfl ?_ | refine W_region ?_ | refine wN rfl ?_))
    refine Exists.intro _ ⟨Weak.refl _, Exists.intro _ ⟨resA_tmp rfl rfl, ?_, rfl⟩⟩
    refine vi_eq ?_
    rw [← hg, Int.gcd_zero_right]
    omega
def gcdL (l : List Int) : Nat := l.foldl (fun d n => Nat.gcd d n.natAbs) 0
theorem gcdL_succ {l : List Int} {i : Nat} {n : Int} (h : l[i]? = some n) : gcdL (l.take (i + 1)) = Nat.gcd (gcdL (l.take i)) n.natAbs := by
  unfold gcdL
  rw [List.take_add_one, h]
  simp
theorem gcdL_le {l : List Int} {m : Nat} (h : ∀ n ∈ l, n.natAbs ≤ m) : gcdL l ≤ m := by
  have : ∀ (l : List Int) (d : Nat), d ≤ m → (∀ n ∈ l, n.natAbs ≤ m) → l.foldl (fun d n => Nat.gcd d n.natAbs) d ≤ m := by
    intro l
    induction l with
    | nil => intro d hd _; exact hd
    | cons x l ih =>
      intro d hd hl
      refine ih _ ?_ fun n hn => hl n (by simp [hn])
      show Nat.gcd d x.natAbs ≤ m
      have hx := hl x (by simp)
      by_cases h0 : d = 0
      · rw [h0, Nat.gcd_zero_left]; exact hx
      · exact Nat.le_trans (Nat.gcd_le_left _ (by omega)) hd
  exact this l 0 (by omega) h
theorem magnitude_ok (n : Int) (hn : -9223372036854775808 ≤ n ∧ n ≤ 9223372036854775807) : CallOk Tryz.prog 153 [vi n] (fun r => r = vu n.natAbs) := by
  refine callOk Tryz.func153 Tryz.ntmps153 Tryz.results153 rfl rfl rfl fun B w0 M I0 V0 => ?_
  (repeat (first | refine WL_nil ?_ | (apply wl0 (hd := rfl); (first | exact qv9); (exact gy0)) | (apply wlb (hd := rfl); exact qbx; (exact gy0); rfl) | refine wln ⟨_, rfl, rfl⟩ rfl ?_ | refine wlnu ⟨_, rfl, rfl⟩ rfl ?_ | refine wst rfl rfl rfl List.not_mem_nil rfl rfl rfl rfl rfl rfl ?_ | refine W_condT rfl ?_ | refine W_condF rfl ?_ | refine W_region ?_ | refine wN rfl ?_))
  (refine W_cond rfl (fun hc => ?_) (fun hc => ?_))
  · (repeat (first | refine WL_nil ?_ | (apply wl0 (hd := rfl); (first | exact qv9 | exact QV_conv (by rw [Tryz.underlying3]; rfl) Tryz.underlying164 rfl); (exact gy0)) | (apply wlb (hd := rfl); exact qbx; (exact gy0); rfl) | refine wln ⟨_, rfl, rfl⟩ rfl ?_ | refine wlnu ⟨_, rfl, rfl⟩ rfl ?_ | refine wst rfl rfl rfl List.not_mem_nil rfl rfl rfl rfl rfl rfl ?_ | refine W_condT rfl ?_ | refine W_condF rfl ?_ | refine W_region ?_ | refine wN rfl ?_))
    refine Exists.intro _ ⟨Weak.refl _, Exists.intro _ ⟨resA_tmp rfl rfl, ?_, rfl⟩⟩
    simp at hc
    show AV.v (.int .u64 (IntKind.u64.wrap (0 - IntKind.u64.wrap n))) = _
    rw [wu_neg (by omega)]
  · (repeat (first | refine WL_nil ?_ | (apply wl0 (hd := rfl); (first | exact qv9 | exact QV_conv (by rw [Tryz.underlying3]; rfl) Tryz.underlying164 rfl); (exact gy0)) | (apply wlb (hd := rfl); exact qbx; (exact gy0); rfl) | refine wln ⟨_, rfl, rfl⟩ rfl ?_ | refine wlnu ⟨_, rfl, rfl⟩ rfl ?_ | refine wst rfl rfl rfl List.not_mem_nil rfl rfl rfl rfl rfl rfl ?_ | refine W_condT rfl ?_ | refine W_condF rfl ?_ | refine W_region ?_ | refine wN rfl ?_))
    refine Exists.intro _ ⟨Weak.refl _, Exists.intro _ ⟨resA_tmp rfl rfl, ?_, rfl⟩⟩
    simp at hc
    show AV.v (.int .u64 (IntKind.u64.wrap n)) = _
    rw [wu_pos (by omega)]
def iat (l : List Int) (i : Nat) : Int := l.getD i 0
theorem iat_lt {l : List Int} {i : Nat} (h : i < l.length) : l[i]? = some (iat l i) := by
  simp [iat, h]
theorem commonDivisor_ok (l : List Int) (hn : l.length ≤ 1048576) (hl : ∀ n ∈ l, n.natAbs ≤ 9223372036854775807) : CallOk Tryz.prog 110 [slI l] (fun r => r = vi (gcdL l)) := by
  refine callOk Tryz.func110 Tryz.ntmps110 Tryz.results110 rfl rfl rfl fun B w0 M I0 V0 => ?_
  (repeat (first | refine WL_nil ?_ | (apply wl0 (hd := rfl); (first | exact qv9); (exact gy0)) | (apply wlb (hd := rfl); exact qbx; (exact gy0); rfl) | refine wln ⟨_, rfl, rfl⟩ rfl ?_ | refine wlnu ⟨_, rfl, rfl⟩ rfl ?_ | refine wst rfl rfl rfl List.not_mem_nil rfl rfl rfl rfl rfl rfl ?_ | refine W_condT rfl ?_ | refine W_condF rfl ?_ | refine W_region ?_ | refine wN rfl ?_))
  refine W_loop (fun n s => ∃ k : Nat, k ≤ l.length ∧ n = l.length - k ∧ s = ⟨[(3, vu (gcdL (l.take k))), (7, slI l), (8, vi l.length), (9, vi k)], [], []⟩) ⟨_, _, ⟨0, by omega, rfl, rfl⟩, wkA⟩ ?_
  rintro n s ⟨k, hk, rfl, rfl⟩
  by_cases hlt : k < l.length
  · have hp := iat_lt hlt
    have hb := hl _ (List.mem_of_getElem? hp)
    have hg := gcdL_le (l := l.take k) (m := 9223372036854775807) fun n hn => hl n (List.mem_of_mem_take hn)
    have hmag := magnitude_ok (iat l k) (by omega)
    (repeat (first | refine WL_nil ?_ | (apply wl0 (hd := rfl); (first | exact qv9); (exact gy0)) | (apply wlb (hd := rfl); exact qbx; (exact gy0); rfl) | refine wln ⟨_, rfl, rfl⟩ rfl ?_ | refine wlnu ⟨_, rfl, rfl⟩ rfl ?_ | refine wst rfl rfl rfl List.not_mem_nil rfl rfl rfl rfl rfl rfl ?_ | refine W_condT rfl ?_ | refine W_condF rfl ?_ | refine W_region ?_ | refine wN rfl ?_))
    (refine W_cond rfl (fun hc => ?_) (fun hc => ?_))
    · (repeat (first | refine WL_nil ?_ | (apply wl0 (hd := rfl); (first | exact qv9 | exact q_callA (hmag) | exact QV_indexAddr rfl rfl rfl rfl (row_at hp)); (exact gy0)) | (apply wlb (hd := rfl); exact qbx; (exact gy0); rfl) | refine wln ⟨_, rfl, rfl⟩ rfl ?_ | refine wlnu ⟨_, rfl, rfl⟩ rfl ?_ | refine wst rfl rfl rfl List.not_mem_nil rfl rfl rfl rfl rfl rfl ?_ | refine W_condT rfl ?_ | refine W_condF rfl ?_ | refine W_region ?_ | refine wN rfl ?_))
      refine W_loop (fun n s => ∃ d m : Nat, n = m ∧ Nat.gcd d m = Nat.gcd (gcdL (l.take k)) (iat l k).natAbs ∧ s = ⟨[(3, vu d), (6, vu m), (7, slI l), (8, vi l.length), (9, vi k)], [], []⟩) ⟨_, _, ⟨_, _, rfl, rfl, rfl⟩, wkA⟩ ?_
      rintro n s ⟨d, m, rfl, hgm, rfl⟩
      (repeat (first | refine WL_nil ?_ | (apply wl0 (hd := rfl); (first | exact qv9); (exact gy0)) | (apply wlb (hd := rfl); exact qbx; (exact gy0); rfl) | refine wln ⟨_, rfl, rfl⟩ rfl ?_ | refine wlnu ⟨_, rfl, rfl⟩ rfl ?_ | refine wst rfl rfl rfl List.not_mem_nil rfl rfl rfl rfl rfl rfl ?_ | refine W_condT rfl ?_ | refine W_condF rfl ?_ | refine W_region ?_ | refine wN rfl ?_))
      (refine W_cond rfl (fun hc => ?_) (fun hc => ?_))
      · have h0 : (n : Int) ≠ 0 := by simpa using hc
        have hrem : adv .rem .u64 (d : Int) (n : Int) = some (.int .u64 ((d % n : Nat) : Int)) := by
          simp only [adv]
          rw [Int.tmod_eq_emod_of_nonneg (by omega)]
          norm_cast
        (repeat (first | refine WL_nil ?_ | (apply wl0 (hd := rfl); (first | exact qv9); (exact gy0)) | (apply wlb (hd := rfl); exact qbx; (exact gy0); rfl) | refine wln ⟨_, rfl, rfl⟩ rfl ?_ | refine wlnu ⟨_, rfl, rfl⟩ rfl ?_ | refine wst rfl rfl rfl List.not_mem_nil rfl rfl rfl rfl rfl rfl ?_ | refine W_condT rfl ?_ | refine W_condF rfl ?_ | refine W_region ?_ | refine wN rfl ?_))
        refine wdraw 6 (by kernel_rfl) (by kernel_rfl) (by kernel_rfl) rfl ?_
        (repeat (first | refine HW_nil ?_ | (apply hw0 (hd := rfl); (first | exact qv9 | exact QV_div rfl rfl h0 hrem); (exact gy0)) | (apply hwb (hd := rfl); exact qbx; (exact gy0); rfl) | refine hwn ⟨_, rfl, rfl⟩ rfl ?_ | refine hwnu ⟨_, rfl, rfl⟩ rfl ?_))
        (repeat (first | refine WL_nil ?_ | (apply wl0 (hd := rfl); (first | exact qv9); (exact gy0)) | (apply wlb (hd := rfl); exact qbx; (exact gy0); rfl) | refine wln ⟨_, rfl, rfl⟩ rfl ?_ | refine wlnu ⟨_, rfl, rfl⟩ rfl ?_ | refine wst rfl rfl rfl List.not_mem_nil rfl rfl rfl rfl rfl rfl ?_ | refine W_condT rfl ?_ | refine W_condF rfl ?_ | refine W_region ?_ | refine wN rfl ?_))
        refine Exists.intro _ (Exists.intro _ ⟨?_, ⟨n, d % n, rfl, by rw [← hgm, Nat.gcd_comm n, ← Nat.gcd_rec, Nat.gcd_comm], rfl⟩, wkA⟩)
        exact Nat.mod_lt _ (by omega)
      · have h0 : n = 0 := by
          have : (n : Int) = 0 := by simpa using hc
          omega
        subst h0
        rw [Nat.gcd_zero_right] at hgm
        subst hgm
        rw [← gcdL_succ hp]
        (repeat (first | refine WL_nil ?_ | (apply wl0 (hd := rfl); (first | exact qv9); (exact gy0)) | (apply wlb (hd := rfl); exact qbx; (exact gy0); rfl) | refine wln ⟨_, rfl, rfl⟩ rfl ?_ | refine wlnu ⟨_, rfl, rfl⟩ rfl ?_ | refine wst rfl rfl rfl List.not_mem_nil rfl rfl rfl rfl rfl rfl ?_ | refine W_condT rfl ?_ | refine W_condF rfl ?_ | refine W_region ?_ | refine wN rfl ?_))
        refine Exists.intro _ (Exists.intro _ ⟨?_, ⟨k + 1, by omega, rfl, rfl⟩, wkA⟩)
        omega
    · simp at hc; omega
  · (repeat (first | refine WL_nil ?_ | (apply wl0 (hd := rfl); (first | exact qv9); (exact gy0)) | (apply wlb (hd := rfl); exact qbx; (exact gy0); rfl) | refine wln ⟨_, rfl, rfl⟩ rfl ?_ | refine wlnu ⟨_, rfl, rfl⟩ rfl ?_ | refine wst rfl rfl rfl List.not_mem_nil rfl rfl rfl rfl rfl rfl ?_ | refine W_condT rfl ?_ | refine W_condF rfl ?_ | refine W_region ?_ | refine wN rfl ?_))
    (refine W_cond rfl (fun hc => ?_) (fun hc => ?_))
    · simp at hc; omega
    · have hk' : k = l.length := by omega
      subst hk'
      rw [List.take_length]
      have hg := gcdL_le hl
      (repeat (first | refine WL_nil ?_ | (apply wl0 (hd := rfl); (first | exact qv9 | exact QV_conv (by rw [Tryz.underlying164]; rfl) Tryz.underlying3 rfl); (exact gy0)) | (apply wlb (hd := rfl); exact qbx; (exact gy0); rfl) | refine wln ⟨_, rfl, rfl⟩ rfl ?_ | refine wlnu ⟨_, rfl, rfl⟩ rfl ?_ | refine wst rfl rfl rfl List.not_mem_nil rfl rfl rfl rfl rfl rfl ?_ | refine W_condT rfl ?_ | refine W_condF rfl ?_ | refine W_region ?_ | refine wN rfl ?_))
      refine Exists.intro _ ⟨Weak.refl _, Exists.intro _ ⟨resA_tmp rfl rfl, ?_, rfl⟩⟩
      exact vi_eq (w64 (by omega))

def thIn (t : Th) : Bool := inR t.d 1 1000000 && (inR t.h 0 1000000000000 && (inR t.v (-10000000000000) 10000000000000 && inR t.m (-10000000000000) 10000000000000))
theorem thIn_true {t : Th} (h : thIn t = true) : (1 ≤ t.d ∧ t.d ≤ 1000000) ∧ (0 ≤ t.h ∧ t.h ≤ 1000000000000) ∧ (-10000000000000 ≤ t.v ∧ t.v ≤ 10000000000000) ∧ -10000000000000 ≤ t.m ∧ t.m ≤ 10000000000000 := by
  simpa [thIn, inR_true] using h
def gcd4 (t : Th) : Nat := Nat.gcd (Nat.gcd t.h.natAbs t.v.natAbs) (Nat.gcd t.m.natAbs t.d.natAbs)
theorem gcd4_list (t : Th) : gcdL [t.h, t.v, t.m, t.d] = gcd4 t := by
  simp [gcdL, gcd4, Nat.gcd_assoc]
def thOk (t : Th) : Bool := thIn t && decide (gcd4 t = 1)
theorem thOk_in {t : Th} (h : thOk t = true) : thIn t = true := by
  simp only [thOk, Bool.and_eq_true] at h; exact h.1
theorem thrustOk_ok (t : Th) : CallOk Tryz.prog 146 [t.av] (fun r => r = vb (thOk t)) := by
  have h1 := l01In_ok t.d 1 1000000
  have h2 := l01In_ok t.h 0 1000000000000
  have h3 := l01In_ok t.v (-10000000000000) 10000000000000
  have h4 := l01In_ok t.m (-10000000000000) 10000000000000
  refine callOk Tryz.func146 Tryz.ntmps146 Tryz.results146 rfl rfl rfl fun B w0 M I0 V0 => ?_
  cases e1 : inR t.d 1 1000000
  · rw [e1] at h1
    (repeat (first | refine WL_nil ?_ | (apply wl0 (hd := rfl); (first | exact qv9 | exact q_callA (h1)); (exact gy0)) | (apply wlb (hd := rfl); exact qbx; (exact gy0); rfl) | refine wln ⟨_, rfl, rfl⟩ rfl ?_ | refine wlnu ⟨_, rfl, rfl⟩ rfl ?_ | refine wst rfl rfl rfl List.not_mem_nil rfl rfl rfl rfl rfl rfl ?_ | refine W_condT rfl ?_ | refine W_condF rfl ?_ | refine W_region ?_ | refine wN rfl ?_))
    refine Exists.intro _ ⟨Weak.refl _, Exists.intro _ ⟨resA_tmp rfl rfl, ?_, rfl⟩⟩
    exact vb_eq (by simp [thOk, thIn, e1])
  · rw [e1] at h1
    cases e2 : inR t.h 0 1000000000000
    · rw [e2] at h2
      (repeat (first | refine WL_nil ?_ | (apply wl0 (hd := rfl); (first | exact qv9 | exact q_callA (h1) | exact q_callA (h2)); (exact gy0)) | (apply wlb (hd := rfl); exact qbx; (exact gy0); rfl) | refine wln ⟨_, rfl, rfl⟩ rfl ?_ | refine wlnu ⟨_, rfl, rfl⟩ rfl ?_ | refine wst rfl rfl rfl List.not_mem_nil rfl rfl rfl rfl rfl rfl ?_ | refine W_condT rfl ?_ | refine W_condF rfl ?_ | refine W_region ?_ | refine wN rfl ?_))
      refine Exists.intro _ ⟨Weak.refl _, Exists.intro _ ⟨resA_tmp rfl rfl, ?_, rfl⟩⟩
      exact vb_eq (by simp [thOk, thIn, e2])
    · rw [e2] at h2
      cases e3 : inR t.v (-10000000000000) 10000000000000
      · rw [e3] at h3
        (repeat (first | refine WL_nil ?_ | (apply wl0 (hd := rfl); (first | exact qv9 | exact q_callA (h1) | exact q_callA (h2) | exact q_callA (h3)); (exact gy0)) | (apply wlb (hd := rfl); exact qbx; (exact gy0); rfl) | refine wln ⟨_, rfl, rfl⟩ rfl ?_ | refine wlnu ⟨_, rfl, rfl⟩ rfl ?_ | refine wst rfl rfl rfl List.not_mem_nil rfl rfl rfl rfl rfl rfl ?_ | refine W_condT rfl ?_ | refine W_condF rfl ?_ | refine W_region ?_ | refine wN rfl ?_))
        refine Exists.intro _ ⟨Weak.refl _, Exists.intro _ ⟨resA_tmp rfl rfl, ?_, rfl⟩⟩
        exact vb_eq (by simp [thOk, thIn, e3])
      · rw [e3] at h3
        cases e4 : inR t.m (-10000000000000) 10000000000000
        · rw [e4] at h4
          (repeat (first | refine WL_nil ?_ | (apply wl0 (hd := rfl); (first | exact qv9 | exact q_callA (h1) | exact q_callA (h2) | exact q_callA (h3) | exact q_callA (h4)); (exact gy0)) | (apply wlb (hd := rfl); exact qbx; (exact gy0); rfl) | refine wln ⟨_, rfl, rfl⟩ rfl ?_ | refine wlnu ⟨_, rfl, rfl⟩ rfl ?_ | refine wst rfl rfl rfl List.not_mem_nil rfl rfl rfl rfl rfl rfl ?_ | refine W_condT rfl ?_ | refine W_condF rfl ?_ | refine W_region ?_ | refine wN rfl ?_))
          refine Exists.intro _ ⟨Weak.refl _, Exists.intro _ ⟨resA_tmp rfl rfl, ?_, rfl⟩⟩
          exact vb_eq (by simp [thOk, thIn, e4])
        · rw [e4] at h4
          have b1 := inR_true.1 e1
          have b2 := inR_true.1 e2
          have b3 := inR_true.1 e3
          have b4 := inR_true.1 e4
          have g1 := l08Gcd_ok t.h t.v (by omega) (by omega)
          have g2 := l08Gcd_ok t.m t.d (by omega) (by omega)
          have l1 := gcd_le (a := t.h) (b := t.v) (m := 10000000000000) (by omega) (by omega)
          have l2 := gcd_le (a := t.m) (b := t.d) (m := 10000000000000) (by omega) (by omega)
          have g3 := l08Gcd_ok (Int.gcd t.h t.v) (Int.gcd t.m t.d) (by omega) (by omega)
          (repeat (first | refine WL_nil ?_ | (apply wl0 (hd := rfl); (first | exact qv9 | exact q_callA (h1) | exact q_callA (h2) | exact q_callA (h3) | exact q_callA (h4)); (exact gy0)) | (apply wlb (hd := rfl); exact qbx; (exact gy0); rfl) | refine wln ⟨_, rfl, rfl⟩ rfl ?_ | refine wlnu ⟨_, rfl, rfl⟩ rfl ?_ | refine wst rfl rfl rfl List.not_mem_nil rfl rfl rfl rfl rfl rfl ?_ | refine W_condT rfl ?_ | refine W_condF rfl ?_ | refine W_region ?_ | refine wN rfl ?_))
          refine wdraw 13 (by kernel_rfl) (by kernel_rfl) (by kernel_rfl) rfl ?_
          (repeat (first | refine HW_nil ?_ | (apply hw0 (hd := rfl); (first | exact qv9 | exact q_callA (g1) | exact q_callA (g2) | exact q_callA (g3)); (exact gy0)) | (apply hwb (hd := rfl); exact qbx; (exact gy0); rfl) | refine hwn ⟨_, rfl, rfl⟩ rfl ?_ | refine hwnu ⟨_, rfl, rfl⟩ rfl ?_))
          (repeat (first | refine WL_nil ?_ | (apply wl0 (hd := rfl); (first | exact qv9); (exact gy0)) | (apply wlb (hd := rfl); exact qbx; (exact gy0); rfl) | refine wln ⟨_, rfl, rfl⟩ rfl ?_ | refine wlnu ⟨_, rfl, rfl⟩ rfl ?_ | refine wst rfl rfl rfl List.not_mem_nil rfl rfl rfl rfl rfl rfl ?_ | refine W_condT rfl ?_ | refine W_condF rfl ?_ | refine W_region ?_ | refine wN rfl ?_))
          refine Exists.intro _ ⟨Weak.refl _, Exists.intro _ ⟨resA_tmp rfl rfl, ?_, rfl⟩⟩
          refine vb_eq ?_
          have : (Int.gcd (Int.gcd t.h t.v) (Int.gcd t.m t.d) : Nat) = gcd4 t := rfl
          simp only [thOk, thIn, e1, e2, e3, e4, this, Bool.true_and]
          rw [Bool.eq_iff_iff]
          simp
          omega
theorem implThrustOk_ok (t : Th) : CallOk Tryz.prog 113 [t.av] (fun r => r = vb (thOk t)) := by
  have h1 := within_ok t.d 1 1000000
  have h2 := within_ok t.h 0 1000000000000
  have h3 := within_ok t.v (-10000000000000) 10000000000000
  have h4 := within_ok t.m (-10000000000000) 10000000000000
  refine callOk Tryz.func113 Tryz.ntmps113 Tryz.results113 rfl rfl rfl fun B w0 M I0 V0 => ?_
  cases e1 : inR t.d 1 1000000
  · rw [e1] at h1
    (repeat (first | refine WL_nil ?_ | (apply wl0 (hd := rfl); (first | exact qv9 | exact q_callA (h1)); (exact gy0)) | (apply wlb (hd := rfl); exact qbx; (exact gy0); rfl) | refine wln ⟨_, rfl, rfl⟩ rfl ?_ | refine wlnu ⟨_, rfl, rfl⟩ rfl ?_ | refine wst rfl rfl rfl List.not_mem_nil rfl rfl rfl rfl rfl rfl ?_ | refine W_condT rfl ?_ | refine W_condF rfl ?_ | refine W_region ?_ | refine wN rfl ?_))
    refine Exists.intro _ ⟨Weak.refl _, Exists.intro _ ⟨resA_tmp rfl rfl, ?_, rfl⟩⟩
    exact vb_eq (by simp [thOk, thIn, e1])
  · rw [e1] at h1
    cases e2 : inR t.h 0 1000000000000
    · rw [e2] at h2
      (repeat (first | refine WL_nil ?_ | (apply wl0 (hd := rfl); (first | exact qv9 | exact q_callA (h1) | exact q_callA (h2)); (exact gy0)) | (apply wlb (hd := rfl); exact qbx; (exact gy0); rfl) | refine wln ⟨_, rfl, rfl⟩ rfl ?_ | refine wlnu ⟨_, rfl, rfl⟩ rfl ?_ | refine wst rfl rfl rfl List.not_mem_nil rfl rfl rfl rfl rfl rfl ?_ | refine W_condT rfl ?_ | refine W_condF rfl ?_ | refine W_region ?_ | refine wN rfl ?_))
      refine Exists.intro _ ⟨Weak.refl _, Exists.intro _ ⟨resA_tmp rfl rfl, ?_, rfl⟩⟩
      exact vb_eq (by simp [thOk, thIn, e2])
    · rw [e2] at h2
      cases e3 : inR t.v (-10000000000000) 10000000000000
      · rw [e3] at h3
        (repeat (first | refine WL_nil ?_ | (apply wl0 (hd := rfl); (first | exact qv9 | exact q_callA (h1) | exact q_callA (h2) | exact q_callA (h3)); (exact gy0)) | (apply wlb (hd := rfl); exact qbx; (exact gy0); rfl) | refine wln ⟨_, rfl, rfl⟩ rfl ?_ | refine wlnu ⟨_, rfl, rfl⟩ rfl ?_ | refine wst rfl rfl rfl List.not_mem_nil rfl rfl rfl rfl rfl rfl ?_ | refine W_condT rfl ?_ | refine W_condF rfl ?_ | refine W_region ?_ | refine wN rfl ?_))
        refine Exists.intro _ ⟨Weak.refl _, Exists.intro _ ⟨resA_tmp rfl rfl, ?_, rfl⟩⟩
        exact vb_eq (by simp [thOk, thIn, e3])
      · rw [e3] at h3
        cases e4 : inR t.m (-10000000000000) 10000000000000
        · rw [e4] at h4
          (repeat (first | refine WL_nil ?_ | (apply wl0 (hd := rfl); (first | exact qv9 | exact q_callA (h1) | exact q_callA (h2) | exact q_callA (h3) | exact q_callA (h4)); (exact gy0)) | (apply wlb (hd := rfl); exact qbx; (exact gy0); rfl) | refine wln ⟨_, rfl, rfl⟩ rfl ?_ | refine wlnu ⟨_, rfl, rfl⟩ rfl ?_ | refine wst rfl rfl rfl List.not_mem_nil rfl rfl rfl rfl rfl rfl ?_ | refine W_condT rfl ?_ | refine W_condF rfl ?_ | refine W_region ?_ | refine wN rfl ?_))
          refine Exists.intro _ ⟨Weak.refl _, Exists.intro _ ⟨resA_tmp rfl rfl, ?_, rfl⟩⟩
          exact vb_eq (by simp [thOk, thIn, e4])
        · rw [e4] at h4
          have b1 := inR_true.1 e1
          have b2 := inR_true.1 e2
          have b3 := inR_true.1 e3
          have b4 := inR_true.1 e4
          have g1 := commonDivisor_ok [t.h, t.v, t.m, t.d] (by simp) (by simp; omega)
          rw [gcd4_list] at g1
          (repeat (first | refine WL_nil ?_ | (apply wl0 (hd := rfl); (first | exact qv9 | exact q_callA (h1) | exact q_callA (h2) | exact q_callA (h3) | exact q_callA (h4) | exact q_callA (g1)); (exact gy0)) | (apply wlb (hd := rfl); exact qbx; (exact gy0); rfl) | refine wln ⟨_, rfl, rfl⟩ rfl ?_ | refine wlnu ⟨_, rfl, rfl⟩ rfl ?_ | (apply wln1 (hd := rfl); exact q_buildSlice 30 rfl rfl rfl rfl; (exact gy0); rfl) | refine wst rfl rfl rfl List.not_mem_nil rfl rfl rfl rfl rfl rfl ?_ | refine W_condT rfl ?_ | refine W_condF rfl ?_ | refine W_region ?_ | refine wN rfl ?_))
          refine Exists.intro _ ⟨Weak.refl _, Exists.intro _ ⟨resA_tmp rfl rfl, ?_, rfl⟩⟩
          refine vb_eq ?_
          simp only [thOk, thIn, e1, e2, e3, e4, Bool.true_and]
          rw [Bool.eq_iff_iff]
          simp
          omega
end Go.Proofs.YtkieepmkcaipaaaGreat

namespace Go.Proofs.YtkieepmkcaipaaaGreat
open Go.Eng
set_option maxRecDepth 100000
attribute [local irreducible] QV TV WL HW W CallOk Weak

structure Rw where
  a : Int
  b : Int
  c : Int
  d : Int
  deriving DecidableEq
abbrev Rw.row (r : Rw) : List AV := [vi r.a, vi r.b, vi r.c, vi r.d]
abbrev Rw.av (r : Rw) : AV := .agg [vi r.a, vi r.b, vi r.c, vi r.d]
abbrev slRw (l : List Rw) : AV := .sl 4 (l.map Rw.row)
def wat (l : List Rw) (i : Nat) : Rw := l.getD i ⟨0, 0, 0, 0⟩
theorem wat_lt {l : List Rw} {i : Nat} (h : i < l.length) : l[i]? = some (wat l i) := by
  simp [wat, h]
def rowB (r : Rw) : Bool := inR r.a (-100) 100 && (inR r.b (-100) 100 && (inR r.c (-1) 1 && inR r.d (-1000000000) 1000000000))
theorem rowB_true {r : Rw} : rowB r = true ↔ (-100 ≤ r.a ∧ r.a ≤ 100) ∧ (-100 ≤ r.b ∧ r.b ≤ 100) ∧ (-1 ≤ r.c ∧ r.c ≤ 1) ∧ -1000000000 ≤ r.d ∧ r.d ≤ 1000000000 := by
  simp [rowB, inR_true]
theorem rowOk_ok (r : Rw) : CallOk Tryz.prog 136 [r.av] (fun x => x = vb (rowB r)) := by
  have h1 := l01In_ok r.a (-100) 100
  have h2 := l01In_ok r.b (-100) 100
  have h3 := l01In_ok r.c (-1) 1
  have h4 := l01In_ok r.d (-1000000000) 1000000000
  refine callOk Tryz.func136 Tryz.ntmps136 Tryz.results136 rfl rfl rfl fun B w0 M I0 V0 => ?_
  cases e1 : inR r.a (-100) 100
  · rw [e1] at h1
    (repeat (first | refine WL_nil ?_ | (apply wl0 (hd := rfl); (first | exact qv9 | exact q_callA (h1)); (exact gy0)) | (apply wlb (hd := rfl); exact qbx; (exact gy0); rfl) | refine wln ⟨_, rfl, rfl⟩ rfl ?_ | refine wlnu ⟨_, rfl, rfl⟩ rfl ?_ | refine wst rfl rfl rfl List.not_mem_nil rfl rfl rfl rfl rfl rfl ?_ | refine W_condT rfl ?_ | refine W_condF rfl ?_ | refine W_region ?_ | refine wN rfl ?_))
    refine Exists.intro _ ⟨Weak.refl _, Exists.intro _ ⟨resA_tmp rfl rfl, ?_, rfl⟩⟩
    exact vb_eq (by simp [rowB, e1])
  · rw [e1] at h1
    cases e2 : inR r.b (-100) 100
    · rw [e2] at h2
      (repeat (first | refine WL_nil ?_ | (apply wl0 (hd := rfl); (first | exact qv9 | exact q_callA (h1) | exact q_callA (h2)); (exact gy0)) | (apply wlb (hd := rfl); exact qbx; (exact gy0); rfl) | refine wln ⟨_, rfl, rfl⟩ rfl ?_ | refine wlnu ⟨_, rfl, rfl⟩ rfl ?_ | refine wst rfl rfl rfl List.not_mem_nil rfl rfl rfl rfl rfl rfl ?_ | refine W_condT rfl ?_ | refine W_condF rfl ?_ | refine W_region ?_ | refine wN rfl ?_))
      refine Exists.intro _ ⟨Weak.refl _, Exists.intro _ ⟨resA_tmp rfl rfl, ?_, rfl⟩⟩
      exact vb_eq (by simp [rowB, e2])
    · rw [e2] at h2
      cases e3 : inR r.c (-1) 1
      · rw [e3] at h3
        (repeat (first | refine WL_nil ?_ | (apply wl0 (hd := rfl); (first | exact qv9 | exact q_callA (h1) | exact q_callA (h2) | exact q_callA (h3)); (exact gy0)) | (apply wlb (hd := rfl); exact qbx; (exact gy0); rfl) | refine wln ⟨_, rfl, rfl⟩ rfl ?_ | refine wlnu ⟨_, rfl, rfl⟩ rfl ?_ | refine wst rfl rfl rfl List.not_mem_nil rfl rfl rfl rfl rfl rfl ?_ | refine W_condT rfl ?_ | refine W_condF rfl ?_ | refine W_region ?_ | refine wN rfl ?_))
        refine Exists.intro _ ⟨Weak.refl _, Exists.intro _ ⟨resA_tmp rfl rfl, ?_, rfl⟩⟩
        exact vb_eq (by simp [rowB, e3])
      · rw [e3] at h3
        (repeat (first | refine WL_nil ?_ | (apply wl0 (hd := rfl); (first | exact qv9 | exact q_callA (h1) | exact q_callA (h2) | exact q_callA (h3) | exact q_callA (h4)); (exact gy0)) | (apply wlb (hd := rfl); exact qbx; (exact gy0); rfl) | refine wln ⟨_, rfl, rfl⟩ rfl ?_ | refine wlnu ⟨_, rfl, rfl⟩ rfl ?_ | refine wst rfl rfl rfl List.not_mem_nil rfl rfl rfl rfl rfl rfl ?_ | refine W_condT rfl ?_ | refine W_condF rfl ?_ | refine W_region ?_ | refine wN rfl ?_))
        refine Exists.intro _ ⟨Weak.refl _, Exists.intro _ ⟨resA_tmp rfl rfl, ?_, rfl⟩⟩
        exact vb_eq (by simp [rowB, e1, e2, e3])
theorem implRowOk_ok (r : Rw) : CallOk Tryz.prog 114 [r.av] (fun x => x = vb (rowB r)) := by
  have h1 := within_ok r.a (-100) 100
  have h2 := within_ok r.b (-100) 100
  have h3 := within_ok r.c (-1) 1
  have h4 := within_ok r.d (-1000000000) 1000000000
  refine callOk Tryz.func114 Tryz.ntmps114 Tryz.results114 rfl rfl rfl fun B w0 M I0 V0 => ?_
  cases e1 : inR r.a (-100) 100
  · rw [e1] at h1
    (repeat (first | refine WL_nil ?_ | (apply wl0 (hd := rfl); (first | exact qv9 | exact q_callA (h1)); (exact gy0)) | (apply wlb (hd := rfl); exact qbx; (exact gy0); rfl) | refine wln ⟨_, rfl, rfl⟩ rfl ?_ | refine wlnu ⟨_, rfl, rfl⟩ rfl ?_ | refine wst rfl rfl rfl List.not_mem_nil rfl rfl rfl rfl rfl rfl ?_ | refine W_condT rfl ?_ | refine W_condF rfl ?_ | refine W_region ?_ | refine wN rfl ?_))
    refine Exists.intro _ ⟨Weak.refl _, Exists.intro _ ⟨resA_tmp rfl rfl, ?_, rfl⟩⟩
    exact vb_eq (by simp [rowB, e1])
  · rw [e1] at h1
    cases e2 : inR r.b (-100) 100
    · rw [e2] at h2
      (repeat (first | refine WL_nil ?_ | (apply wl0 (hd := rfl); (first | exact qv9 | exact q_callA (h1) | exact q_callA (h2)); (exact gy0)) | (apply wlb (hd := rfl); exact qbx; (exact gy0); rfl) | refine wln ⟨_, rfl, rfl⟩ rfl ?_ | refine wlnu ⟨_, rfl, rfl⟩ rfl ?_ | refine wst rfl rfl rfl List.not_mem_nil rfl rfl rfl rfl rfl rfl ?_ | refine W_condT rfl ?_ | refine W_condF rfl ?_ | refine W_region ?_ | refine wN rfl ?_))
      refine Exists.intro _ ⟨Weak.refl _, Exists.intro _ ⟨resA_tmp rfl rfl, ?_, rfl⟩⟩
      exact vb_eq (by simp [rowB, e2])
    · rw [e2] at h2
      cases e3 : inR r.c (-1) 1
      · rw [e3] at h3
        (repeat (first | refine WL_nil ?_ | (apply wl0 (hd := rfl); (first | exact qv9 | exact q_callA (h1) | exact q_callA (h2) | exact q_callA (h3)); (exact gy0)) | (apply wlb (hd := rfl); exact qbx; (exact gy0); rfl) | refine wln ⟨_, rfl, rfl⟩ rfl ?_ | refine wlnu ⟨_, rfl, rfl⟩ rfl ?_ | refine wst rfl rfl rfl List.not_mem_nil rfl rfl rfl rfl rfl rfl ?_ | refine W_condT rfl ?_ | refine W_condF rfl ?_ | refine W_region ?_ | refine wN rfl ?_))
        refine Exists.intro _ ⟨Weak.refl _, Exists.intro _ ⟨resA_tmp rfl rfl, ?_, rfl⟩⟩
        exact vb_eq (by simp [rowB, e3])
      · rw [e3] at h3
        (repeat (first | refine WL_nil ?_ | (apply wl0 (hd := rfl); (first | exact qv9 | exact q_callA (h1) | exact q_callA (h2) | exact q_callA (h3) | exact q_callA (h4)); (exact gy0)) | (apply wlb (hd := rfl); exact qbx; (exact gy0); rfl) | refine wln ⟨_, rfl, rfl⟩ rfl ?_ | refine wlnu ⟨_, rfl, rfl⟩ rfl ?_ | refine wst rfl rfl rfl List.not_mem_nil rfl rfl rfl rfl rfl rfl ?_ | refine W_condT rfl ?_ | refine W_condF rfl ?_ | refine W_region ?_ | refine wN rfl ?_))
        refine Exists.intro _ ⟨Weak.refl _, Exists.intro _ ⟨resA_tmp rfl rfl, ?_, rfl⟩⟩
        exact vb_eq (by simp [rowB, e1, e2, e3])
theorem rowsOk_ok (l : List Rw) (hn : l.length ≤ 1048576) : CallOk Tryz.prog 122 [slRw l] (fun r => r = vb (l.all rowB)) := by
  refine callOk Tryz.func122 Tryz.ntmps122 Tryz.results122 rfl rfl rfl fun B w0 M I0 V0 => ?_
  (repeat (first | refine WL_nil ?_ | (apply wl0 (hd := rfl); (first | exact qv9); (exact gy0)) | (apply wlb (hd := rfl); exact qbx; (exact gy0); rfl) | refine wln ⟨_, rfl, rfl⟩ rfl ?_ | refine wlnu ⟨_, rfl, rfl⟩ rfl ?_ | refine wst rfl rfl rfl List.not_mem_nil rfl rfl rfl rfl rfl rfl ?_ | refine W_condT rfl ?_ | refine W_condF rfl ?_ | refine W_region ?_ | refine wN rfl ?_))
  refine W_loop (fun n s => ∃ k : Nat, k ≤ l.length ∧ n = l.length - k ∧ (l.take k).all rowB = true ∧ s = ⟨[(5, slRw l), (6, vi l.length), (7, vi k)], [], []⟩) ⟨_, _, ⟨0, by omega, rfl, rfl, rfl⟩, wkA⟩ ?_
  rintro n s ⟨k, hk, rfl, hall, rfl⟩
  by_cases hlt : k < l.length
  · have hp := wat_lt hlt
    have h1 := implRowOk_ok (wat l k)
    (repeat (first | refine WL_nil ?_ | (apply wl0 (hd := rfl); (first | exact qv9); (exact gy0)) | (apply wlb (hd := rfl); exact qbx; (exact gy0); rfl) | refine wln ⟨_, rfl, rfl⟩ rfl ?_ | refine wlnu ⟨_, rfl, rfl⟩ rfl ?_ | refine wst rfl rfl rfl List.not_mem_nil rfl rfl rfl rfl rfl rfl ?_ | refine W_condT rfl ?_ | refine W_condF rfl ?_ | refine W_region ?_ | refine wN rfl ?_))
    (refine W_cond rfl (fun hc => ?_) (fun hc => ?_))
    · cases e1 : rowB (wat l k)
      · rw [e1] at h1
        (repeat (first | refine WL_nil ?_ | (apply wl0 (hd := rfl); (first | exact qv9 | exact q_callA (h1) | exact QV_indexAddr rfl rfl rfl rfl (row_at hp)); (exact gy0)) | (apply wlb (hd := rfl); exact qbx; (exact gy0); rfl) | refine wln ⟨_, rfl, rfl⟩ rfl ?_ | refine wlnu ⟨_, rfl, rfl⟩ rfl ?_ | refine wst rfl rfl rfl List.not_mem_nil rfl rfl rfl rfl rfl rfl ?_ | refine W_condT rfl ?_ | refine W_condF rfl ?_ | refine W_region ?_ | refine wN rfl ?_))
        refine Exists.intro _ ⟨Weak.refl _, Exists.intro _ ⟨resA_tmp rfl rfl, ?_, rfl⟩⟩
        exact vb_eq (all_at_false hp e1).symm
      · rw [e1] at h1
        (repeat (first | refine WL_nil ?_ | (apply wl0 (hd := rfl); (first | exact qv9 | exact q_callA (h1) | exact QV_indexAddr rfl rfl rfl rfl (row_at hp)); (exact gy0)) | (apply wlb (hd := rfl); exact qbx; (exact gy0); rfl) | refine wln ⟨_, rfl, rfl⟩ rfl ?_ | refine wlnu ⟨_, rfl, rfl⟩ rfl ?_ | refine wst rfl rfl rfl List.not_mem_nil rfl rfl rfl rfl rfl rfl ?_ | refine W_condT rfl ?_ | refine W_condF rfl ?_ | refine W_region ?_ | refine wN rfl ?_))
        refine Exists.intro _ (Exists.intro _ ⟨?_, ⟨k + 1, by omega, rfl, by rw [all_take_succ hp, hall, e1]; rfl, rfl⟩, wkA⟩)
        omega
    · simp at hc; omega
  · (repeat (first | refine WL_nil ?_ | (apply wl0 (hd := rfl); (first | exact qv9); (exact gy0)) | (apply wlb (hd := rfl); exact qbx; (exact gy0); rfl) | refine wln ⟨_, rfl, rfl⟩ rfl ?_ | refine wlnu ⟨_, rfl, rfl⟩ rfl ?_ | refine wst rfl rfl rfl List.not_mem_nil rfl rfl rfl rfl rfl rfl ?_ | refine W_condT rfl ?_ | refine W_condF rfl ?_ | refine W_region ?_ | refine wN rfl ?_))
    (refine W_cond rfl (fun hc => ?_) (fun hc => ?_))
    · simp at hc; omega
    · have hk' : k = l.length := by omega
      subst hk'
      rw [List.take_length] at hall
      (repeat (first | refine WL_nil ?_ | (apply wl0 (hd := rfl); (first | exact qv9); (exact gy0)) | (apply wlb (hd := rfl); exact qbx; (exact gy0); rfl) | refine wln ⟨_, rfl, rfl⟩ rfl ?_ | refine wlnu ⟨_, rfl, rfl⟩ rfl ?_ | refine wst rfl rfl rfl List.not_mem_nil rfl rfl rfl rfl rfl rfl ?_ | refine W_condT rfl ?_ | refine W_condF rfl ?_ | refine W_region ?_ | refine wN rfl ?_))
      refine Exists.intro _ ⟨Weak.refl _, Exists.intro _ ⟨resA_tmp rfl rfl, ?_, rfl⟩⟩
      exact vb_eq hall.symm
def lhs (t : Th) (r : Rw) : Int := W64 (W64 (W64 (r.a * t.h) + W64 (r.b * t.v)) + W64 (r.c * t.m))
def rhs (t : Th) (r : Rw) : Int := W64 (r.d * t.d)
def fulB (t : Th) (r : Rw) : Bool := thOk t && (rowB r && decide (lhs t r ≤ rhs t r))
theorem l10Holds_ok (t : Th) (r : Rw) : CallOk Tryz.prog 139 [t.av, r.av] (fun x => x = vb (decide (lhs t r ≤ rhs t r))) := by
  refine callOk Tryz.func139 Tryz.ntmps139 Tryz.results139 rfl rfl rfl fun B w0 M I0 V0 => ?_
  (repeat (first | refine WL_nil ?_ | (apply wl0 (hd := rfl); (first | exact qv9); (exact gy0)) | (apply wlb (hd := rfl); exact qbx; (exact gy0); rfl) | refine wln ⟨_, rfl, rfl⟩ rfl ?_ | refine wlnu ⟨_, rfl, rfl⟩ rfl ?_ | refine wst rfl rfl rfl List.not_mem_nil rfl rfl rfl rfl rfl rfl ?_ | refine W_condT rfl ?_ | refine W_condF rfl ?_ | refine W_region ?_ | refine wN rfl ?_))
  refine Exists.intro _ ⟨Weak.refl _, Exists.intro _ ⟨resA_tmp rfl rfl, ?_, rfl⟩⟩
  rfl
theorem sides_ok (t : Th) (r : Rw) : CallOk Tryz.prog 154 [r.av, t.av] (fun x => x = .tup [vi (lhs t r), vi (rhs t r)]) := by
  refine callOk Tryz.func154 Tryz.ntmps154 Tryz.results154 rfl rfl rfl fun B w0 M I0 V0 => ?_
  (repeat (first | refine WL_nil ?_ | (apply wl0 (hd := rfl); (first | exact qv9); (exact gy0)) | (apply wlb (hd := rfl); exact qbx; (exact gy0); rfl) | refine wln ⟨_, rfl, rfl⟩ rfl ?_ | refine wlnu ⟨_, rfl, rfl⟩ rfl ?_ | refine wst rfl rfl rfl List.not_mem_nil rfl rfl rfl rfl rfl rfl ?_ | refine W_condT rfl ?_ | refine W_condF rfl ?_ | refine W_region ?_ | refine wN rfl ?_))
  refine wdraw 24 (by kernel_rfl) (by kernel_rfl) (by kernel_rfl) rfl ?_
  (repeat (first | refine HW_nil ?_ | (apply hw0 (hd := rfl); (first | exact qv9); (exact gy0)) | (apply hwb (hd := rfl); exact qbx; (exact gy0); rfl) | refine hwn ⟨_, rfl, rfl⟩ rfl ?_ | refine hwnu ⟨_, rfl, rfl⟩ rfl ?_))
  (repeat (first | refine WL_nil ?_ | (apply wl0 (hd := rfl); (first | exact qv9); (exact gy0)) | (apply wlb (hd := rfl); exact qbx; (exact gy0); rfl) | refine wln ⟨_, rfl, rfl⟩ rfl ?_ | refine wlnu ⟨_, rfl, rfl⟩ rfl ?_ | refine wst rfl rfl rfl List.not_mem_nil rfl rfl rfl rfl rfl rfl ?_ | refine W_condT rfl ?_ | refine W_condF rfl ?_ | refine W_region ?_ | refine wN rfl ?_))
  refine Exists.intro _ ⟨Weak.refl _, Exists.intro _ ⟨resA_tmp rfl (resA_tmp rfl rfl), ?_, rfl⟩⟩
  rfl
theorem implFulfills_ok (t : Th) (r : Rw) : CallOk Tryz.prog 112 [t.av, r.av] (fun x => x = vb (fulB t r)) := by
  have h1 := implThrustOk_ok t
  have h2 := implRowOk_ok r
  have h3 := sides_ok t r
  refine callOk Tryz.func112 Tryz.ntmps112 Tryz.results112 rfl rfl rfl fun B w0 M I0 V0 => ?_
  cases e1 : thOk t
  · rw [e1] at h1
    (repeat (first | refine WL_nil ?_ | (apply wl0 (hd := rfl); (first | exact qv9 | exact q_callA (h1)); (exact gy0)) | (apply wlb (hd := rfl); exact qbx; (exact gy0); rfl) | refine wln ⟨_, rfl, rfl⟩ rfl ?_ | refine wlnu ⟨_, rfl, rfl⟩ rfl ?_ | refine wst rfl rfl rfl List.not_mem_nil rfl rfl rfl rfl rfl rfl ?_ | refine W_condT rfl ?_ | refine W_condF rfl ?_ | refine W_region ?_ | refine wN rfl ?_))
    refine Exists.intro _ ⟨Weak.refl _, Exists.intro _ ⟨resA_tmp rfl rfl, ?_, rfl⟩⟩
    exact vb_eq (by simp [fulB, e1])
  · rw [e1] at h1
    cases e2 : rowB r
    · rw [e2] at h2
      (repeat (first | refine WL_nil ?_ | (apply wl0 (hd := rfl); (first | exact qv9 | exact q_callA (h1) | exact q_callA (h2)); (exact gy0)) | (apply wlb (hd := rfl); exact qbx; (exact gy0); rfl) | refine wln ⟨_, rfl, rfl⟩ rfl ?_ | refine wlnu ⟨_, rfl, rfl⟩ rfl ?_ | refine wst rfl rfl rfl List.not_mem_nil rfl rfl rfl rfl rfl rfl ?_ | refine W_condT rfl ?_ | refine W_condF rfl ?_ | refine W_region ?_ | refine wN rfl ?_))
      refine Exists.intro _ ⟨Weak.refl _, Exists.intro _ ⟨resA_tmp rfl rfl, ?_, rfl⟩⟩
      exact vb_eq (by simp [fulB, e2])
    · rw [e2] at h2
      (repeat (first | refine WL_nil ?_ | (apply wl0 (hd := rfl); (first | exact qv9 | exact q_callA (h1) | exact q_callA (h2) | exact q_callA (h3)); (exact gy0)) | (apply wlb (hd := rfl); exact qbx; (exact gy0); rfl) | refine wln ⟨_, rfl, rfl⟩ rfl ?_ | refine wlnu ⟨_, rfl, rfl⟩ rfl ?_ | refine wst rfl rfl rfl List.not_mem_nil rfl rfl rfl rfl rfl rfl ?_ | refine W_condT rfl ?_ | refine W_condF rfl ?_ | refine W_region ?_ | refine wN rfl ?_))
      refine Exists.intro _ ⟨Weak.refl _, Exists.intro _ ⟨resA_tmp rfl rfl, ?_, rfl⟩⟩
      exact vb_eq (by simp [fulB, e1, e2])
def fulAll (t : Th) (l : List Rw) : Bool := inR l.length 1 40 && l.all (fulB t)
theorem implFulfillsAll_ok (t : Th) (l : List Rw) (hn : l.length ≤ 1048576) : CallOk Tryz.prog 64 [t.av, slRw l] (fun r => r = vb (fulAll t l)) := by
  have hw := within_ok l.length 1 40
  refine callOk Tryz.func64 Tryz.ntmps64 Tryz.results64 rfl rfl rfl fun B w0 M I0 V0 => ?_
  cases hin : inR l.length 1 40
  · rw [hin] at hw
    (repeat (first | refine WL_nil ?_ | (apply wl0 (hd := rfl); (first | exact qv9 | exact q_callA (hw)); (exact gy0)) | (apply wlb (hd := rfl); exact qbx; (exact gy0); rfl) | refine wln ⟨_, rfl, rfl⟩ rfl ?_ | refine wlnu ⟨_, rfl, rfl⟩ rfl ?_ | refine wst rfl rfl rfl List.not_mem_nil rfl rfl rfl rfl rfl rfl ?_ | refine W_condT rfl ?_ | refine W_condF rfl ?_ | refine W_region ?_ | refine wN rfl ?_))
    refine Exists.intro _ ⟨Weak.refl _, Exists.intro _ ⟨resA_tmp rfl rfl, ?_, rfl⟩⟩
    exact vb_eq (by simp [fulAll, hin])
  · rw [hin] at hw
    (repeat (first | refine WL_nil ?_ | (apply wl0 (hd := rfl); (first | exact qv9 | exact q_callA (hw)); (exact gy0)) | (apply wlb (hd := rfl); exact qbx; (exact gy0); rfl) | refine wln ⟨_, rfl, rfl⟩ rfl ?_ | refine wlnu ⟨_, rfl, rfl⟩ rfl ?_ | refine wst rfl rfl rfl List.not_mem_nil rfl rfl rfl rfl rfl rfl ?_ | refine W_condT rfl ?_ | refine W_condF rfl ?_ | refine W_region ?_ | refine wN rfl ?_))
    refine W_loop (fun n s => ∃ k : Nat, k ≤ l.length ∧ n = l.length - k ∧ (l.take k).all (fulB t) = true ∧ s = ⟨[(2, .ptr 2 0), (11, slRw l), (12, vi l.length), (13, vi k)], [(2, t.row)], []⟩) ⟨_, _, ⟨0, by omega, rfl, rfl, rfl⟩, wkA⟩ ?_
    rintro n s ⟨k, hk, rfl, hall, rfl⟩
    by_cases hlt : k < l.length
    · have hp := wat_lt hlt
      have h1 := implFulfills_ok t (wat l k)
      (repeat (first | refine WL_nil ?_ | (apply wl0 (hd := rfl); (first | exact qv9); (exact gy0)) | (apply wlb (hd := rfl); exact qbx; (exact gy0); rfl) | refine wln ⟨_, rfl, rfl⟩ rfl ?_ | refine wlnu ⟨_, rfl, rfl⟩ rfl ?_ | refine wst rfl rfl rfl List.not_mem_nil rfl rfl rfl rfl rfl rfl ?_ | refine W_condT rfl ?_ | refine W_condF rfl ?_ | refine W_region ?_ | refine wN rfl ?_))
      (refine W_cond rfl (fun hc => ?_) (fun hc => ?_))
      · cases e1 : fulB t (wat l k)
        · rw [e1] at h1
          (repeat (first | refine WL_nil ?_ | (apply wl0 (hd := rfl); (first | exact qv9 | exact q_callA (h1) | exact QV_indexAddr rfl rfl rfl rfl (row_at hp)); (exact gy0)) | (apply wlb (hd := rfl); exact qbx; (exact gy0); rfl) | refine wln ⟨_, rfl, rfl⟩ rfl ?_ | refine wlnu ⟨_, rfl, rfl⟩ rfl ?_ | refine wst rfl rfl rfl List.not_mem_nil rfl rfl rfl rfl rfl rfl ?_ | refine W_condT rfl ?_ | refine W_condF rfl ?_ | refine W_region ?_ | refine wN rfl ?_))
          refine Exists.intro _ ⟨Weak.refl _, Exists.intro _ ⟨resA_tmp rfl rfl, ?_, rfl⟩⟩
          exact vb_eq (by simp [fulAll, all_at_false hp e1])
        · rw [e1] at h1
          (repeat (first | refine WL_nil ?_ | (apply wl0 (hd := rfl); (first | exact qv9 | exact q_callA (h1) | exact QV_indexAddr rfl rfl rfl rfl (row_at hp)); (exact gy0)) | (apply wlb (hd := rfl); exact qbx; (exact gy0); rfl) | refine wln ⟨_, rfl, rfl⟩ rfl ?_ | refine wlnu ⟨_, rfl, rfl⟩ rfl ?_ | refine wst rfl rfl rfl List.not_mem_nil rfl rfl rfl rfl rfl rfl ?_ | refine W_condT rfl ?_ | refine W_condF rfl ?_ | refine W_region ?_ | refine wN rfl ?_))
          refine Exists.intro _ (Exists.intro _ ⟨?_, ⟨k + 1, by omega, rfl, by rw [all_take_succ hp, hall, e1]; rfl, rfl⟩, wkA⟩)
          omega
      · simp at hc; omega
    · (repeat (first | refine WL_nil ?_ | (apply wl0 (hd := rfl); (first | exact qv9); (exact gy0)) | (apply wlb (hd := rfl); exact qbx; (exact gy0); rfl) | refine wln ⟨_, rfl, rfl⟩ rfl ?_ | refine wlnu ⟨_, rfl, rfl⟩ rfl ?_ | refine wst rfl rfl rfl List.not_mem_nil rfl rfl rfl rfl rfl rfl ?_ | refine W_condT rfl ?_ | refine W_condF rfl ?_ | refine W_region ?_ | refine wN rfl ?_))
      (refine W_cond rfl (fun hc => ?_) (fun hc => ?_))
      · simp at hc; omega
      · have hk' : k = l.length := by omega
        subst hk'
        rw [List.take_length] at hall
        (repeat (first | refine WL_nil ?_ | (apply wl0 (hd := rfl); (first | exact qv9); (exact gy0)) | (apply wlb (hd := rfl); exact qbx; (exact gy0); rfl) | refine wln ⟨_, rfl, rfl⟩ rfl ?_ | refine wlnu ⟨_, rfl, rfl⟩ rfl ?_ | refine wst rfl rfl rfl List.not_mem_nil rfl rfl rfl rfl rfl rfl ?_ | refine W_condT rfl ?_ | refine W_condF rfl ?_ | refine W_region ?_ | refine wN rfl ?_))
        refine Exists.intro _ ⟨Weak.refl _, Exists.intro _ ⟨resA_tmp rfl rfl, ?_, rfl⟩⟩
        exact vb_eq (by simp [fulAll, hall, hin])
end Go.Proofs.YtkieepmkcaipaaaGreat

namespace Go.Proofs.YtkieepmkcaipaaaGreat
open Go.Eng

theorem wk (n : Int) : ∃ k : Int, W64 n = n + 18446744073709551616 * k := by
  refine ⟨(W64 n - n) / 18446744073709551616, ?_⟩
  have : (W64 n - n) % 18446744073709551616 = 0 := by
    simp [W64, IntKind.wrap, IntKind.bits, IntKind.signed]
    try omega
  omega
theorem wsh (n k : Int) : W64 (n + 18446744073709551616 * k) = W64 n := by
  simp [W64, IntKind.wrap, IntKind.bits, IntKind.signed]
  try omega
theorem wcong {a b : Int} (k : Int) (h : a = b + 18446744073709551616 * k) : W64 a = W64 b := by rw [h, wsh]
theorem wmul_l (a b : Int) : W64 (W64 a * b) = W64 (a * b) := by
  obtain ⟨k, hk⟩ := wk a
  exact wcong (k * b) (by rw [hk]; grind)
theorem wmul_r (a b : Int) : W64 (a * W64 b) = W64 (a * b) := by rw [Int.mul_comm, wmul_l, Int.mul_comm]
theorem wadd_l (a b : Int) : W64 (W64 a + b) = W64 (a + b) := w64_add a b
theorem wadd_r (a b : Int) : W64 (a + W64 b) = W64 (a + b) := w64_add' a b
theorem wsub_l (a b : Int) : W64 (W64 a - b) = W64 (a - b) := by
  obtain ⟨k, hk⟩ := wk a
  exact wcong k (by rw [hk]; omega)
theorem wsub_r (a b : Int) : W64 (a - W64 b) = W64 (a - b) := by
  obtain ⟨k, hk⟩ := wk b
  exact wcong (-k) (by rw [hk]; omega)

structure V3 where
  x : Int
  y : Int
  z : Int
abbrev V3.av (v : V3) : AV := .agg [vi v.x, vi v.y, vi v.z]
def det3 (a b c : V3) : Int := a.x * (b.y * c.z - b.z * c.y) - a.y * (b.x * c.z - b.z * c.x) + a.z * (b.x * c.y - b.y * c.x)
def det3W (a b c : V3) : Int := W64 (W64 (W64 (a.x * W64 (W64 (b.y * c.z) - W64 (b.z * c.y))) - W64 (a.y * W64 (W64 (b.x * c.z) - W64 (b.z * c.x)))) + W64 (a.z * W64 (W64 (b.x * c.y) - W64 (b.y * c.x))))
theorem det3W_eq (a b c : V3) : det3W a b c = W64 (det3 a b c) := by
  unfold det3W det3
  simp only [wmul_r, wadd_l, wadd_r, wsub_l, wsub_r]
theorem det3_swap (a b c : V3) : det3 a b c = det3 ⟨a.x, b.x, c.x⟩ ⟨a.y, b.y, c.y⟩ ⟨a.z, b.z, c.z⟩ := by
  unfold det3; grind
theorem det3_bd {a b c : V3} {l m n : Int} (ax : -l ≤ a.x ∧ a.x ≤ l) (ay : -m ≤ a.y ∧ a.y ≤ m) (az : -n ≤ a.z ∧ a.z ≤ n) (bx : -l ≤ b.x ∧ b.x ≤ l) (bY : -m ≤ b.y ∧ b.y ≤ m) (bz : -n ≤ b.z ∧ b.z ≤ n) (cx : -l ≤ c.x ∧ c.x ≤ l) (cy : -m ≤ c.y ∧ c.y ≤ m) (cz : -n ≤ c.z ∧ c.z ≤ n) :
    -(6 * (l * m * n)) ≤ det3 a b c ∧ det3 a b c ≤ 6 * (l * m * n) := by
  have tri : ∀ {p q r L M N : Int}, (-L ≤ p ∧ p ≤ L) → (-M ≤ q ∧ q ≤ M) → (-N ≤ r ∧ r ≤ N) → -(L * M * N) ≤ p * q * r ∧ p * q * r ≤ L * M * N := fun h1 h2 h3 => mul_bd (mul_bd h1 h2) h3
  have h1 := tri ax bY cz
  have h2 := tri ax cy bz
  have h3 := tri bx ay cz
  have h4 := tri cx ay bz
  have h5 := tri bx cy az
  have h6 := tri cx bY az
  have e : det3 a b c = a.x * b.y * c.z - a.x * c.y * b.z - b.x * a.y * c.z + c.x * a.y * b.z + b.x * c.y * a.z - c.x * b.y * a.z := by unfold det3; grind
  rw [e]
  generalize l * m * n = B at *
  omega

abbrev abc (r : Rw) : V3 := ⟨r.a, r.b, r.c⟩
abbrev dbc (r : Rw) : V3 := ⟨r.d, r.b, r.c⟩
abbrev adc (r : Rw) : V3 := ⟨r.a, r.d, r.c⟩
abbrev abd (r : Rw) : V3 := ⟨r.a, r.b, r.d⟩
def detR (p q r : Rw) : Int := det3 (abc p) (abc q) (abc r)
def detH (p q r : Rw) : Int := det3 (dbc p) (dbc q) (dbc r)
def detV (p q r : Rw) : Int := det3 (adc p) (adc q) (adc r)
def detM (p q r : Rw) : Int := det3 (abd p) (abd q) (abd r)
section
variable {p q r : Rw} (hp : rowB p = true) (hq : rowB q = true) (hr : rowB r = true)
include hp hq hr
theorem detR_bd : -60000 ≤ detR p q r ∧ detR p q r ≤ 60000 := by
  rw [rowB_true] at hp hq hr
  have := det3_bd (a := abc p) (b := abc q) (c := abc r) (l := 100) (m := 100) (n := 1) (by simp; omega) (by simp; omega) (by simp; omega) (by simp; omega) (by simp; omega) (by simp; omega) (by simp; omega) (by simp; omega) (by simp; omega)
  unfold detR; omega
theorem detH_bd : -600000000000 ≤ detH p q r ∧ detH p q r ≤ 600000000000 := by
  rw [rowB_true] at hp hq hr
  have := det3_bd (a := dbc p) (b := dbc q) (c := dbc r) (l := 1000000000) (m := 100) (n := 1) (by simp; omega) (by simp; omega) (by simp; omega) (by simp; omega) (by simp; omega) (by simp; omega) (by simp; omega) (by simp; omega) (by simp; omega)
  unfold detH; omega
theorem detV_bd : -600000000000 ≤ detV p q r ∧ detV p q r ≤ 600000000000 := by
  rw [rowB_true] at hp hq hr
  have := det3_bd (a := adc p) (b := adc q) (c := adc r) (l := 100) (m := 1000000000) (n := 1) (by simp; omega) (by simp; omega) (by simp; omega) (by simp; omega) (by simp; omega) (by simp; omega) (by simp; omega) (by simp; omega) (by simp; omega)
  unfold detV; omega
theorem detM_bd : -60000000000000 ≤ detM p q r ∧ detM p q r ≤ 60000000000000 := by
  rw [rowB_true] at hp hq hr
  have := det3_bd (a := abd p) (b := abd q) (c := abd r) (l := 100) (m := 100) (n := 1000000000) (by simp; omega) (by simp; omega) (by simp; omega) (by simp; omega) (by simp; omega) (by simp; omega) (by simp; omega) (by simp; omega) (by simp; omega)
  unfold detM; omega
end

def farB (n : Int) : Bool := inR n (-4000000000000000000) 4000000000000000000
theorem farB_true {n : Int} : farB n = true ↔ -4000000000000000000 ≤ n ∧ n ≤ 4000000000000000000 := inR_true
def mkG (t : Th) : Int := if t.d < 0 then -(gcd4 t : Int) else gcd4 t
def mkD (t : Th) : Th := ⟨t.h.tdiv (mkG t), t.v.tdiv (mkG t), t.m.tdiv (mkG t), t.d.tdiv (mkG t)⟩
def farT (t : Th) : Bool := !decide (t.d = 0) && (farB t.h && (farB t.v && (farB t.m && farB t.d)))
def mkT (t : Th) : Option Th := bif farT t && thOk (mkD t) then some (mkD t) else none
abbrev thZ : Th := ⟨0, 0, 0, 0⟩
abbrev thO (o : Option Th) : AV := .tup [(o.getD thZ).av, vb o.isSome]
def det0 (p q r : Rw) : Int := bif rowB p && (rowB q && rowB r) then detR p q r else 0
def slv (p q r : Rw) : Option Th := bif decide (det0 p q r = 0) then none else mkT ⟨detH p q r, detV p q r, detM p q r, detR p q r⟩
theorem mkT_ok {t u : Th} (h : mkT t = some u) : thOk u = true := by
  unfold mkT at h
  cases e : farT t && thOk (mkD t)
  · rw [e] at h; cases h
  · rw [e] at h
    simp only [Bool.and_eq_true, cond_true, Option.some.injEq] at e h
    rw [← h]; exact e.2
theorem slv_ok {p q r : Rw} {t : Th} (h : slv p q r = some t) : thOk t = true := by
  unfold slv at h
  cases e : decide (det0 p q r = 0)
  · rw [e] at h; exact mkT_ok h
  · rw [e] at h; cases h

def thEq (t u : Th) : Bool := t.h == u.h && (t.v == u.v && (t.m == u.m && (t.d == u.d && true)))
theorem thEq_iff {t u : Th} : thEq t u = true ↔ t = u := by
  cases t; cases u
  simp [thEq]
def hasT (l : List Th) (t : Th) : Bool := l.any fun u => thEq u t
theorem hasT_iff {l : List Th} {t : Th} : hasT l t = true ↔ t ∈ l := by
  simp only [hasT, List.any_eq_true, thEq_iff]
  constructor
  · rintro ⟨u, h, rfl⟩; exact h
  · intro h; exact ⟨t, h, rfl⟩
theorem hasT_at {l : List Th} {i : Nat} {u t : Th} (h : l[i]? = some u) (e : thEq u t = true) : hasT l t = true := List.any_eq_true.2 ⟨u, List.mem_of_getElem? h, e⟩
theorem hasT_take {l : List Th} {i : Nat} {u t : Th} (h : l[i]? = some u) : hasT (l.take (i + 1)) t = (hasT (l.take i) t || thEq u t) := by
  unfold hasT
  rw [List.take_add_one, h]
  simp
def tat (l : List Th) (i : Nat) : Th := l.getD i ⟨0, 0, 0, 0⟩
theorem tat_lt {l : List Th} {i : Nat} (h : i < l.length) : l[i]? = some (tat l i) := by
  simp [tat, h]
abbrev slTh (l : List Th) : AV := .sl 4 (l.map Th.row)
theorem th_cells (l : List Th) : ∀ x ∈ (l.map Th.row).flatten, isCell x = true := by
  intro x hx
  obtain ⟨r, hr, hx⟩ := List.mem_flatten.1 hx
  obtain ⟨p, _, rfl⟩ := List.mem_map.1 hr
  simp only [Th.row, List.mem_cons, List.not_mem_nil, or_false] at hx
  rcases hx with rfl | rfl | rfl | rfl <;> rfl
theorem th_lens (l : List Th) : ∀ r ∈ l.map Th.row, r.length = 4 := by
  intro r hr
  obtain ⟨p, _, rfl⟩ := List.mem_map.1 hr
  rfl
theorem th_app {l : List Th} {t : Th} : l.map Th.row ++ [t.row] = (l ++ [t]).map Th.row := by simp
theorem th_eqv (t u : Th) : eqvO [true, true, true, true] t.row u.row = some (thEq t u) := rfl
def holB (t : Th) (r : Rw) : Bool := decide (lhs t r ≤ rhs t r)
def addO (l : List Rw) (out : List Th) : Option Th → List Th
  | none => out
  | some t => bif hasT out t then out else bif l.all (holB t) then out ++ [t] else out
def slvA (l : List Rw) (i k m : Nat) : Option Th := slv (wat l i) (wat l k) (wat l m)
def cM (l : List Rw) (i k : Nat) (out : List Th) : Nat → List Th
  | 0 => out
  | n + 1 => addO l (cM l i k out n) (slvA l i k (k + 1 + n))
def cK (l : List Rw) (i : Nat) (out : List Th) : Nat → List Th
  | 0 => out
  | n + 1 => cM l i (i + 1 + n) (cK l i out n) (l.length - (i + 1 + n + 1))
def cI (l : List Rw) : Nat → List Th
  | 0 => []
  | n + 1 => cK l n (cI l n) (l.length - (n + 1))
def corL (l : List Rw) : List Th := bif l.all rowB && inR l.length 3 20 then cI l l.length else []
def CorP (l : List Rw) (t : Th) : Prop := thOk t = true ∧ l.all (holB t) = true
theorem addO_P {l : List Rw} {out : List Th} {o : Option Th} (h : ∀ t ∈ out, CorP l t) (ho : ∀ t, o = some t → thOk t = true) : ∀ t ∈ addO l out o, CorP l t := by
  cases o with
  | none => exact h
  | some u =>
    intro t ht
    unfold addO at ht
    simp only at ht
    cases e1 : hasT out u
    · rw [e1] at ht
      cases e2 : l.all (holB u)
      · rw [e2] at ht; exact h t ht
      · rw [e2] at ht
        simp only [cond_false, cond_true, List.mem_append, List.mem_singleton] at ht
        rcases ht with ht | rfl
        · exact h t ht
        · exact ⟨ho _ rfl, e2⟩
    · rw [e1] at ht; exact h t ht
theorem cM_P {l : List Rw} {i k : Nat} {out : List Th} (h : ∀ t ∈ out, CorP l t) : ∀ n, ∀ t ∈ cM l i k out n, CorP l t
  | 0 => h
  | n + 1 => addO_P (cM_P h n) fun _ e => slv_ok e
theorem cK_P {l : List Rw} {i : Nat} {out : List Th} (h : ∀ t ∈ out, CorP l t) : ∀ n, ∀ t ∈ cK l i out n, CorP l t
  | 0 => h
  | n + 1 => cM_P (cK_P h n) _
theorem cI_P {l : List Rw} : ∀ n, ∀ t ∈ cI l n, CorP l t
  | 0 => by simp [cI]
  | n + 1 => cK_P (cI_P n) _
theorem corL_P {l : List Rw} {t : Th} (h : t ∈ corL l) : CorP l t ∧ l.all rowB = true ∧ 3 ≤ l.length ∧ l.length ≤ 20 := by
  unfold corL at h
  cases e : l.all rowB && inR l.length 3 20
  · rw [e] at h; simp at h
  · rw [e] at h
    simp only [Bool.and_eq_true, inR_true] at e
    exact ⟨cI_P _ t h, e.1, by omega, by omega⟩
theorem addO_len (l : List Rw) (out : List Th) (o : Option Th) : out.length ≤ (addO l out o).length ∧ (addO l out o).length ≤ out.length + 1 := by
  cases o with
  | none => simp [addO]
  | some u =>
    unfold addO
    simp only
    cases hasT out u <;> cases l.all (holB u) <;> simp
theorem cM_len (l : List Rw) (i k : Nat) (out : List Th) : ∀ n, (cM l i k out n).length ≤ out.length + n
  | 0 => by simp [cM]
  | n + 1 => by
    have h1 := cM_len l i k out n
    have h2 := (addO_len l (cM l i k out n) (slvA l i k (k + 1 + n))).2
    simp only [cM]; omega
theorem cK_len (l : List Rw) (hl : l.length ≤ 20) (i : Nat) (out : List Th) : ∀ n, (cK l i out n).length ≤ out.length + 20 * n
  | 0 => by simp [cK]
  | n + 1 => by
    have h1 := cK_len l hl i out n
    have h2 := cM_len l i (i + 1 + n) (cK l i out n) (l.length - (i + 1 + n + 1))
    simp only [cK]; omega
theorem cI_len (l : List Rw) (hl : l.length ≤ 20) : ∀ n, (cI l n).length ≤ 400 * n
  | 0 => by simp [cI]
  | n + 1 => by
    have h1 := cI_len l hl n
    have h2 := cK_len l hl n (cI l n) (l.length - (n + 1))
    simp only [cI]; omega
end Go.Proofs.YtkieepmkcaipaaaGreat

namespace Go.Proofs.YtkieepmkcaipaaaGreat
open Go.Eng
instance ty9 : TyOk Tryz.prog 9 false 1 := ⟨fun _ => by kernel_rfl, fun _ => by kernel_rfl⟩
instance ze9 : ZeroOk Tryz.prog 9 (.string ⟨#[]⟩) := ⟨fun _ => by kernel_rfl⟩
instance ty185 : TyOk Tryz.prog 185 true 3 := ⟨fun _ => by kernel_rfl, fun _ => by kernel_rfl⟩
instance ze185 : ZeroOk Tryz.prog 185 (.agg #[.int .i64 0, .int .i64 0, .int .i64 0]) := ⟨fun _ => by kernel_rfl⟩
instance zc9 : ZcOk Tryz.prog 9 [.v (.string ⟨#[]⟩)] := ⟨_, ze9, rfl⟩
instance zc185 : ZcOk Tryz.prog 185 [.v (.int .i64 0), .v (.int .i64 0), .v (.int .i64 0)] := ⟨_, ze185, rfl⟩
instance ar185 : ArOk Tryz.prog 185 3 3 1 := ⟨Tryz.underlying185, by kernel_rfl⟩
end Go.Proofs.YtkieepmkcaipaaaGreat

namespace Go.Proofs.YtkieepmkcaipaaaGreat
open Go.Eng
set_option maxRecDepth 100000
attribute [local irreducible] QV TV WL HW W CallOk Weak

theorem l11Det_ok (a b c : V3) : CallOk Tryz.prog 166 [a.av, b.av, c.av] (fun r => r = vi (det3W a b c)) := by
  refine callOk Tryz.func166 Tryz.ntmps166 Tryz.results166 rfl rfl rfl fun B w0 M I0 V0 => ?_
  (repeat (first | refine WL_nil ?_ | (apply wl0 (hd := rfl); (first | exact qv9 | exact q_indexAr 0 rfl rfl rfl rfl | exact q_indexAr 1 rfl rfl rfl rfl | exact q_indexAr 2 rfl rfl rfl rfl); (exact gy0)) | (apply wlb (hd := rfl); exact qbx; (exact gy0); rfl) | refine wln ⟨_, rfl, rfl⟩ rfl ?_ | refine wlnu ⟨_, rfl, rfl⟩ rfl ?_ | refine wst rfl rfl rfl List.not_mem_nil rfl rfl rfl rfl rfl rfl ?_ | refine W_condT rfl ?_ | refine W_condF rfl ?_ | refine W_region ?_ | refine wN rfl ?_))
  refine Exists.intro _ ⟨Weak.refl _, Exists.intro _ ⟨resA_tmp rfl rfl, ?_, rfl⟩⟩
  rfl
theorem l11Line_ok (r : Rw) : CallOk Tryz.prog 200 [r.av] (fun x => x = (abc r).av) := by
  refine callOk Tryz.func200 Tryz.ntmps200 Tryz.results200 rfl rfl rfl fun B w0 M I0 V0 => ?_
  (repeat (first | refine WL_nil ?_ | (apply wl0 (hd := rfl); (first | exact qv9 | exact q_buildAr rfl); (exact gy0)) | (apply wlb (hd := rfl); exact qbx; (exact gy0); rfl) | refine wln ⟨_, rfl, rfl⟩ rfl ?_ | refine wlnu ⟨_, rfl, rfl⟩ rfl ?_ | refine wst rfl rfl rfl List.not_mem_nil rfl rfl rfl rfl rfl rfl ?_ | refine W_condT rfl ?_ | refine W_condF rfl ?_ | refine W_region ?_ | refine wN rfl ?_))
  refine Exists.intro _ ⟨Weak.refl _, Exists.intro _ ⟨resA_cell rfl rfl rfl rfl, ?_, rfl⟩⟩
  rfl
theorem detOfRows_ok (p q r : Rw) : CallOk Tryz.prog 165 [p.av, q.av, r.av] (fun x => x = vi (det0 p q r)) := by
  have h1 := rowOk_ok p
  have h2 := rowOk_ok q
  have h3 := rowOk_ok r
  have d := l11Det_ok (abc p) (abc q) (abc r)
  rw [det3W_eq] at d
  have d1 := l11Line_ok p
  have d2 := l11Line_ok q
  have d3 := l11Line_ok r
  refine callOk Tryz.func165 Tryz.ntmps165 Tryz.results165 rfl rfl rfl fun B w0 M I0 V0 => ?_
  cases e1 : rowB p
  · rw [e1] at h1
    (repeat (first | refine WL_nil ?_ | (apply wl0 (hd := rfl); (first | exact qv9 | exact q_callA (h1)); (exact gy0)) | (apply wlb (hd := rfl); exact qbx; (exact gy0); rfl) | refine wln ⟨_, rfl, rfl⟩ rfl ?_ | refine wlnu ⟨_, rfl, rfl⟩ rfl ?_ | refine wst rfl rfl rfl List.not_mem_nil rfl rfl rfl rfl rfl rfl ?_ | refine W_condT rfl ?_ | refine W_condF rfl ?_ | refine W_region ?_ | refine wN rfl ?_))
    refine Exists.intro _ ⟨Weak.refl _, Exists.intro _ ⟨resA_tmp rfl rfl, ?_, rfl⟩⟩
    exact vi_eq (by simp [det0, e1])
  · rw [e1] at h1
    cases e2 : rowB q
    · rw [e2] at h2
      (repeat (first | refine WL_nil ?_ | (apply wl0 (hd := rfl); (first | exact qv9 | exact q_callA (h1) | exact q_callA (h2)); (exact gy0)) | (apply wlb (hd := rfl); exact qbx; (exact gy0); rfl) | refine wln ⟨_, rfl, rfl⟩ rfl ?_ | refine wlnu ⟨_, rfl, rfl⟩ rfl ?_ | refine wst rfl rfl rfl List.not_mem_nil rfl rfl rfl rfl rfl rfl ?_ | refine W_condT rfl ?_ | refine W_condF rfl ?_ | refine W_region ?_ | refine wN rfl ?_))
      refine Exists.intro _ ⟨Weak.refl _, Exists.intro _ ⟨resA_tmp rfl rfl, ?_, rfl⟩⟩
      exact vi_eq (by simp [det0, e2])
    · rw [e2] at h2
      cases e3 : rowB r
      · rw [e3] at h3
        (repeat (first | refine WL_nil ?_ | (apply wl0 (hd := rfl); (first | exact qv9 | exact q_callA (h1) | exact q_callA (h2) | exact q_callA (h3)); (exact gy0)) | (apply wlb (hd := rfl); exact qbx; (exact gy0); rfl) | refine wln ⟨_, rfl, rfl⟩ rfl ?_ | refine wlnu ⟨_, rfl, rfl⟩ rfl ?_ | refine wst rfl rfl rfl List.not_mem_nil rfl rfl rfl rfl rfl rfl ?_ | refine W_condT rfl ?_ | refine W_condF rfl ?_ | refine W_region ?_ | refine wN rfl ?_))
        refine Exists.intro _ ⟨Weak.refl _, Exists.intro _ ⟨resA_tmp rfl rfl, ?_, rfl⟩⟩
        exact vi_eq (by simp [det0, e3])
      · rw [e3] at h3
        have hb := detR_bd e1 e2 e3
        (repeat (first | refine WL_nil ?_ | (apply wl0 (hd := rfl); (first | exact qv9 | exact q_callA (h1) | exact q_callA (h2) | exact q_callA (h3)); (exact gy0)) | (apply wlb (hd := rfl); exact qbx; (exact gy0); rfl) | refine wln ⟨_, rfl, rfl⟩ rfl ?_ | refine wlnu ⟨_, rfl, rfl⟩ rfl ?_ | refine wst rfl rfl rfl List.not_mem_nil rfl rfl rfl rfl rfl rfl ?_ | refine W_condT rfl ?_ | refine W_condF rfl ?_ | refine W_region ?_ | refine wN rfl ?_))
        refine wdraw 7 (by kernel_rfl) (by kernel_rfl) (by kernel_rfl) rfl ?_
        (repeat (first | refine HW_nil ?_ | (apply hw0 (hd := rfl); (first | exact qv9 | exact q_callA (d1) | exact q_callA (d2) | exact q_callA (d3) | exact q_callA (d)); (exact gy0)) | (apply hwb (hd := rfl); exact qbx; (exact gy0); rfl) | refine hwn ⟨_, rfl, rfl⟩ rfl ?_ | refine hwnu ⟨_, rfl, rfl⟩ rfl ?_))
        (repeat (first | refine WL_nil ?_ | (apply wl0 (hd := rfl); (first | exact qv9); (exact gy0)) | (apply wlb (hd := rfl); exact qbx; (exact gy0); rfl) | refine wln ⟨_, rfl, rfl⟩ rfl ?_ | refine wlnu ⟨_, rfl, rfl⟩ rfl ?_ | refine wst rfl rfl rfl List.not_mem_nil rfl rfl rfl rfl rfl rfl ?_ | refine W_condT rfl ?_ | refine W_condF rfl ?_ | refine W_region ?_ | refine wN rfl ?_))
        refine Exists.intro _ ⟨Weak.refl _, Exists.intro _ ⟨resA_tmp rfl rfl, ?_, rfl⟩⟩
        refine vi_eq ?_
        have e4 : det3 (abc p) (abc q) (abc r) = detR p q r := rfl
        rw [e4, w64 (by omega)]
        simp [det0, e1, e2, e3]
end Go.Proofs.YtkieepmkcaipaaaGreat

namespace Go.Proofs.YtkieepmkcaipaaaGreat
open Go.Eng
set_option maxRecDepth 100000
attribute [local irreducible] QV TV WL HW W CallOk Weak

theorem gcd4_cast (t : Th) : (Int.gcd (Int.gcd t.h t.v) (Int.gcd t.m t.d) : Nat) = gcd4 t := rfl
theorem gcd4_pos {t : Th} (h : t.d ≠ 0) : 0 < gcd4 t := by
  unfold gcd4
  exact Nat.gcd_pos_of_pos_right _ (Nat.gcd_pos_of_pos_right _ (by omega))
theorem gcd4_le {t : Th} {m : Nat} (h1 : t.h.natAbs ≤ m) (h2 : t.v.natAbs ≤ m) (h3 : t.m.natAbs ≤ m) (h4 : t.d.natAbs ≤ m) : gcd4 t ≤ m := gcd_le (a := Int.gcd t.h t.v) (b := Int.gcd t.m t.d) (by simpa using gcd_le h1 h2) (by simpa using gcd_le h3 h4)
theorem tdiv_bd {a g : Int} {m : Int} (ha : -m ≤ a ∧ a ≤ m) : -m ≤ a.tdiv g ∧ a.tdiv g ≤ m := by
  have h1 : (a.tdiv g).natAbs ≤ a.natAbs := by
    rw [Int.natAbs_tdiv]; exact Nat.div_le_self _ _
  omega
theorem quo64 {a g : Int} (ha : -4000000000000000000 ≤ a ∧ a ≤ 4000000000000000000) : adv .quo .i64 a g = some (.int .i64 (a.tdiv g)) := by
  have := tdiv_bd (g := g) ha
  simp only [adv]
  rw [i64w (by omega)]
theorem mkT_far {t : Th} (h : farT t = false) : mkT t = none := by simp [mkT, h]
theorem farT_true {t : Th} (h : farT t = true) : t.d ≠ 0 ∧ (-4000000000000000000 ≤ t.h ∧ t.h ≤ 4000000000000000000) ∧ (-4000000000000000000 ≤ t.v ∧ t.v ≤ 4000000000000000000) ∧ (-4000000000000000000 ≤ t.m ∧ t.m ≤ 4000000000000000000) ∧ -4000000000000000000 ≤ t.d ∧ t.d ≤ 4000000000000000000 := by
  simpa [farT, farB, inR_true] using h
theorem makeThrust_negY (t : Th) (hfar : farT t = true) (hn : t.d < 0) (e5 : thOk (mkD t) = true) : CallOk Tryz.prog 147 [vi t.h, vi t.v, vi t.m, vi t.d] (fun r => r = thO (some (mkD t))) := by
  obtain ⟨z, b1, b2, b3, b4⟩ := farT_true hfar
  have h1 := l01In_ok t.h (-4000000000000000000) 4000000000000000000
  have h2 := l01In_ok t.v (-4000000000000000000) 4000000000000000000
  have h3 := l01In_ok t.m (-4000000000000000000) 4000000000000000000
  have h4 := l01In_ok t.d (-4000000000000000000) 4000000000000000000
  rw [inR_true.2 b1] at h1
  rw [inR_true.2 b2] at h2
  rw [inR_true.2 b3] at h3
  rw [inR_true.2 b4] at h4
  have c0 : abin .eql .i64 t.d 0 = some (.bool false) := by simp [abin, z]
  have g1 := l08Gcd_ok t.h t.v (by omega) (by omega)
  have g2 := l08Gcd_ok t.m t.d (by omega) (by omega)
  have l1 := gcd_le (a := t.h) (b := t.v) (m := 4000000000000000000) (by omega) (by omega)
  have l2 := gcd_le (a := t.m) (b := t.d) (m := 4000000000000000000) (by omega) (by omega)
  have g3 := l08Gcd_ok (Int.gcd t.h t.v) (Int.gcd t.m t.d) (by omega) (by omega)
  rw [gcd4_cast] at g3
  have hp := gcd4_pos z
  have hle : gcd4 t ≤ 4000000000000000000 := gcd4_le (by omega) (by omega) (by omega) (by omega)
  have ht := thrustOk_ok (mkD t)
  have c1 : abin .lss .i64 t.d 0 = some (.bool true) := by simp [abin]; omega
  have hG : mkG t = -(gcd4 t : Int) := by simp [mkG, hn]
  have hg0 : -(gcd4 t : Int) ≠ 0 := by omega
  have q1 := quo64 (g := -(gcd4 t : Int)) b1
  have q2 := quo64 (g := -(gcd4 t : Int)) b2
  have q3 := quo64 (g := -(gcd4 t : Int)) b3
  have q4 := quo64 (g := -(gcd4 t : Int)) b4
  have hD : mkD t = ⟨t.h.tdiv (-(gcd4 t : Int)), t.v.tdiv (-(gcd4 t : Int)), t.m.tdiv (-(gcd4 t : Int)), t.d.tdiv (-(gcd4 t : Int))⟩ := by simp only [mkD, hG]
  rw [e5, hD] at ht
  refine callOk Tryz.func147 Tryz.ntmps147 Tryz.results147 rfl rfl rfl fun B w0 M I0 V0 => ?_
  (repeat (first | refine WL_nil ?_ | (apply wl0 (hd := rfl); (first | exact QV_bin rfl rfl c0 | exact QV_bin rfl rfl c1 | exact qv9 | exact q_callA (h1) | exact q_callA (h2) | exact q_callA (h3) | exact q_callA (h4) | exact q_callA (g1) | exact q_callA (g2) | exact q_callA (g3)); (exact gy0)) | (apply wlb (hd := rfl); exact qbx; (exact gy0); rfl) | refine wln ⟨_, rfl, rfl⟩ rfl ?_ | refine wlnu ⟨_, rfl, rfl⟩ rfl ?_ | refine wst rfl rfl rfl List.not_mem_nil rfl rfl rfl rfl rfl rfl ?_ | refine W_condT rfl ?_ | refine W_condF rfl ?_ | refine W_region ?_ | refine wN rfl ?_))
  refine wdraw 14 (by kernel_rfl) (by kernel_rfl) (by kernel_rfl) rfl ?_
  (repeat (first | refine HW_nil ?_ | (apply hw0 (hd := rfl); (first | exact qv9 | exact QV_div rfl rfl hg0 q1 | exact QV_div rfl rfl hg0 q2 | exact QV_div rfl rfl hg0 q3 | exact QV_div rfl rfl hg0 q4); (exact gy0)) | (apply hwb (hd := rfl); exact qbx; (exact gy0); rfl) | refine hwn ⟨_, rfl, rfl⟩ rfl ?_ | refine hwnu ⟨_, rfl, rfl⟩ rfl ?_))
  (repeat (first | refine WL_nil ?_ | (apply wl0 (hd := rfl); (first | exact qv9 | exact q_callA (ht)); (exact gy0)) | (apply wlb (hd := rfl); exact qbx; (exact gy0); rfl) | refine wln ⟨_, rfl, rfl⟩ rfl ?_ | refine wlnu ⟨_, rfl, rfl⟩ rfl ?_ | refine wst rfl rfl rfl List.not_mem_nil rfl rfl rfl rfl rfl rfl ?_ | refine W_condT rfl ?_ | refine W_condF rfl ?_ | refine W_region ?_ | refine wN rfl ?_))
  refine Exists.intro _ ⟨Weak.refl _, Exists.intro _ ⟨resA_cell rfl rfl rfl (resA_tmp rfl rfl), ?_, rfl⟩⟩
  rw [hD]
  rfl
theorem makeThrust_negN (t : Th) (hfar : farT t = true) (hn : t.d < 0) (e5 : thOk (mkD t) = false) : CallOk Tryz.prog 147 [vi t.h, vi t.v, vi t.m, vi t.d] (fun r => r = thO (none)) := by
  obtain ⟨z, b1, b2, b3, b4⟩ := farT_true hfar
  have h1 := l01In_ok t.h (-4000000000000000000) 4000000000000000000
  have h2 := l01In_ok t.v (-4000000000000000000) 4000000000000000000
  have h3 := l01In_ok t.m (-4000000000000000000) 4000000000000000000
  have h4 := l01In_ok t.d (-4000000000000000000) 4000000000000000000
  rw [inR_true.2 b1] at h1
  rw [inR_true.2 b2] at h2
  rw [inR_true.2 b3] at h3
  rw [inR_true.2 b4] at h4
  have c0 : abin .eql .i64 t.d 0 = some (.bool false) := by simp [abin, z]
  have g1 := l08Gcd_ok t.h t.v (by omega) (by omega)
  have g2 := l08Gcd_ok t.m t.d (by omega) (by omega)
  have l1 := gcd_le (a := t.h) (b := t.v) (m := 4000000000000000000) (by omega) (by omega)
  have l2 := gcd_le (a := t.m) (b := t.d) (m := 4000000000000000000) (by omega) (by omega)
  have g3 := l08Gcd_ok (Int.gcd t.h t.v) (Int.gcd t.m t.d) (by omega) (by omega)
  rw [gcd4_cast] at g3
  have hp := gcd4_pos z
  have hle : gcd4 t ≤ 4000000000000000000 := gcd4_le (by omega) (by omega) (by omega) (by omega)
  have ht := thrustOk_ok (mkD t)
  have c1 : abin .lss .i64 t.d 0 = some (.bool true) := by simp [abin]; omega
  have hG : mkG t = -(gcd4 t : Int) := by simp [mkG, hn]
  have hg0 : -(gcd4 t : Int) ≠ 0 := by omega
  have q1 := quo64 (g := -(gcd4 t : Int)) b1
  have q2 := quo64 (g := -(gcd4 t : Int)) b2
  have q3 := quo64 (g := -(gcd4 t : Int)) b3
  have q4 := quo64 (g := -(gcd4 t : Int)) b4
  have hD : mkD t = ⟨t.h.tdiv (-(gcd4 t : Int)), t.v.tdiv (-(gcd4 t : Int)), t.m.tdiv (-(gcd4 t : Int)), t.d.tdiv (-(gcd4 t : Int))⟩ := by simp only [mkD, hG]
  rw [e5, hD] at ht
  refine callOk Tryz.func147 Tryz.ntmps147 Tryz.results147 rfl rfl rfl fun B w0 M I0 V0 => ?_
  (repeat (first | refine WL_nil ?_ | (apply wl0 (hd := rfl); (first | exact QV_bin rfl rfl c0 | exact QV_bin rfl rfl c1 | exact qv9 | exact q_callA (h1) | exact q_callA (h2) | exact q_callA (h3) | exact q_callA (h4) | exact q_callA (g1) | exact q_callA (g2) | exact q_callA (g3)); (exact gy0)) | (apply wlb (hd := rfl); exact qbx; (exact gy0); rfl) | refine wln ⟨_, rfl, rfl⟩ rfl ?_ | refine wlnu ⟨_, rfl, rfl⟩ rfl ?_ | refine wst rfl rfl rfl List.not_mem_nil rfl rfl rfl rfl rfl rfl ?_ | refine W_condT rfl ?_ | refine W_condF rfl ?_ | refine W_region ?_ | refine wN rfl ?_))
  refine wdraw 14 (by kernel_rfl) (by kernel_rfl) (by kernel_rfl) rfl ?_
  (repeat (first | refine HW_nil ?_ | (apply hw0 (hd := rfl); (first | exact qv9 | exact QV_div rfl rfl hg0 q1 | exact QV_div rfl rfl hg0 q2 | exact QV_div rfl rfl hg0 q3 | exact QV_div rfl rfl hg0 q4); (exact gy0)) | (apply hwb (hd := rfl); exact qbx; (exact gy0); rfl) | refine hwn ⟨_, rfl, rfl⟩ rfl ?_ | refine hwnu ⟨_, rfl, rfl⟩ rfl ?_))
  (repeat (first | refine WL_nil ?_ | (apply wl0 (hd := rfl); (first | exact qv9 | exact q_callA (ht)); (exact gy0)) | (apply wlb (hd := rfl); exact qbx; (exact gy0); rfl) | refine wln ⟨_, rfl, rfl⟩ rfl ?_ | refine wlnu ⟨_, rfl, rfl⟩ rfl ?_ | refine wst rfl rfl rfl List.not_mem_nil rfl rfl rfl rfl rfl rfl ?_ | refine W_condT rfl ?_ | refine W_condF rfl ?_ | refine W_region ?_ | refine wN rfl ?_))
  refine Exists.intro _ ⟨Weak.refl _, Exists.intro _ ⟨resA_cell rfl rfl rfl (resA_tmp rfl rfl), ?_, rfl⟩⟩
  rfl
theorem makeThrust_posY (t : Th) (hfar : farT t = true) (hn : ¬ t.d < 0) (e5 : thOk (mkD t) = true) : CallOk Tryz.prog 147 [vi t.h, vi t.v, vi t.m, vi t.d] (fun r => r = thO (some (mkD t))) := by
  obtain ⟨z, b1, b2, b3, b4⟩ := farT_true hfar
  have h1 := l01In_ok t.h (-4000000000000000000) 4000000000000000000
  have h2 := l01In_ok t.v (-4000000000000000000) 4000000000000000000
  have h3 := l01In_ok t.m (-4000000000000000000) 4000000000000000000
  have h4 := l01In_ok t.d (-4000000000000000000) 4000000000000000000
  rw [inR_true.2 b1] at h1
  rw [inR_true.2 b2] at h2
  rw [inR_true.2 b3] at h3
  rw [inR_true.2 b4] at h4
  have c0 : abin .eql .i64 t.d 0 = some (.bool false) := by simp [abin, z]
  have g1 := l08Gcd_ok t.h t.v (by omega) (by omega)
  have g2 := l08Gcd_ok t.m t.d (by omega) (by omega)
  have l1 := gcd_le (a := t.h) (b := t.v) (m := 4000000000000000000) (by omega) (by omega)
  have l2 := gcd_le (a := t.m) (b := t.d) (m := 4000000000000000000) (by omega) (by omega)
  have g3 := l08Gcd_ok (Int.gcd t.h t.v) (Int.gcd t.m t.d) (by omega) (by omega)
  rw [gcd4_cast] at g3
  have hp := gcd4_pos z
  have hle : gcd4 t ≤ 4000000000000000000 := gcd4_le (by omega) (by omega) (by omega) (by omega)
  have ht := thrustOk_ok (mkD t)
  have c1 : abin .lss .i64 t.d 0 = some (.bool false) := by simp [abin]; omega
  have hG : mkG t = (gcd4 t : Int) := by simp [mkG, hn]
  have hg0 : (gcd4 t : Int) ≠ 0 := by omega
  have q1 := quo64 (g := (gcd4 t : Int)) b1
  have q2 := quo64 (g := (gcd4 t : Int)) b2
  have q3 := quo64 (g := (gcd4 t : Int)) b3
  have q4 := quo64 (g := (gcd4 t : Int)) b4
  have hD : mkD t = ⟨t.h.tdiv ((gcd4 t : Int)), t.v.tdiv ((gcd4 t : Int)), t.m.tdiv ((gcd4 t : Int)), t.d.tdiv ((gcd4 t : Int))⟩ := by simp only [mkD, hG]
  rw [e5, hD] at ht
  refine callOk Tryz.func147 Tryz.ntmps147 Tryz.results147 rfl rfl rfl fun B w0 M I0 V0 => ?_
  (repeat (first | refine WL_nil ?_ | (apply wl0 (hd := rfl); (first | exact QV_bin rfl rfl c0 | exact QV_bin rfl rfl c1 | exact qv9 | exact q_callA (h1) | exact q_callA (h2) | exact q_callA (h3) | exact q_callA (h4) | exact q_callA (g1) | exact q_callA (g2) | exact q_callA (g3)); (exact gy0)) | (apply wlb (hd := rfl); exact qbx; (exact gy0); rfl) | refine wln ⟨_, rfl, rfl⟩ rfl ?_ | refine wlnu ⟨_, rfl, rfl⟩ rfl ?_ | refine wst rfl rfl rfl List.not_mem_nil rfl rfl rfl rfl rfl rfl ?_ | refine W_condT rfl ?_ | refine W_condF rfl ?_ | refine W_region ?_ | refine wN rfl ?_))
  refine wdraw 14 (by kernel_rfl) (by kernel_rfl) (by kernel_rfl) rfl ?_
  (repeat (first | refine HW_nil ?_ | (apply hw0 (hd := rfl); (first | exact qv9 | exact QV_div rfl rfl hg0 q1 | exact QV_div rfl rfl hg0 q2 | exact QV_div rfl rfl hg0 q3 | exact QV_div rfl rfl hg0 q4); (exact gy0)) | (apply hwb (hd := rfl); exact qbx; (exact gy0); rfl) | refine hwn ⟨_, rfl, rfl⟩ rfl ?_ | refine hwnu ⟨_, rfl, rfl⟩ rfl ?_))
  (repeat (first | refine WL_nil ?_ | (apply wl0 (hd := rfl); (first | exact qv9 | exact q_callA (ht)); (exact gy0)) | (apply wlb (hd := rfl); exact qbx; (exact gy0); rfl) | refine wln ⟨_, rfl, rfl⟩ rfl ?_ | refine wlnu ⟨_, rfl, rfl⟩ rfl ?_ | refine wst rfl rfl rfl List.not_mem_nil rfl rfl rfl rfl rfl rfl ?_ | refine W_condT rfl ?_ | refine W_condF rfl ?_ | refine W_region ?_ | refine wN rfl ?_))
  refine Exists.intro _ ⟨Weak.refl _, Exists.intro _ ⟨resA_cell rfl rfl rfl (resA_tmp rfl rfl), ?_, rfl⟩⟩
  rw [hD]
  rfl
theorem makeThrust_posN (t : Th) (hfar : farT t = true) (hn : ¬ t.d < 0) (e5 : thOk (mkD t) = false) : CallOk Tryz.prog 147 [vi t.h, vi t.v, vi t.m, vi t.d] (fun r => r = thO (none)) := by
  obtain ⟨z, b1, b2, b3, b4⟩ := farT_true hfar
  have h1 := l01In_ok t.h (-4000000000000000000) 4000000000000000000
  have h2 := l01In_ok t.v (-4000000000000000000) 4000000000000000000
  have h3 := l01In_ok t.m (-4000000000000000000) 4000000000000000000
  have h4 := l01In_ok t.d (-4000000000000000000) 4000000000000000000
  rw [inR_true.2 b1] at h1
  rw [inR_true.2 b2] at h2
  rw [inR_true.2 b3] at h3
  rw [inR_true.2 b4] at h4
  have c0 : abin .eql .i64 t.d 0 = some (.bool false) := by simp [abin, z]
  have g1 := l08Gcd_ok t.h t.v (by omega) (by omega)
  have g2 := l08Gcd_ok t.m t.d (by omega) (by omega)
  have l1 := gcd_le (a := t.h) (b := t.v) (m := 4000000000000000000) (by omega) (by omega)
  have l2 := gcd_le (a := t.m) (b := t.d) (m := 4000000000000000000) (by omega) (by omega)
  have g3 := l08Gcd_ok (Int.gcd t.h t.v) (Int.gcd t.m t.d) (by omega) (by omega)
  rw [gcd4_cast] at g3
  have hp := gcd4_pos z
  have hle : gcd4 t ≤ 4000000000000000000 := gcd4_le (by omega) (by omega) (by omega) (by omega)
  have ht := thrustOk_ok (mkD t)
  have c1 : abin .lss .i64 t.d 0 = some (.bool false) := by simp [abin]; omega
  have hG : mkG t = (gcd4 t : Int) := by simp [mkG, hn]
  have hg0 : (gcd4 t : Int) ≠ 0 := by omega
  have q1 := quo64 (g := (gcd4 t : Int)) b1
  have q2 := quo64 (g := (gcd4 t : Int)) b2
  have q3 := quo64 (g := (gcd4 t : Int)) b3
  have q4 := quo64 (g := (gcd4 t : Int)) b4
  have hD : mkD t = ⟨t.h.tdiv ((gcd4 t : Int)), t.v.tdiv ((gcd4 t : Int)), t.m.tdiv ((gcd4 t : Int)), t.d.tdiv ((gcd4 t : Int))⟩ := by simp only [mkD, hG]
  rw [e5, hD] at ht
  refine callOk Tryz.func147 Tryz.ntmps147 Tryz.results147 rfl rfl rfl fun B w0 M I0 V0 => ?_
  (repeat (first | refine WL_nil ?_ | (apply wl0 (hd := rfl); (first | exact QV_bin rfl rfl c0 | exact QV_bin rfl rfl c1 | exact qv9 | exact q_callA (h1) | exact q_callA (h2) | exact q_callA (h3) | exact q_callA (h4) | exact q_callA (g1) | exact q_callA (g2) | exact q_callA (g3)); (exact gy0)) | (apply wlb (hd := rfl); exact qbx; (exact gy0); rfl) | refine wln ⟨_, rfl, rfl⟩ rfl ?_ | refine wlnu ⟨_, rfl, rfl⟩ rfl ?_ | refine wst rfl rfl rfl List.not_mem_nil rfl rfl rfl rfl rfl rfl ?_ | refine W_condT rfl ?_ | refine W_condF rfl ?_ | refine W_region ?_ | refine wN rfl ?_))
  refine wdraw 14 (by kernel_rfl) (by kernel_rfl) (by kernel_rfl) rfl ?_
  (repeat (first | refine HW_nil ?_ | (apply hw0 (hd := rfl); (first | exact qv9 | exact QV_div rfl rfl hg0 q1 | exact QV_div rfl rfl hg0 q2 | exact QV_div rfl rfl hg0 q3 | exact QV_div rfl rfl hg0 q4); (exact gy0)) | (apply hwb (hd := rfl); exact qbx; (exact gy0); rfl) | refine hwn ⟨_, rfl, rfl⟩ rfl ?_ | refine hwnu ⟨_, rfl, rfl⟩ rfl ?_))
  (repeat (first | refine WL_nil ?_ | (apply wl0 (hd := rfl); (first | exact qv9 | exact q_callA (ht)); (exact gy0)) | (apply wlb (hd := rfl); exact qbx; (exact gy0); rfl) | refine wln ⟨_, rfl, rfl⟩ rfl ?_ | refine wlnu ⟨_, rfl, rfl⟩ rfl ?_ | refine wst rfl rfl rfl List.not_mem_nil rfl rfl rfl rfl rfl rfl ?_ | refine W_condT rfl ?_ | refine W_condF rfl ?_ | refine W_region ?_ | refine wN rfl ?_))
  refine Exists.intro _ ⟨Weak.refl _, Exists.intro _ ⟨resA_cell rfl rfl rfl (resA_tmp rfl rfl), ?_, rfl⟩⟩
  rfl
theorem makeThrust_no (t : Th) (hfar : farT t = false) : CallOk Tryz.prog 147 [vi t.h, vi t.v, vi t.m, vi t.d] (fun r => r = thO none) := by
  have h1 := l01In_ok t.h (-4000000000000000000) 4000000000000000000
  have h2 := l01In_ok t.v (-4000000000000000000) 4000000000000000000
  have h3 := l01In_ok t.m (-4000000000000000000) 4000000000000000000
  have h4 := l01In_ok t.d (-4000000000000000000) 4000000000000000000
  refine callOk Tryz.func147 Tryz.ntmps147 Tryz.results147 rfl rfl rfl fun B w0 M I0 V0 => ?_
  by_cases z : t.d = 0
  · have c0 : abin .eql .i64 t.d 0 = some (.bool true) := by simp [abin, z]
    (repeat (first | refine WL_nil ?_ | (apply wl0 (hd := rfl); (first | exact QV_bin rfl rfl c0 | exact qv9); (exact gy0)) | (apply wlb (hd := rfl); exact qbx; (exact gy0); rfl) | refine wln ⟨_, rfl, rfl⟩ rfl ?_ | refine wlnu ⟨_, rfl, rfl⟩ rfl ?_ | refine wst rfl rfl rfl List.not_mem_nil rfl rfl rfl rfl rfl rfl ?_ | refine W_condT rfl ?_ | refine W_condF rfl ?_ | refine W_region ?_ | refine wN rfl ?_))
    refine Exists.intro _ ⟨Weak.refl _, Exists.intro _ ⟨resA_cell rfl rfl rfl (resA_tmp rfl rfl), ?_, rfl⟩⟩
    rfl
  · have c0 : abin .eql .i64 t.d 0 = some (.bool false) := by simp [abin, z]
    cases e1 : inR t.h (-4000000000000000000) 4000000000000000000
    · rw [e1] at h1
      (repeat (first | refine WL_nil ?_ | (apply wl0 (hd := rfl); (first | exact QV_bin rfl rfl c0 | exact qv9 | exact q_callA (h1)); (exact gy0)) | (apply wlb (hd := rfl); exact qbx; (exact gy0); rfl) | refine wln ⟨_, rfl, rfl⟩ rfl ?_ | refine wlnu ⟨_, rfl, rfl⟩ rfl ?_ | refine wst rfl rfl rfl List.not_mem_nil rfl rfl rfl rfl rfl rfl ?_ | refine W_condT rfl ?_ | refine W_condF rfl ?_ | refine W_region ?_ | refine wN rfl ?_))
      refine Exists.intro _ ⟨Weak.refl _, Exists.intro _ ⟨resA_cell rfl rfl rfl (resA_tmp rfl rfl), ?_, rfl⟩⟩
      rfl
    · rw [e1] at h1
      cases e2 : inR t.v (-4000000000000000000) 4000000000000000000
      · rw [e2] at h2
        (repeat (first | refine WL_nil ?_ | (apply wl0 (hd := rfl); (first | exact QV_bin rfl rfl c0 | exact qv9 | exact q_callA (h1) | exact q_callA (h2)); (exact gy0)) | (apply wlb (hd := rfl); exact qbx; (exact gy0); rfl) | refine wln ⟨_, rfl, rfl⟩ rfl ?_ | refine wlnu ⟨_, rfl, rfl⟩ rfl ?_ | refine wst rfl rfl rfl List.not_mem_nil rfl rfl rfl rfl rfl rfl ?_ | refine W_condT rfl ?_ | refine W_condF rfl ?_ | refine W_region ?_ | refine wN rfl ?_))
        refine Exists.intro _ ⟨Weak.refl _, Exists.intro _ ⟨resA_cell rfl rfl rfl (resA_tmp rfl rfl), ?_, rfl⟩⟩
        rfl
      · rw [e2] at h2
        cases e3 : inR t.m (-4000000000000000000) 4000000000000000000
        · rw [e3] at h3
          (repeat (first | refine WL_nil ?_ | (apply wl0 (hd := rfl); (first | exact QV_bin rfl rfl c0 | exact qv9 | exact q_callA (h1) | exact q_callA (h2) | exact q_callA (h3)); (exact gy0)) | (apply wlb (hd := rfl); exact qbx; (exact gy0); rfl) | refine wln ⟨_, rfl, rfl⟩ rfl ?_ | refine wlnu ⟨_, rfl, rfl⟩ rfl ?_ | refine wst rfl rfl rfl List.not_mem_nil rfl rfl rfl rfl rfl rfl ?_ | refine W_condT rfl ?_ | refine W_condF rfl ?_ | refine W_region ?_ | refine wN rfl ?_))
          refine Exists.intro _ ⟨Weak.refl _, Exists.intro _ ⟨resA_cell rfl rfl rfl (resA_tmp rfl rfl), ?_, rfl⟩⟩
          rfl
        · rw [e3] at h3
          cases e4 : inR t.d (-4000000000000000000) 4000000000000000000
          · rw [e4] at h4
            (repeat (first | refine WL_nil ?_ | (apply wl0 (hd := rfl); (first | exact QV_bin rfl rfl c0 | exact qv9 | exact q_callA (h1) | exact q_callA (h2) | exact q_callA (h3) | exact q_callA (h4)); (exact gy0)) | (apply wlb (hd := rfl); exact qbx; (exact gy0); rfl) | refine wln ⟨_, rfl, rfl⟩ rfl ?_ | refine wlnu ⟨_, rfl, rfl⟩ rfl ?_ | refine wst rfl rfl rfl List.not_mem_nil rfl rfl rfl rfl rfl rfl ?_ | refine W_condT rfl ?_ | refine W_condF rfl ?_ | refine W_region ?_ | refine wN rfl ?_))
            refine Exists.intro _ ⟨Weak.refl _, Exists.intro _ ⟨resA_cell rfl rfl rfl (resA_tmp rfl rfl), ?_, rfl⟩⟩
            rfl
          · simp [farT, farB, e1, e2, e3, e4, z] at hfar
theorem makeThrust_ok (t : Th) : CallOk Tryz.prog 147 [vi t.h, vi t.v, vi t.m, vi t.d] (fun r => r = thO (mkT t)) := by
  cases h : farT t
  · rw [mkT_far h]
    exact makeThrust_no t h
  · cases e5 : thOk (mkD t)
    · rw [show mkT t = none by simp [mkT, e5]]
      by_cases hn : t.d < 0
      · exact makeThrust_negN t h hn e5
      · exact makeThrust_posN t h hn e5
    · rw [show mkT t = some (mkD t) by simp [mkT, e5, h]]
      by_cases hn : t.d < 0
      · exact makeThrust_negY t h hn e5
      · exact makeThrust_posY t h hn e5
end Go.Proofs.YtkieepmkcaipaaaGreat
