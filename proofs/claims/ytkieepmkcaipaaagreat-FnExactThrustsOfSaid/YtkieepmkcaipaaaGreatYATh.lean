/- Thrusts: greatest common divisors, ThrustOk, both ways. -/
import Derived.Test.YtkieepmkcaipaaaGreatYAPt
import Derived.Test.YtkieepmkcaipaaaGreatYAJt
namespace Go.Proofs.YtkieepmkcaipaaaGreat
open Go.Eng
set_option maxRecDepth 100000
attribute [local irreducible] QV TV WL HW W CallOk Weak

structure Th where
  h : Int
  v : Int
  m : Int
  d : Int
  deriving DecidableEq
abbrev Th.row (t : Th) : List AV := [vi t.h, vi t.v, vi t.m, vi t.d]
abbrev Th.av (t : Th) : AV := .agg [vi t.h, vi t.v, vi t.m, vi t.d]
abbrev iRow (n : Int) : List AV := [vi n]
abbrev slI (l : List Int) : AV := .sl 1 (l.map iRow)
abbrev vu (n : Nat) : AV := .v (.int .u64 (n : Int))
theorem wu_neg {n : Int} (h : -9223372036854775808 ≤ n ∧ n < 0) : IntKind.u64.wrap (0 - IntKind.u64.wrap n) = (n.natAbs : Int) := by
  simp [IntKind.wrap, IntKind.bits, IntKind.signed]; omega
theorem wu_pos {n : Int} (h : 0 ≤ n ∧ n ≤ 9223372036854775807) : IntKind.u64.wrap n = (n.natAbs : Int) := by
  simp [IntKind.wrap, IntKind.bits, IntKind.signed]; omega

theorem gcd_step (a b : Int) : Int.gcd b (a.tmod b) = Int.gcd a b := by
  simp only [Int.gcd, Int.natAbs_tmod]
  rw [Nat.gcd_comm a.natAbs b.natAbs, Nat.gcd_comm b.natAbs, ← Nat.gcd_rec]
theorem tmod_lt {a b : Int} (hb : b ≠ 0) : (a.tmod b).natAbs < b.natAbs := by
  rw [Int.natAbs_tmod]
  exact Nat.mod_lt _ (by omega)
theorem gcd_le {a b : Int} {m : Nat} (ha : a.natAbs ≤ m) (hb : b.natAbs ≤ m) : Int.gcd a b ≤ m := by
  unfold Int.gcd
  by_cases h : a.natAbs = 0
  · rw [h, Nat.gcd_zero_left]; exact hb
  · exact Nat.le_trans (Nat.gcd_le_left _ (by omega)) ha
theorem l08Gcd_ok (a b : Int) (ha : -9223372036854775807 ≤ a ∧ a ≤ 9223372036854775807) (hb : -9223372036854775807 ≤ b ∧ b ≤ 9223372036854775807) : CallOk Tryz.prog 187 [vi a, vi b] (fun r => r = vi (Int.gcd a b)) := by
  refine callOk Tryz.func187 Tryz.ntmps187 Tryz.results187 rfl rfl rfl fun B w0 M I0 V0 => ?_
  (repeat (first | refine WL_nil ?_ | (apply wl0 (hd := rfl); (first | exact qv0 | exact QV_bne Tryz.underlying4 rfl rfl | exact QV_beq Tryz.underlying4 rfl rfl | exact qv1); (exact gy0)) | (apply wlb (hd := rfl); (first | exact q_box rfl rfl rfl | exact q_alloc); (exact gy0); rfl) | refine wln ⟨_, rfl, rfl⟩ rfl ?_ | refine wlnu ⟨_, rfl, rfl⟩ rfl ?_ | refine wst rfl rfl rfl List.not_mem_nil rfl rfl rfl rfl rfl rfl ?_ | refine W_seq ?_ | refine W_condT rfl ?_ | refine W_condF rfl ?_ | refine W_region ?_ | refine W_skip ?_ | refine W_ret ?_ | refine W_block ?_ | refine W_exit ?_))
  refine W_loop (fun n s => ∃ x y : Int, n = y.natAbs ∧ Int.gcd x y = Int.gcd a b ∧ x.natAbs ≤ 9223372036854775807 ∧ y.natAbs ≤ 9223372036854775807 ∧ s = ⟨[(0, vi x), (1, vi y)], [], []⟩) ⟨_, _, ⟨a, b, rfl, rfl, by omega, by omega, rfl⟩, wkA⟩ ?_
  rintro n s ⟨x, y, rfl, hg, hx, hy, rfl⟩
  (repeat (first | refine WL_nil ?_ | (apply wl0 (hd := rfl); (first | exact qv0 | exact QV_bne Tryz.underlying4 rfl rfl | exact QV_beq Tryz.underlying4 rfl rfl | exact qv1); (exact gy0)) | (apply wlb (hd := rfl); (first | exact q_box rfl rfl rfl | exact q_alloc); (exact gy0); rfl) | refine wln ⟨_, rfl, rfl⟩ rfl ?_ | refine wlnu ⟨_, rfl, rfl⟩ rfl ?_ | refine wst rfl rfl rfl List.not_mem_nil rfl rfl rfl rfl rfl rfl ?_ | refine W_seq ?_ | refine W_condT rfl ?_ | refine W_condF rfl ?_ | refine W_region ?_ | refine W_skip ?_ | refine W_ret ?_ | refine W_block ?_ | refine W_exit ?_))
  (refine W_cond rfl (fun hc => ?_) (fun hc => ?_))
  · have h0 : y ≠ 0 := by simpa using hc
    have hl := tmod_lt (a := x) h0
    (repeat (first | refine WL_nil ?_ | (apply wl0 (hd := rfl); (first | exact qv0 | exact QV_bne Tryz.underlying4 rfl rfl | exact QV_beq Tryz.underlying4 rfl rfl | exact qv1); (exact gy0)) | (apply wlb (hd := rfl); (first | exact q_box rfl rfl rfl | exact q_alloc); (exact gy0); rfl) | refine wln ⟨_, rfl, rfl⟩ rfl ?_ | refine wlnu ⟨_, rfl, rfl⟩ rfl ?_ | refine wst rfl rfl rfl List.not_mem_nil rfl rfl rfl rfl rfl rfl ?_ | refine W_seq ?_ | refine W_condT rfl ?_ | refine W_condF rfl ?_ | refine W_region ?_ | refine W_skip ?_ | refine W_ret ?_ | refine W_block ?_ | refine W_exit ?_))
    refine wdraw 6 (by kernel_rfl) (by kernel_rfl) (by kernel_rfl) rfl ?_
    (repeat (first | refine HW_nil ?_ | (apply hw0 (hd := rfl); (first | exact qv0 | exact QV_bne Tryz.underlying4 rfl rfl | exact QV_beq Tryz.underlying4 rfl rfl | exact qv1 | exact QV_div rfl rfl h0 rfl); (exact gy0)) | (apply hwb (hd := rfl); (first | exact q_box rfl rfl rfl | exact q_alloc); (exact gy0); rfl) | refine hwn ⟨_, rfl, rfl⟩ rfl ?_ | refine hwnu ⟨_, rfl, rfl⟩ rfl ?_))
    (repeat (first | refine WL_nil ?_ | (apply wl0 (hd := rfl); (first | exact qv0 | exact QV_bne Tryz.underlying4 rfl rfl | exact QV_beq Tryz.underlying4 rfl rfl | exact qv1); (exact gy0)) | (apply wlb (hd := rfl); (first | exact q_box rfl rfl rfl | exact q_alloc); (exact gy0); rfl) | refine wln ⟨_, rfl, rfl⟩ rfl ?_ | refine wlnu ⟨_, rfl, rfl⟩ rfl ?_ | refine wst rfl rfl rfl List.not_mem_nil rfl rfl rfl rfl rfl rfl ?_ | refine W_seq ?_ | refine W_condT rfl ?_ | refine W_condF rfl ?_ | refine W_region ?_ | refine W_skip ?_ | refine W_ret ?_ | refine W_block ?_ | refine W_exit ?_))
    refine Exists.intro _ (Exists.intro _ ⟨?_, ⟨y, x.tmod y, rfl, by rw [gcd_step, hg], hy, by omega, rfl⟩, wkA⟩)
    exact hl
  · have h0 : y = 0 := by simpa using hc
    subst h0
    (repeat (first | refine WL_nil ?_ | (apply wl0 (hd := rfl); (first | exact qv0 | exact QV_bne Tryz.underlying4 rfl rfl | exact QV_beq Tryz.underlying4 rfl rfl | exact qv1); (exact gy0)) | (apply wlb (hd := rfl); (first | exact q_box rfl rfl rfl | exact q_alloc); (exact gy0); rfl) | refine wln ⟨_, rfl, rfl⟩ rfl ?_ | refine wlnu ⟨_, rfl, rfl⟩ rfl ?_ | refine wst rfl rfl rfl List.not_mem_nil rfl rfl rfl rfl rfl rfl ?_ | refine W_seq ?_ | refine W_condT rfl ?_ | refine W_condF rfl ?_ | refine W_region ?_ | refine W_skip ?_ | refine W_ret ?_ | refine W_block ?_ | refine W_exit ?_))
    refine Exists.intro _ ⟨Weak.refl _, Exists.intro _ ⟨resA_tmp rfl rfl, ?_, rfl⟩⟩
    refine vi_eq ?_
    rw [← hg, Int.gcd_zero_right]
    omega
def gcdL (l : List Int) : Nat := l.foldl (fun d n => Nat.gcd d n.natAbs) 0
theorem gcdL_succ {l : List Int} {i : Nat} {n : Int} (h : l[i]? = some n) : gcdL (l.take (i + 1)) = Nat.gcd (gcdL (l.take i)) n.natAbs := by
  unfold gcdL
  rw [List.take_add_one, h]
  simp
theorem gcdL_le {l : List Int} {m : Nat} (h : ∀ n ∈ l, n.natAbs ≤ m) : gcdL l ≤ m := by
  have : ∀ (l : List Int) (d : Nat), d ≤ m → (∀ n ∈ l, n.natAbs ≤ m) → l.foldl (fun d n => Nat.gcd d n.natAbs) d ≤ m := by
    intro l
    induction l with
    | nil => intro d hd _; exact hd
    | cons x l ih =>
      intro d hd hl
      refine ih _ ?_ fun n hn => hl n (by simp [hn])
      show Nat.gcd d x.natAbs ≤ m
      have hx := hl x (by simp)
      by_cases h0 : d = 0
      · rw [h0, Nat.gcd_zero_left]; exact hx
      · exact Nat.le_trans (Nat.gcd_le_left _ (by omega)) hd
  exact this l 0 (by omega) h
theorem magnitude_ok (n : Int) (hn : -9223372036854775808 ≤ n ∧ n ≤ 9223372036854775807) : CallOk Tryz.prog 153 [vi n] (fun r => r = vu n.natAbs) := by
  refine callOk Tryz.func153 Tryz.ntmps153 Tryz.results153 rfl rfl rfl fun B w0 M I0 V0 => ?_
  (repeat (first | refine WL_nil ?_ | (apply wl0 (hd := rfl); (first | exact qv0 | exact QV_bne Tryz.underlying4 rfl rfl | exact QV_beq Tryz.underlying4 rfl rfl | exact qv1); (exact gy0)) | (apply wlb (hd := rfl); (first | exact q_box rfl rfl rfl | exact q_alloc); (exact gy0); rfl) | refine wln ⟨_, rfl, rfl⟩ rfl ?_ | refine wlnu ⟨_, rfl, rfl⟩ rfl ?_ | refine wst rfl rfl rfl List.not_mem_nil rfl rfl rfl rfl rfl rfl ?_ | refine W_seq ?_ | refine W_condT rfl ?_ | refine W_condF rfl ?_ | refine W_region ?_ | refine W_skip ?_ | refine W_ret ?_ | refine W_block ?_ | refine W_exit ?_))
  (refine W_cond rfl (fun hc => ?_) (fun hc => ?_))
  · (repeat (first | refine WL_nil ?_ | (apply wl0 (hd := rfl); (first | exact qv0 | exact QV_bne Tryz.underlying4 rfl rfl | exact QV_beq Tryz.underlying4 rfl rfl | exact qv1 | exact QV_conv (by rw [Tryz.underlying3]; rfl) Tryz.underlying164 rfl); (exact gy0)) | (apply wlb (hd := rfl); (first | exact q_box rfl rfl rfl | exact q_alloc); (exact gy0); rfl) | refine wln ⟨_, rfl, rfl⟩ rfl ?_ | refine wlnu ⟨_, rfl, rfl⟩ rfl ?_ | refine wst rfl rfl rfl List.not_mem_nil rfl rfl rfl rfl rfl rfl ?_ | refine W_seq ?_ | refine W_condT rfl ?_ | refine W_condF rfl ?_ | refine W_region ?_ | refine W_skip ?_ | refine W_ret ?_ | refine W_block ?_ | refine W_exit ?_))
    refine Exists.intro _ ⟨Weak.refl _, Exists.intro _ ⟨resA_tmp rfl rfl, ?_, rfl⟩⟩
    simp at hc
    show AV.v (.int .u64 (IntKind.u64.wrap (0 - IntKind.u64.wrap n))) = _
    rw [wu_neg (by omega)]
  · (repeat (first | refine WL_nil ?_ | (apply wl0 (hd := rfl); (first | exact qv0 | exact QV_bne Tryz.underlying4 rfl rfl | exact QV_beq Tryz.underlying4 rfl rfl | exact qv1 | exact QV_conv (by rw [Tryz.underlying3]; rfl) Tryz.underlying164 rfl); (exact gy0)) | (apply wlb (hd := rfl); (first | exact q_box rfl rfl rfl | exact q_alloc); (exact gy0); rfl) | refine wln ⟨_, rfl, rfl⟩ rfl ?_ | refine wlnu ⟨_, rfl, rfl⟩ rfl ?_ | refine wst rfl rfl rfl List.not_mem_nil rfl rfl rfl rfl rfl rfl ?_ | refine W_seq ?_ | refine W_condT rfl ?_ | refine W_condF rfl ?_ | refine W_region ?_ | refine W_skip ?_ | refine W_ret ?_ | refine W_block ?_ | refine W_exit ?_))
    refine Exists.intro _ ⟨Weak.refl _, Exists.intro _ ⟨resA_tmp rfl rfl, ?_, rfl⟩⟩
    simp at hc
    show AV.v (.int .u64 (IntKind.u64.wrap n)) = _
    rw [wu_pos (by omega)]
def iat (l : List Int) (i : Nat) : Int := l.getD i 0
theorem iat_lt {l : List Int} {i : Nat} (h : i < l.length) : l[i]? = some (iat l i) := by
  simp [iat, h]
theorem commonDivisor_ok (l : List Int) (hn : l.length ≤ 1048576) (hl : ∀ n ∈ l, n.natAbs ≤ 9223372036854775807) : CallOk Tryz.prog 110 [slI l] (fun r => r = vi (gcdL l)) := by
  refine callOk Tryz.func110 Tryz.ntmps110 Tryz.results110 rfl rfl rfl fun B w0 M I0 V0 => ?_
  (repeat (first | refine WL_nil ?_ | (apply wl0 (hd := rfl); (first | exact qv0 | exact QV_bne Tryz.underlying4 rfl rfl | exact QV_beq Tryz.underlying4 rfl rfl | exact qv1); (exact gy0)) | (apply wlb (hd := rfl); (first | exact q_box rfl rfl rfl | exact q_alloc); (exact gy0); rfl) | refine wln ⟨_, rfl, rfl⟩ rfl ?_ | refine wlnu ⟨_, rfl, rfl⟩ rfl ?_ | refine wst rfl rfl rfl List.not_mem_nil rfl rfl rfl rfl rfl rfl ?_ | refine W_seq ?_ | refine W_condT rfl ?_ | refine W_condF rfl ?_ | refine W_region ?_ | refine W_skip ?_ | refine W_ret ?_ | refine W_block ?_ | refine W_exit ?_))
  refine W_loop (fun n s => ∃ k : Nat, k ≤ l.length ∧ n = l.length - k ∧ s = ⟨[(3, vu (gcdL (l.take k))), (7, slI l), (8, vi l.length), (9, vi k)], [], []⟩) ⟨_, _, ⟨0, by omega, rfl, rfl⟩, wkA⟩ ?_
  rintro n s ⟨k, hk, rfl, rfl⟩
  by_cases hlt : k < l.length
  · have hp := iat_lt hlt
    have hb := hl _ (List.mem_of_getElem? hp)
    have hg := gcdL_le (l := l.take k) (m := 9223372036854775807) fun n hn => hl n (List.mem_of_mem_take hn)
    have hmag := magnitude_ok (iat l k) (by omega)
    (repeat (first | refine WL_nil ?_ | (apply wl0 (hd := rfl); (first | exact qv0 | exact QV_bne Tryz.underlying4 rfl rfl | exact QV_beq Tryz.underlying4 rfl rfl | exact qv1); (exact gy0)) | (apply wlb (hd := rfl); (first | exact q_box rfl rfl rfl | exact q_alloc); (exact gy0); rfl) | refine wln ⟨_, rfl, rfl⟩ rfl ?_ | refine wlnu ⟨_, rfl, rfl⟩ rfl ?_ | refine wst rfl rfl rfl List.not_mem_nil rfl rfl rfl rfl rfl rfl ?_ | refine W_seq ?_ | refine W_condT rfl ?_ | refine W_condF rfl ?_ | refine W_region ?_ | refine W_skip ?_ | refine W_ret ?_ | refine W_block ?_ | refine W_exit ?_))
    (refine W_cond rfl (fun hc => ?_) (fun hc => ?_))
    · (repeat (first | refine WL_nil ?_ | (apply wl0 (hd := rfl); (first | exact qv0 | exact QV_bne Tryz.underlying4 rfl rfl | exact QV_beq Tryz.underlying4 rfl rfl | exact qv1 | exact q_callA (hmag) | exact QV_indexAddr rfl rfl rfl rfl (row_at hp)); (exact gy0)) | (apply wlb (hd := rfl); (first | exact q_box rfl rfl rfl | exact q_alloc); (exact gy0); rfl) | refine wln ⟨_, rfl, rfl⟩ rfl ?_ | refine wlnu ⟨_, rfl, rfl⟩ rfl ?_ | refine wst rfl rfl rfl List.not_mem_nil rfl rfl rfl rfl rfl rfl ?_ | refine W_seq ?_ | refine W_condT rfl ?_ | refine W_condF rfl ?_ | refine W_region ?_ | refine W_skip ?_ | refine W_ret ?_ | refine W_block ?_ | refine W_exit ?_))
      refine W_loop (fun n s => ∃ d m : Nat, n = m ∧ Nat.gcd d m = Nat.gcd (gcdL (l.take k)) (iat l k).natAbs ∧ s = ⟨[(3, vu d), (6, vu m), (7, slI l), (8, vi l.length), (9, vi k)], [], []⟩) ⟨_, _, ⟨_, _, rfl, rfl, rfl⟩, wkA⟩ ?_
      rintro n s ⟨d, m, rfl, hgm, rfl⟩
      (repeat (first | refine WL_nil ?_ | (apply wl0 (hd := rfl); (first | exact qv0 | exact QV_bne Tryz.underlying4 rfl rfl | exact QV_beq Tryz.underlying4 rfl rfl | exact qv1); (exact gy0)) | (apply wlb (hd := rfl); (first | exact q_box rfl rfl rfl | exact q_alloc); (exact gy0); rfl) | refine wln ⟨_, rfl, rfl⟩ rfl ?_ | refine wlnu ⟨_, rfl, rfl⟩ rfl ?_ | refine wst rfl rfl rfl List.not_mem_nil rfl rfl rfl rfl rfl rfl ?_ | refine W_seq ?_ | refine W_condT rfl ?_ | refine W_condF rfl ?_ | refine W_region ?_ | refine W_skip ?_ | refine W_ret ?_ | refine W_block ?_ | refine W_exit ?_))
      (refine W_cond rfl (fun hc => ?_) (fun hc => ?_))
      · have h0 : (n : Int) ≠ 0 := by simpa using hc
        have hrem : adv .rem .u64 (d : Int) (n : Int) = some (.int .u64 ((d % n : Nat) : Int)) := by
          simp only [adv]
          rw [Int.tmod_eq_emod_of_nonneg (by omega)]
          norm_cast
        (repeat (first | refine WL_nil ?_ | (apply wl0 (hd := rfl); (first | exact qv0 | exact QV_bne Tryz.underlying4 rfl rfl | exact QV_beq Tryz.underlying4 rfl rfl | exact qv1); (exact gy0)) | (apply wlb (hd := rfl); (first | exact q_box rfl rfl rfl | exact q_alloc); (exact gy0); rfl) | refine wln ⟨_, rfl, rfl⟩ rfl ?_ | refine wlnu ⟨_, rfl, rfl⟩ rfl ?_ | refine wst rfl rfl rfl List.not_mem_nil rfl rfl rfl rfl rfl rfl ?_ | refine W_seq ?_ | refine W_condT rfl ?_ | refine W_condF rfl ?_ | refine W_region ?_ | refine W_skip ?_ | refine W_ret ?_ | refine W_block ?_ | refine W_exit ?_))
        refine wdraw 6 (by kernel_rfl) (by kernel_rfl) (by kernel_rfl) rfl ?_
        (repeat (first | refine HW_nil ?_ | (apply hw0 (hd := rfl); (first | exact qv0 | exact QV_bne Tryz.underlying4 rfl rfl | exact QV_beq Tryz.underlying4 rfl rfl | exact qv1 | exact QV_div rfl rfl h0 hrem); (exact gy0)) | (apply hwb (hd := rfl); (first | exact q_box rfl rfl rfl | exact q_alloc); (exact gy0); rfl) | refine hwn ⟨_, rfl, rfl⟩ rfl ?_ | refine hwnu ⟨_, rfl, rfl⟩ rfl ?_))
        (repeat (first | refine WL_nil ?_ | (apply wl0 (hd := rfl); (first | exact qv0 | exact QV_bne Tryz.underlying4 rfl rfl | exact QV_beq Tryz.underlying4 rfl rfl | exact qv1); (exact gy0)) | (apply wlb (hd := rfl); (first | exact q_box rfl rfl rfl | exact q_alloc); (exact gy0); rfl) | refine wln ⟨_, rfl, rfl⟩ rfl ?_ | refine wlnu ⟨_, rfl, rfl⟩ rfl ?_ | refine wst rfl rfl rfl List.not_mem_nil rfl rfl rfl rfl rfl rfl ?_ | refine W_seq ?_ | refine W_condT rfl ?_ | refine W_condF rfl ?_ | refine W_region ?_ | refine W_skip ?_ | refine W_ret ?_ | refine W_block ?_ | refine W_exit ?_))
        refine Exists.intro _ (Exists.intro _ ⟨?_, ⟨n, d % n, rfl, by rw [← hgm, Nat.gcd_comm n, ← Nat.gcd_rec, Nat.gcd_comm], rfl⟩, wkA⟩)
        exact Nat.mod_lt _ (by omega)
      · have h0 : n = 0 := by
          have : (n : Int) = 0 := by simpa using hc
          omega
        subst h0
        rw [Nat.gcd_zero_right] at hgm
        subst hgm
        rw [← gcdL_succ hp]
        (repeat (first | refine WL_nil ?_ | (apply wl0 (hd := rfl); (first | exact qv0 | exact QV_bne Tryz.underlying4 rfl rfl | exact QV_beq Tryz.underlying4 rfl rfl | exact qv1); (exact gy0)) | (apply wlb (hd := rfl); (first | exact q_box rfl rfl rfl | exact q_alloc); (exact gy0); rfl) | refine wln ⟨_, rfl, rfl⟩ rfl ?_ | refine wlnu ⟨_, rfl, rfl⟩ rfl ?_ | refine wst rfl rfl rfl List.not_mem_nil rfl rfl rfl rfl rfl rfl ?_ | refine W_seq ?_ | refine W_condT rfl ?_ | refine W_condF rfl ?_ | refine W_region ?_ | refine W_skip ?_ | refine W_ret ?_ | refine W_block ?_ | refine W_exit ?_))
        refine Exists.intro _ (Exists.intro _ ⟨?_, ⟨k + 1, by omega, rfl, rfl⟩, wkA⟩)
        omega
    · simp at hc; omega
  · (repeat (first | refine WL_nil ?_ | (apply wl0 (hd := rfl); (first | exact qv0 | exact QV_bne Tryz.underlying4 rfl rfl | exact QV_beq Tryz.underlying4 rfl rfl | exact qv1); (exact gy0)) | (apply wlb (hd := rfl); (first | exact q_box rfl rfl rfl | exact q_alloc); (exact gy0); rfl) | refine wln ⟨_, rfl, rfl⟩ rfl ?_ | refine wlnu ⟨_, rfl, rfl⟩ rfl ?_ | refine wst rfl rfl rfl List.not_mem_nil rfl rfl rfl rfl rfl rfl ?_ | refine W_seq ?_ | refine W_condT rfl ?_ | refine W_condF rfl ?_ | refine W_region ?_ | refine W_skip ?_ | refine W_ret ?_ | refine W_block ?_ | refine W_exit ?_))
    (refine W_cond rfl (fun hc => ?_) (fun hc => ?_))
    · simp at hc; omega
    · have hk' : k = l.length := by omega
      subst hk'
      rw [List.take_length]
      have hg := gcdL_le hl
      (repeat (first | refine WL_nil ?_ | (apply wl0 (hd := rfl); (first | exact qv0 | exact QV_bne Tryz.underlying4 rfl rfl | exact QV_beq Tryz.underlying4 rfl rfl | exact qv1 | exact QV_conv (by rw [Tryz.underlying164]; rfl) Tryz.underlying3 rfl); (exact gy0)) | (apply wlb (hd := rfl); (first | exact q_box rfl rfl rfl | exact q_alloc); (exact gy0); rfl) | refine wln ⟨_, rfl, rfl⟩ rfl ?_ | refine wlnu ⟨_, rfl, rfl⟩ rfl ?_ | refine wst rfl rfl rfl List.not_mem_nil rfl rfl rfl rfl rfl rfl ?_ | refine W_seq ?_ | refine W_condT rfl ?_ | refine W_condF rfl ?_ | refine W_region ?_ | refine W_skip ?_ | refine W_ret ?_ | refine W_block ?_ | refine W_exit ?_))
      refine Exists.intro _ ⟨Weak.refl _, Exists.intro _ ⟨resA_tmp rfl rfl, ?_, rfl⟩⟩
      exact vi_eq (w64 (by omega))

def thIn (t : Th) : Bool := inR t.d 1 1000000 && (inR t.h 0 1000000000000 && (inR t.v (-10000000000000) 10000000000000 && inR t.m (-10000000000000) 10000000000000))
theorem thIn_true {t : Th} (h : thIn t = true) : (1 ≤ t.d ∧ t.d ≤ 1000000) ∧ (0 ≤ t.h ∧ t.h ≤ 1000000000000) ∧ (-10000000000000 ≤ t.v ∧ t.v ≤ 10000000000000) ∧ -10000000000000 ≤ t.m ∧ t.m ≤ 10000000000000 := by
  simpa [thIn, inR_true] using h
def gcd4 (t : Th) : Nat := Nat.gcd (Nat.gcd t.h.natAbs t.v.natAbs) (Nat.gcd t.m.natAbs t.d.natAbs)
theorem gcd4_list (t : Th) : gcdL [t.h, t.v, t.m, t.d] = gcd4 t := by
  simp [gcdL, gcd4, Nat.gcd_assoc]
def thOk (t : Th) : Bool := thIn t && decide (gcd4 t = 1)
theorem thOk_in {t : Th} (h : thOk t = true) : thIn t = true := by
  simp only [thOk, Bool.and_eq_true] at h; exact h.1
theorem thrustOk_ok (t : Th) : CallOk Tryz.prog 146 [t.av] (fun r => r = vb (thOk t)) := by
  have h1 := l01In_ok t.d 1 1000000
  have h2 := l01In_ok t.h 0 1000000000000
  have h3 := l01In_ok t.v (-10000000000000) 10000000000000
  have h4 := l01In_ok t.m (-10000000000000) 10000000000000
  refine callOk Tryz.func146 Tryz.ntmps146 Tryz.results146 rfl rfl rfl fun B w0 M I0 V0 => ?_
  cases e1 : inR t.d 1 1000000
  · rw [e1] at h1
    (repeat (first | refine WL_nil ?_ | (apply wl0 (hd := rfl); (first | exact qv0 | exact QV_bne Tryz.underlying4 rfl rfl | exact QV_beq Tryz.underlying4 rfl rfl | exact qv1 | exact q_callA (h1)); (exact gy0)) | (apply wlb (hd := rfl); (first | exact q_box rfl rfl rfl | exact q_alloc); (exact gy0); rfl) | refine wln ⟨_, rfl, rfl⟩ rfl ?_ | refine wlnu ⟨_, rfl, rfl⟩ rfl ?_ | refine wst rfl rfl rfl List.not_mem_nil rfl rfl rfl rfl rfl rfl ?_ | refine W_seq ?_ | refine W_condT rfl ?_ | refine W_condF rfl ?_ | refine W_region ?_ | refine W_skip ?_ | refine W_ret ?_ | refine W_block ?_ | refine W_exit ?_))
    refine Exists.intro _ ⟨Weak.refl _, Exists.intro _ ⟨resA_tmp rfl rfl, ?_, rfl⟩⟩
    exact vb_eq (by simp [thOk, thIn, e1])
  · rw [e1] at h1
    cases e2 : inR t.h 0 1000000000000
    · rw [e2] at h2
      (repeat (first | refine WL_nil ?_ | (apply wl0 (hd := rfl); (first | exact qv0 | exact QV_bne Tryz.underlying4 rfl rfl | exact QV_beq Tryz.underlying4 rfl rfl | exact qv1 | exact q_callA (h1) | exact q_callA (h2)); (exact gy0)) | (apply wlb (hd := rfl); (first | exact q_box rfl rfl rfl | exact q_alloc); (exact gy0); rfl) | refine wln ⟨_, rfl, rfl⟩ rfl ?_ | refine wlnu ⟨_, rfl, rfl⟩ rfl ?_ | refine wst rfl rfl rfl List.not_mem_nil rfl rfl rfl rfl rfl rfl ?_ | refine W_seq ?_ | refine W_condT rfl ?_ | refine W_condF rfl ?_ | refine W_region ?_ | refine W_skip ?_ | refine W_ret ?_ | refine W_block ?_ | refine W_exit ?_))
      refine Exists.intro _ ⟨Weak.refl _, Exists.intro _ ⟨resA_tmp rfl rfl, ?_, rfl⟩⟩
      exact vb_eq (by simp [thOk, thIn, e2])
    · rw [e2] at h2
      cases e3 : inR t.v (-10000000000000) 10000000000000
      · rw [e3] at h3
        (repeat (first | refine WL_nil ?_ | (apply wl0 (hd := rfl); (first | exact qv0 | exact QV_bne Tryz.underlying4 rfl rfl | exact QV_beq Tryz.underlying4 rfl rfl | exact qv1 | exact q_callA (h1) | exact q_callA (h2) | exact q_callA (h3)); (exact gy0)) | (apply wlb (hd := rfl); (first | exact q_box rfl rfl rfl | exact q_alloc); (exact gy0); rfl) | refine wln ⟨_, rfl, rfl⟩ rfl ?_ | refine wlnu ⟨_, rfl, rfl⟩ rfl ?_ | refine wst rfl rfl rfl List.not_mem_nil rfl rfl rfl rfl rfl rfl ?_ | refine W_seq ?_ | refine W_condT rfl ?_ | refine W_condF rfl ?_ | refine W_region ?_ | refine W_skip ?_ | refine W_ret ?_ | refine W_block ?_ | refine W_exit ?_))
        refine Exists.intro _ ⟨Weak.refl _, Exists.intro _ ⟨resA_tmp rfl rfl, ?_, rfl⟩⟩
        exact vb_eq (by simp [thOk, thIn, e3])
      · rw [e3] at h3
        cases e4 : inR t.m (-10000000000000) 10000000000000
        · rw [e4] at h4
          (repeat (first | refine WL_nil ?_ | (apply wl0 (hd := rfl); (first | exact qv0 | exact QV_bne Tryz.underlying4 rfl rfl | exact QV_beq Tryz.underlying4 rfl rfl | exact qv1 | exact q_callA (h1) | exact q_callA (h2) | exact q_callA (h3) | exact q_callA (h4)); (exact gy0)) | (apply wlb (hd := rfl); (first | exact q_box rfl rfl rfl | exact q_alloc); (exact gy0); rfl) | refine wln ⟨_, rfl, rfl⟩ rfl ?_ | refine wlnu ⟨_, rfl, rfl⟩ rfl ?_ | refine wst rfl rfl rfl List.not_mem_nil rfl rfl rfl rfl rfl rfl ?_ | refine W_seq ?_ | refine W_condT rfl ?_ | refine W_condF rfl ?_ | refine W_region ?_ | refine W_skip ?_ | refine W_ret ?_ | refine W_block ?_ | refine W_exit ?_))
          refine Exists.intro _ ⟨Weak.refl _, Exists.intro _ ⟨resA_tmp rfl rfl, ?_, rfl⟩⟩
          exact vb_eq (by simp [thOk, thIn, e4])
        · rw [e4] at h4
          have b1 := inR_true.1 e1
          have b2 := inR_true.1 e2
          have b3 := inR_true.1 e3
          have b4 := inR_true.1 e4
          have g1 := l08Gcd_ok t.h t.v (by omega) (by omega)
          have g2 := l08Gcd_ok t.m t.d (by omega) (by omega)
          have l1 := gcd_le (a := t.h) (b := t.v) (m := 10000000000000) (by omega) (by omega)
          have l2 := gcd_le (a := t.m) (b := t.d) (m := 10000000000000) (by omega) (by omega)
          have g3 := l08Gcd_ok (Int.gcd t.h t.v) (Int.gcd t.m t.d) (by omega) (by omega)
          (repeat (first | refine WL_nil ?_ | (apply wl0 (hd := rfl); (first | exact qv0 | exact QV_bne Tryz.underlying4 rfl rfl | exact QV_beq Tryz.underlying4 rfl rfl | exact qv1 | exact q_callA (h1) | exact q_callA (h2) | exact q_callA (h3) | exact q_callA (h4)); (exact gy0)) | (apply wlb (hd := rfl); (first | exact q_box rfl rfl rfl | exact q_alloc); (exact gy0); rfl) | refine wln ⟨_, rfl, rfl⟩ rfl ?_ | refine wlnu ⟨_, rfl, rfl⟩ rfl ?_ | refine wst rfl rfl rfl List.not_mem_nil rfl rfl rfl rfl rfl rfl ?_ | refine W_seq ?_ | refine W_condT rfl ?_ | refine W_condF rfl ?_ | refine W_region ?_ | refine W_skip ?_ | refine W_ret ?_ | refine W_block ?_ | refine W_exit ?_))
          refine wdraw 13 (by kernel_rfl) (by kernel_rfl) (by kernel_rfl) rfl ?_
          (repeat (first | refine HW_nil ?_ | (apply hw0 (hd := rfl); (first | exact qv0 | exact QV_bne Tryz.underlying4 rfl rfl | exact QV_beq Tryz.underlying4 rfl rfl | exact qv1 | exact q_callA (g1) | exact q_callA (g2) | exact q_callA (g3)); (exact gy0)) | (apply hwb (hd := rfl); (first | exact q_box rfl rfl rfl | exact q_alloc); (exact gy0); rfl) | refine hwn ⟨_, rfl, rfl⟩ rfl ?_ | refine hwnu ⟨_, rfl, rfl⟩ rfl ?_))
          (repeat (first | refine WL_nil ?_ | (apply wl0 (hd := rfl); (first | exact qv0 | exact QV_bne Tryz.underlying4 rfl rfl | exact QV_beq Tryz.underlying4 rfl rfl | exact qv1); (exact gy0)) | (apply wlb (hd := rfl); (first | exact q_box rfl rfl rfl | exact q_alloc); (exact gy0); rfl) | refine wln ⟨_, rfl, rfl⟩ rfl ?_ | refine wlnu ⟨_, rfl, rfl⟩ rfl ?_ | refine wst rfl rfl rfl List.not_mem_nil rfl rfl rfl rfl rfl rfl ?_ | refine W_seq ?_ | refine W_condT rfl ?_ | refine W_condF rfl ?_ | refine W_region ?_ | refine W_skip ?_ | refine W_ret ?_ | refine W_block ?_ | refine W_exit ?_))
          refine Exists.intro _ ⟨Weak.refl _, Exists.intro _ ⟨resA_tmp rfl rfl, ?_, rfl⟩⟩
          refine vb_eq ?_
          have : (Int.gcd (Int.gcd t.h t.v) (Int.gcd t.m t.d) : Nat) = gcd4 t := rfl
          simp only [thOk, thIn, e1, e2, e3, e4, this, Bool.true_and]
          rw [Bool.eq_iff_iff]
          simp
          omega
theorem implThrustOk_ok (t : Th) : CallOk Tryz.prog 113 [t.av] (fun r => r = vb (thOk t)) := by
  have h1 := within_ok t.d 1 1000000
  have h2 := within_ok t.h 0 1000000000000
  have h3 := within_ok t.v (-10000000000000) 10000000000000
  have h4 := within_ok t.m (-10000000000000) 10000000000000
  refine callOk Tryz.func113 Tryz.ntmps113 Tryz.results113 rfl rfl rfl fun B w0 M I0 V0 => ?_
  cases e1 : inR t.d 1 1000000
  · rw [e1] at h1
    (repeat (first | refine WL_nil ?_ | (apply wl0 (hd := rfl); (first | exact qv0 | exact QV_bne Tryz.underlying4 rfl rfl | exact QV_beq Tryz.underlying4 rfl rfl | exact qv1 | exact q_callA (h1)); (exact gy0)) | (apply wlb (hd := rfl); (first | exact q_box rfl rfl rfl | exact q_alloc); (exact gy0); rfl) | refine wln ⟨_, rfl, rfl⟩ rfl ?_ | refine wlnu ⟨_, rfl, rfl⟩ rfl ?_ | refine wst rfl rfl rfl List.not_mem_nil rfl rfl rfl rfl rfl rfl ?_ | refine W_seq ?_ | refine W_condT rfl ?_ | refine W_condF rfl ?_ | refine W_region ?_ | refine W_skip ?_ | refine W_ret ?_ | refine W_block ?_ | refine W_exit ?_))
    refine Exists.intro _ ⟨Weak.refl _, Exists.intro _ ⟨resA_tmp rfl rfl, ?_, rfl⟩⟩
    exact vb_eq (by simp [thOk, thIn, e1])
  · rw [e1] at h1
    cases e2 : inR t.h 0 1000000000000
    · rw [e2] at h2
      (repeat (first | refine WL_nil ?_ | (apply wl0 (hd := rfl); (first | exact qv0 | exact QV_bne Tryz.underlying4 rfl rfl | exact QV_beq Tryz.underlying4 rfl rfl | exact qv1 | exact q_callA (h1) | exact q_callA (h2)); (exact gy0)) | (apply wlb (hd := rfl); (first | exact q_box rfl rfl rfl | exact q_alloc); (exact gy0); rfl) | refine wln ⟨_, rfl, rfl⟩ rfl ?_ | refine wlnu ⟨_, rfl, rfl⟩ rfl ?_ | refine wst rfl rfl rfl List.not_mem_nil rfl rfl rfl rfl rfl rfl ?_ | refine W_seq ?_ | refine W_condT rfl ?_ | refine W_condF rfl ?_ | refine W_region ?_ | refine W_skip ?_ | refine W_ret ?_ | refine W_block ?_ | refine W_exit ?_))
      refine Exists.intro _ ⟨Weak.refl _, Exists.intro _ ⟨resA_tmp rfl rfl, ?_, rfl⟩⟩
      exact vb_eq (by simp [thOk, thIn, e2])
    · rw [e2] at h2
      cases e3 : inR t.v (-10000000000000) 10000000000000
      · rw [e3] at h3
        (repeat (first | refine WL_nil ?_ | (apply wl0 (hd := rfl); (first | exact qv0 | exact QV_bne Tryz.underlying4 rfl rfl | exact QV_beq Tryz.underlying4 rfl rfl | exact qv1 | exact q_callA (h1) | exact q_callA (h2) | exact q_callA (h3)); (exact gy0)) | (apply wlb (hd := rfl); (first | exact q_box rfl rfl rfl | exact q_alloc); (exact gy0); rfl) | refine wln ⟨_, rfl, rfl⟩ rfl ?_ | refine wlnu ⟨_, rfl, rfl⟩ rfl ?_ | refine wst rfl rfl rfl List.not_mem_nil rfl rfl rfl rfl rfl rfl ?_ | refine W_seq ?_ | refine W_condT rfl ?_ | refine W_condF rfl ?_ | refine W_region ?_ | refine W_skip ?_ | refine W_ret ?_ | refine W_block ?_ | refine W_exit ?_))
        refine Exists.intro _ ⟨Weak.refl _, Exists.intro _ ⟨resA_tmp rfl rfl, ?_, rfl⟩⟩
        exact vb_eq (by simp [thOk, thIn, e3])
      · rw [e3] at h3
        cases e4 : inR t.m (-10000000000000) 10000000000000
        · rw [e4] at h4
          (repeat (first | refine WL_nil ?_ | (apply wl0 (hd := rfl); (first | exact qv0 | exact QV_bne Tryz.underlying4 rfl rfl | exact QV_beq Tryz.underlying4 rfl rfl | exact qv1 | exact q_callA (h1) | exact q_callA (h2) | exact q_callA (h3) | exact q_callA (h4)); (exact gy0)) | (apply wlb (hd := rfl); (first | exact q_box rfl rfl rfl | exact q_alloc); (exact gy0); rfl) | refine wln ⟨_, rfl, rfl⟩ rfl ?_ | refine wlnu ⟨_, rfl, rfl⟩ rfl ?_ | refine wst rfl rfl rfl List.not_mem_nil rfl rfl rfl rfl rfl rfl ?_ | refine W_seq ?_ | refine W_condT rfl ?_ | refine W_condF rfl ?_ | refine W_region ?_ | refine W_skip ?_ | refine W_ret ?_ | refine W_block ?_ | refine W_exit ?_))
          refine Exists.intro _ ⟨Weak.refl _, Exists.intro _ ⟨resA_tmp rfl rfl, ?_, rfl⟩⟩
          exact vb_eq (by simp [thOk, thIn, e4])
        · rw [e4] at h4
          have b1 := inR_true.1 e1
          have b2 := inR_true.1 e2
          have b3 := inR_true.1 e3
          have b4 := inR_true.1 e4
          have g1 := commonDivisor_ok [t.h, t.v, t.m, t.d] (by simp) (by simp; omega)
          rw [gcd4_list] at g1
          (repeat (first | refine WL_nil ?_ | (apply wl0 (hd := rfl); (first | exact qv0 | exact QV_bne Tryz.underlying4 rfl rfl | exact QV_beq Tryz.underlying4 rfl rfl | exact qv1 | exact q_callA (h1) | exact q_callA (h2) | exact q_callA (h3) | exact q_callA (h4) | exact q_callA (g1)); (exact gy0)) | (apply wlb (hd := rfl); (first | exact q_box rfl rfl rfl | exact q_alloc); (exact gy0); rfl) | refine wln ⟨_, rfl, rfl⟩ rfl ?_ | refine wlnu ⟨_, rfl, rfl⟩ rfl ?_ | (apply wln1 (hd := rfl); exact q_buildSlice 30 rfl rfl rfl rfl; (exact gy0); rfl) | refine wst rfl rfl rfl List.not_mem_nil rfl rfl rfl rfl rfl rfl ?_ | refine W_seq ?_ | refine W_condT rfl ?_ | refine W_condF rfl ?_ | refine W_region ?_ | refine W_skip ?_ | refine W_ret ?_ | refine W_block ?_ | refine W_exit ?_))
          refine Exists.intro _ ⟨Weak.refl _, Exists.intro _ ⟨resA_tmp rfl rfl, ?_, rfl⟩⟩
          refine vb_eq ?_
          simp only [thOk, thIn, e1, e2, e3, e4, Bool.true_and]
          rw [Bool.eq_iff_iff]
          simp
          omega
end Go.Proofs.YtkieepmkcaipaaaGreat
