/- SumOfRows of the reference; IsProof, both ways. -/
import Derived.Test.YtkadjimnamcjbaaYAPk2
import Derived.Test.YtkadjimnamcjbaaZ2
namespace Go.Proofs.Ytkadjimnamcjbaa
open Go.Eng
set_option maxRecDepth 100000
attribute [local irreducible] QV TV WL HW W CallOk Weak

/-- The sum of one number of the rows, each with its factor: of the first k. -/
def sumR (rs : List Rw) (ks fs : List Int) (g : Rw → Int) : Nat → Int
  | 0 => 0
  | k + 1 => sumR rs ks fs g k + iat fs k * g (wat rs (iat ks k).toNat)
def sumP (rs : List Rw) (ks fs : List Int) (g : Rw → Int) : Int := bif pfB rs ks fs then sumR rs ks fs g ks.length else 0
def ispB (rs : List Rw) (ks fs : List Int) : Bool := pfB rs ks fs && (decide (sumP rs ks fs Rw.a = 0) && (decide (sumP rs ks fs Rw.b = 0) && (decide (sumP rs ks fs Rw.c = 0) && decide (sumP rs ks fs Rw.d < 0))))
theorem pf_at {rs : List Rw} {ks fs : List Int} (h : pfB rs ks fs = true) {k : Nat} (hk : k < ks.length) : (0 ≤ iat ks k ∧ iat ks k < rs.length) ∧ (1 ≤ iat fs k ∧ iat fs k ≤ 1000000) ∧ fs.length = ks.length := by
  simp only [pfB, pfHd, Bool.and_eq_true, decide_eq_true_eq] at h
  have h1 := List.all_eq_true.1 h.2.2 k (List.mem_range.2 hk)
  simp only [pfAt, ascAt, Bool.and_eq_true] at h1
  have h2 := inR_true.1 h1.1.1
  have h3 := inR_true.1 h1.2
  exact ⟨by omega, h3, h.1.2.2⟩
theorem pf_len {rs : List Rw} {ks fs : List Int} (h : pfB rs ks fs = true) : 1 ≤ ks.length ∧ ks.length ≤ 4 ∧ rs.all rowB = true := by
  simp only [pfB, pfHd, Bool.and_eq_true, decide_eq_true_eq] at h
  have := inR_true.1 h.1.2.1
  exact ⟨by omega, by omega, h.2.1⟩
theorem wat_ok {rs : List Rw} (h : rs.all rowB = true) {i : Nat} (hi : i < rs.length) : rowB (wat rs i) = true := List.all_eq_true.1 h _ (List.mem_of_getElem? (wat_lt hi))
/-- One term. -/
theorem term_bd {rs : List Rw} {ks fs : List Int} (h : pfB rs ks fs = true) {k : Nat} (hk : k < ks.length) {g : Rw → Int} {m : Int} (hg : ∀ r, rowB r = true → -m ≤ g r ∧ g r ≤ m) : -(1000000 * m) ≤ iat fs k * g (wat rs (iat ks k).toNat) ∧ iat fs k * g (wat rs (iat ks k).toNat) ≤ 1000000 * m := by
  obtain ⟨h1, h2, _⟩ := pf_at h hk
  have h3 := hg _ (wat_ok (pf_len h).2.2 (i := (iat ks k).toNat) (by omega))
  exact mul_bd (a := iat fs k) (m := 1000000) (by omega) h3
theorem sumR_bd {rs : List Rw} {ks fs : List Int} (h : pfB rs ks fs = true) {g : Rw → Int} {m : Int} (hg : ∀ r, rowB r = true → -m ≤ g r ∧ g r ≤ m) : ∀ k, k ≤ ks.length → -(k * (1000000 * m)) ≤ sumR rs ks fs g k ∧ sumR rs ks fs g k ≤ k * (1000000 * m)
  | 0, _ => by simp [sumR]
  | k + 1, hk => by
    have h1 := sumR_bd h hg k (by omega)
    have h2 := term_bd h (show k < ks.length by omega) hg
    simp only [sumR]
    have e : ((k + 1 : Nat) : Int) * (1000000 * m) = k * (1000000 * m) + 1000000 * m := by rw [Int.natCast_add, Int.add_mul]; simp
    rw [e]
    omega
theorem row_a (r : Rw) (h : rowB r = true) : -1000000000 ≤ r.a ∧ r.a ≤ 1000000000 := by rw [rowB_true] at h; omega
theorem row_b (r : Rw) (h : rowB r = true) : -1000000000 ≤ r.b ∧ r.b ≤ 1000000000 := by rw [rowB_true] at h; omega
theorem row_c (r : Rw) (h : rowB r = true) : -1000000000 ≤ r.c ∧ r.c ≤ 1000000000 := by rw [rowB_true] at h; omega
theorem row_d (r : Rw) (h : rowB r = true) : -1000000000 ≤ r.d ∧ r.d ≤ 1000000000 := by rw [rowB_true] at h; omega
/-- No number grows too large. -/
theorem sum_small {rs : List Rw} {ks fs : List Int} (h : pfB rs ks fs = true) {g : Rw → Int} (hg : ∀ r, rowB r = true → -1000000000 ≤ g r ∧ g r ≤ 1000000000) {k : Nat} (hk : k ≤ ks.length) : -4000000000000000 ≤ sumR rs ks fs g k ∧ sumR rs ks fs g k ≤ 4000000000000000 := by
  have h1 := sumR_bd h hg k hk
  have h2 := (pf_len h).2.1
  omega
abbrev sumAv (rs : List Rw) (ks fs : List Int) : AV := .tup [vi (sumP rs ks fs Rw.a), vi (sumP rs ks fs Rw.b), vi (sumP rs ks fs Rw.c), vi (sumP rs ks fs Rw.d)]
set_option maxHeartbeats 4000000 in
theorem sumOfRows_ok (rs : List Rw) (ks fs : List Int) (hr : rs.length ≤ 1048576) (hn : ks.length ≤ 1048576) (hf : fs.length ≤ 1048576) : CallOk Try.prog 200 [slRw rs, .agg [slI ks, slI fs]] (fun r => r = sumAv rs ks fs) := by
  have hpf := proofOk_ok rs ks fs hr hn hf
  unfold sumAv sumP
  refine callOk Try.func200 Try.ntmps200 Try.results200 rfl rfl rfl fun B w0 I0 => ?_
  cases e : pfB rs ks fs
  · rw [e] at hpf
    by_cases h0 : 0 < ks.length
    · have g1 : abin .lss .i64 0 (ks.length : Int) = some (.bool true) := by simp only [abin]; rw [decide_eq_true (by omega)]
      (repeat (first | refine WL_nil ?_ | (apply wl0 (hd := rfl); (first | exact qv0 | exact QV_bne Try.underlying4 rfl rfl | exact QV_beq Try.underlying4 rfl rfl | exact qv1); (exact gy0)) | (apply wlb (hd := rfl); (first | exact q_box rfl rfl rfl | exact q_alloc); (exact gy0); rfl) | refine wln ⟨_, rfl, rfl⟩ rfl ?_ | refine wlnu ⟨_, rfl, rfl⟩ rfl ?_ | refine wst rfl rfl rfl List.not_mem_nil rfl rfl rfl rfl rfl rfl ?_ | refine W_seq ?_ | refine W_condT rfl ?_ | refine W_condF rfl ?_ | refine W_region ?_ | refine W_skip ?_ | refine W_ret ?_ | refine W_block ?_ | refine W_exit ?_))
      refine W_rounds 1 ?_
      (repeat (first | refine WL_nil ?_ | (apply wl0 (hd := rfl); (first | exact QV_bin rfl rfl g1 | exact qv0 | exact QV_bne Try.underlying4 rfl rfl | exact QV_beq Try.underlying4 rfl rfl | exact qv1 | exact q_callA (hpf)); (exact gy0)) | (apply wlb (hd := rfl); (first | exact q_box rfl rfl rfl | exact q_alloc); (exact gy0); rfl) | refine wln ⟨_, rfl, rfl⟩ rfl ?_ | refine wlnu ⟨_, rfl, rfl⟩ rfl ?_ | refine wst rfl rfl rfl List.not_mem_nil rfl rfl rfl rfl rfl rfl ?_ | refine W_seq ?_ | refine W_condT rfl ?_ | refine W_condF rfl ?_ | refine W_region ?_ | refine W_skip ?_ | refine W_ret ?_ | refine W_block ?_ | refine W_exit ?_))
      refine Exists.intro _ ⟨Weak.refl _, Exists.intro _ ⟨resA_tmp rfl (resA_tmp rfl (resA_tmp rfl (resA_tmp rfl rfl))), ?_, rfl⟩⟩
      rfl
    · have g1 : abin .lss .i64 0 (ks.length : Int) = some (.bool false) := by simp only [abin]; rw [decide_eq_false (by omega)]
      (repeat (first | refine WL_nil ?_ | (apply wl0 (hd := rfl); (first | exact qv0 | exact QV_bne Try.underlying4 rfl rfl | exact QV_beq Try.underlying4 rfl rfl | exact qv1); (exact gy0)) | (apply wlb (hd := rfl); (first | exact q_box rfl rfl rfl | exact q_alloc); (exact gy0); rfl) | refine wln ⟨_, rfl, rfl⟩ rfl ?_ | refine wlnu ⟨_, rfl, rfl⟩ rfl ?_ | refine wst rfl rfl rfl List.not_mem_nil rfl rfl rfl rfl rfl rfl ?_ | refine W_seq ?_ | refine W_condT rfl ?_ | refine W_condF rfl ?_ | refine W_region ?_ | refine W_skip ?_ | refine W_ret ?_ | refine W_block ?_ | refine W_exit ?_))
      refine W_rounds 1 ?_
      (repeat (first | refine WL_nil ?_ | (apply wl0 (hd := rfl); (first | exact QV_bin rfl rfl g1 | exact qv0 | exact QV_bne Try.underlying4 rfl rfl | exact QV_beq Try.underlying4 rfl rfl | exact qv1 | exact q_callA (hpf)); (exact gy0)) | (apply wlb (hd := rfl); (first | exact q_box rfl rfl rfl | exact q_alloc); (exact gy0); rfl) | refine wln ⟨_, rfl, rfl⟩ rfl ?_ | refine wlnu ⟨_, rfl, rfl⟩ rfl ?_ | refine wst rfl rfl rfl List.not_mem_nil rfl rfl rfl rfl rfl rfl ?_ | refine W_seq ?_ | refine W_condT rfl ?_ | refine W_condF rfl ?_ | refine W_region ?_ | refine W_skip ?_ | refine W_ret ?_ | refine W_block ?_ | refine W_exit ?_))
      refine Exists.intro _ ⟨Weak.refl _, Exists.intro _ ⟨resA_tmp rfl (resA_tmp rfl (resA_tmp rfl (resA_tmp rfl rfl))), ?_, rfl⟩⟩
      rfl
  · rw [e] at hpf
    have hl := pf_len e
    (repeat (first | refine WL_nil ?_ | (apply wl0 (hd := rfl); (first | exact qv0 | exact QV_bne Try.underlying4 rfl rfl | exact QV_beq Try.underlying4 rfl rfl | exact qv1); (exact gy0)) | (apply wlb (hd := rfl); (first | exact q_box rfl rfl rfl | exact q_alloc); (exact gy0); rfl) | refine wln ⟨_, rfl, rfl⟩ rfl ?_ | refine wlnu ⟨_, rfl, rfl⟩ rfl ?_ | refine wst rfl rfl rfl List.not_mem_nil rfl rfl rfl rfl rfl rfl ?_ | refine W_seq ?_ | refine W_condT rfl ?_ | refine W_condF rfl ?_ | refine W_region ?_ | refine W_skip ?_ | refine W_ret ?_ | refine W_block ?_ | refine W_exit ?_))
    refine W_loop (fun n s => ∃ (k : Nat) (a b c d : Int), k ≤ ks.length ∧ n = ks.length - k ∧ a = sumR rs ks fs Rw.a k ∧ b = sumR rs ks fs Rw.b k ∧ c = sumR rs ks fs Rw.c k ∧ d = sumR rs ks fs Rw.d k ∧ s = ⟨[(0, slRw rs), (3, .ptr 3 0), (8, vi a), (9, vi b), (10, vi c), (11, vi d), (12, vi k)], [(3, [slI ks, slI fs])], []⟩) ⟨_, _, ⟨0, 0, 0, 0, 0, by omega, rfl, rfl, rfl, rfl, rfl, rfl⟩, (weak_mk (by repeat' (first | exact trivial | refine And.intro ?_ ?_ | exact Le.refl | exact Le.nilOwn rfl | exact Le.nilSl | exact Le.ownSl | exact Le.top)) (by repeat' (first | exact trivial | refine And.intro ?_ ?_ | exact ⟨_, rfl, Les.refl _⟩ | exact ⟨_, rfl, by repeat' (first | exact Les.nil | exact Les.cons Le.refl (Les.refl _) | refine Les.cons (by first | exact Le.top | exact Le.refl | exact Le.ownSl | exact Le.nilSl) ?_)⟩)) rfl (by repeat' (first | exact trivial | refine And.intro ?_ ?_ | exact rfl | exact refs_fill (fun _ => rfl) rfl | exact refs_map (fun _ => rfl))) (fun _ _ _ h => by first | exact h.elim | (obtain ⟨rfl, rfl, rfl⟩ := h; simp)))⟩ ?_
    rintro n s ⟨k, a, b, c, d, hk, rfl, ha, hb, hc', hd, rfl⟩
    by_cases hlt : k < ks.length
    · have g1 : abin .lss .i64 (k : Int) (ks.length : Int) = some (.bool true) := by simp [abin]; omega
      obtain ⟨p1, p2, p3⟩ := pf_at e hlt
      have hp := iat_lt hlt
      have hq := iat_lt (show k < fs.length by omega)
      obtain ⟨i, hi⟩ : ∃ i : Nat, i = (iat ks k).toNat := ⟨_, rfl⟩
      have hi' : iat ks k = (i : Int) := by omega
      have hw := wat_lt (show i < rs.length by omega)
      have sa := sum_small e row_a hk
      have sb := sum_small e row_b hk
      have sc := sum_small e row_c hk
      have sd := sum_small e row_d hk
      have ta := term_bd e hlt row_a
      have tb := term_bd e hlt row_b
      have tc := term_bd e hlt row_c
      have td := term_bd e hlt row_d
      rw [← hi] at ta tb tc td
      rw [← ha] at sa
      rw [← hb] at sb
      rw [← hc'] at sc
      rw [← hd] at sd
      have ma : aar .mul (iat fs k) (wat rs i).a = some (iat fs k * (wat rs i).a) := rfl
      have mb : aar .mul (iat fs k) (wat rs i).b = some (iat fs k * (wat rs i).b) := rfl
      have mc : aar .mul (iat fs k) (wat rs i).c = some (iat fs k * (wat rs i).c) := rfl
      have md : aar .mul (iat fs k) (wat rs i).d = some (iat fs k * (wat rs i).d) := rfl
      have ra : aar .add a (iat fs k * (wat rs i).a) = some (a + iat fs k * (wat rs i).a) := rfl
      have rb : aar .add b (iat fs k * (wat rs i).b) = some (b + iat fs k * (wat rs i).b) := rfl
      have rc : aar .add c (iat fs k * (wat rs i).c) = some (c + iat fs k * (wat rs i).c) := rfl
      have rd : aar .add d (iat fs k * (wat rs i).d) = some (d + iat fs k * (wat rs i).d) := rfl
      (repeat (first | refine WL_nil ?_ | (apply wl0 (hd := rfl); (first | exact QV_bin rfl rfl g1 | exact QV_ar rfl rfl ma (by omega) | exact QV_ar rfl rfl mb (by omega) | exact QV_ar rfl rfl mc (by omega) | exact QV_ar rfl rfl md (by omega) | exact QV_ar rfl rfl ra (by omega) | exact QV_ar rfl rfl rb (by omega) | exact QV_ar rfl rfl rc (by omega) | exact QV_ar rfl rfl rd (by omega) | exact qv0 | exact QV_bne Try.underlying4 rfl rfl | exact QV_beq Try.underlying4 rfl rfl | exact qv1 | exact q_callA (hpf) | exact QV_indexAddr rfl rfl rfl rfl (row_at hp) | exact QV_indexAddr rfl rfl rfl rfl (row_at hq) | exact QV_indexAddr rfl rfl rfl hi' (row_at hw)); (exact gy0)) | (apply wlb (hd := rfl); (first | exact q_box rfl rfl rfl | exact q_alloc); (exact gy0); rfl) | refine wln ⟨_, rfl, rfl⟩ rfl ?_ | refine wlnu ⟨_, rfl, rfl⟩ rfl ?_ | refine wst rfl rfl rfl List.not_mem_nil rfl rfl rfl rfl rfl rfl ?_ | refine W_seq ?_ | refine W_condT rfl ?_ | refine W_condF rfl ?_ | refine W_region ?_ | refine W_skip ?_ | refine W_ret ?_ | refine W_block ?_ | refine W_exit ?_))
      refine Exists.intro _ (Exists.intro _ ⟨?_, ⟨k + 1, a + iat fs k * (wat rs i).a, b + iat fs k * (wat rs i).b, c + iat fs k * (wat rs i).c, d + iat fs k * (wat rs i).d, by omega, rfl, by rw [ha, hi]; rfl, by rw [hb, hi]; rfl, by rw [hc', hi]; rfl, by rw [hd, hi]; rfl, rfl⟩, (weak_mk (by repeat' (first | exact trivial | refine And.intro ?_ ?_ | exact Le.refl | exact Le.nilOwn rfl | exact Le.nilSl | exact Le.ownSl | exact Le.top)) (by repeat' (first | exact trivial | refine And.intro ?_ ?_ | exact ⟨_, rfl, Les.refl _⟩ | exact ⟨_, rfl, by repeat' (first | exact Les.nil | exact Les.cons Le.refl (Les.refl _) | refine Les.cons (by first | exact Le.top | exact Le.refl | exact Le.ownSl | exact Le.nilSl) ?_)⟩)) rfl (by repeat' (first | exact trivial | refine And.intro ?_ ?_ | exact rfl | exact refs_fill (fun _ => rfl) rfl | exact refs_map (fun _ => rfl))) (fun _ _ _ h => by first | exact h.elim | (obtain ⟨rfl, rfl, rfl⟩ := h; simp)))⟩)
      omega
    · have hk' : k = ks.length := by omega
      subst hk'
      have g1 : abin .lss .i64 (ks.length : Int) (ks.length : Int) = some (.bool false) := by simp [abin]
      subst ha hb hc' hd
      (repeat (first | refine WL_nil ?_ | (apply wl0 (hd := rfl); (first | exact QV_bin rfl rfl g1 | exact qv0 | exact QV_bne Try.underlying4 rfl rfl | exact QV_beq Try.underlying4 rfl rfl | exact qv1); (exact gy0)) | (apply wlb (hd := rfl); (first | exact q_box rfl rfl rfl | exact q_alloc); (exact gy0); rfl) | refine wln ⟨_, rfl, rfl⟩ rfl ?_ | refine wlnu ⟨_, rfl, rfl⟩ rfl ?_ | refine wst rfl rfl rfl List.not_mem_nil rfl rfl rfl rfl rfl rfl ?_ | refine W_seq ?_ | refine W_condT rfl ?_ | refine W_condF rfl ?_ | refine W_region ?_ | refine W_skip ?_ | refine W_ret ?_ | refine W_block ?_ | refine W_exit ?_))
      refine Exists.intro _ ⟨Weak.refl _, Exists.intro _ ⟨resA_tmp rfl (resA_tmp rfl (resA_tmp rfl (resA_tmp rfl rfl))), ?_, rfl⟩⟩
      rfl
set_option maxHeartbeats 2000000 in
theorem isProof_ok (rs : List Rw) (ks fs : List Int) (hr : rs.length ≤ 1048576) (hn : ks.length ≤ 1048576) (hf : fs.length ≤ 1048576) : CallOk Try.prog 191 [slRw rs, .agg [slI ks, slI fs]] (fun r => r = vb (ispB rs ks fs)) := by
  have hsum := sumOfRows_ok rs ks fs hr hn hf
  have hpf := proofOk_ok rs ks fs hr hn hf
  unfold ispB
  unfold sumAv at hsum
  obtain ⟨a, ea⟩ : ∃ a, a = sumP rs ks fs Rw.a := ⟨_, rfl⟩
  obtain ⟨b, eb⟩ : ∃ a, a = sumP rs ks fs Rw.b := ⟨_, rfl⟩
  obtain ⟨c, ec⟩ : ∃ a, a = sumP rs ks fs Rw.c := ⟨_, rfl⟩
  obtain ⟨d, ed⟩ : ∃ a, a = sumP rs ks fs Rw.d := ⟨_, rfl⟩
  rw [← ea, ← eb, ← ec, ← ed] at hsum ⊢
  refine callOk Try.func191 Try.ntmps191 Try.results191 rfl rfl rfl fun B w0 I0 => ?_
  cases e : pfB rs ks fs
  · rw [e] at hpf
    (repeat (first | refine WL_nil ?_ | (apply wl0 (hd := rfl); (first | exact qv0 | exact QV_bne Try.underlying4 rfl rfl | exact QV_beq Try.underlying4 rfl rfl | exact qv1 | exact q_callA (hsum) | exact q_callA (hpf)); (exact gy0)) | (apply wlb (hd := rfl); (first | exact q_box rfl rfl rfl | exact q_alloc); (exact gy0); rfl) | refine wln ⟨_, rfl, rfl⟩ rfl ?_ | refine wlnu ⟨_, rfl, rfl⟩ rfl ?_ | refine wst rfl rfl rfl List.not_mem_nil rfl rfl rfl rfl rfl rfl ?_ | refine W_seq ?_ | refine W_condT rfl ?_ | refine W_condF rfl ?_ | refine W_region ?_ | refine W_skip ?_ | refine W_ret ?_ | refine W_block ?_ | refine W_exit ?_))
    refine Exists.intro _ ⟨Weak.refl _, Exists.intro _ ⟨resA_tmp rfl rfl, ?_, rfl⟩⟩
    rfl
  · rw [e] at hpf
    by_cases za : a = 0
    · have ta : abin .eql .i64 a 0 = some (.bool true) := by simp [abin, za]
      by_cases zb : b = 0
      · have tb : abin .eql .i64 b 0 = some (.bool true) := by simp [abin, zb]
        by_cases zc : c = 0
        · have tc : abin .eql .i64 c 0 = some (.bool true) := by simp [abin, zc]
          have td : abin .lss .i64 d 0 = some (.bool (decide (d < 0))) := rfl
          (repeat (first | refine WL_nil ?_ | (apply wl0 (hd := rfl); (first | exact QV_bin rfl rfl ta | exact QV_bin rfl rfl tb | exact QV_bin rfl rfl tc | exact QV_bin rfl rfl td | exact qv0 | exact QV_bne Try.underlying4 rfl rfl | exact QV_beq Try.underlying4 rfl rfl | exact qv1 | exact q_callA (hsum) | exact q_callA (hpf)); (exact gy0)) | (apply wlb (hd := rfl); (first | exact q_box rfl rfl rfl | exact q_alloc); (exact gy0); rfl) | refine wln ⟨_, rfl, rfl⟩ rfl ?_ | refine wlnu ⟨_, rfl, rfl⟩ rfl ?_ | refine wst rfl rfl rfl List.not_mem_nil rfl rfl rfl rfl rfl rfl ?_ | refine W_seq ?_ | refine W_condT rfl ?_ | refine W_condF rfl ?_ | refine W_region ?_ | refine W_skip ?_ | refine W_ret ?_ | refine W_block ?_ | refine W_exit ?_))
          refine Exists.intro _ ⟨Weak.refl _, Exists.intro _ ⟨resA_tmp rfl rfl, ?_, rfl⟩⟩
          exact vb_eq (by simp [za, zb, zc])
        · have tc : abin .eql .i64 c 0 = some (.bool false) := by simp [abin, zc]
          (repeat (first | refine WL_nil ?_ | (apply wl0 (hd := rfl); (first | exact QV_bin rfl rfl ta | exact QV_bin rfl rfl tb | exact QV_bin rfl rfl tc | exact qv0 | exact QV_bne Try.underlying4 rfl rfl | exact QV_beq Try.underlying4 rfl rfl | exact qv1 | exact q_callA (hsum) | exact q_callA (hpf)); (exact gy0)) | (apply wlb (hd := rfl); (first | exact q_box rfl rfl rfl | exact q_alloc); (exact gy0); rfl) | refine wln ⟨_, rfl, rfl⟩ rfl ?_ | refine wlnu ⟨_, rfl, rfl⟩ rfl ?_ | refine wst rfl rfl rfl List.not_mem_nil rfl rfl rfl rfl rfl rfl ?_ | refine W_seq ?_ | refine W_condT rfl ?_ | refine W_condF rfl ?_ | refine W_region ?_ | refine W_skip ?_ | refine W_ret ?_ | refine W_block ?_ | refine W_exit ?_))
          refine Exists.intro _ ⟨Weak.refl _, Exists.intro _ ⟨resA_tmp rfl rfl, ?_, rfl⟩⟩
          exact vb_eq (by simp [zc])
      · have tb : abin .eql .i64 b 0 = some (.bool false) := by simp [abin, zb]
        (repeat (first | refine WL_nil ?_ | (apply wl0 (hd := rfl); (first | exact QV_bin rfl rfl ta | exact QV_bin rfl rfl tb | exact qv0 | exact QV_bne Try.underlying4 rfl rfl | exact QV_beq Try.underlying4 rfl rfl | exact qv1 | exact q_callA (hsum) | exact q_callA (hpf)); (exact gy0)) | (apply wlb (hd := rfl); (first | exact q_box rfl rfl rfl | exact q_alloc); (exact gy0); rfl) | refine wln ⟨_, rfl, rfl⟩ rfl ?_ | refine wlnu ⟨_, rfl, rfl⟩ rfl ?_ | refine wst rfl rfl rfl List.not_mem_nil rfl rfl rfl rfl rfl rfl ?_ | refine W_seq ?_ | refine W_condT rfl ?_ | refine W_condF rfl ?_ | refine W_region ?_ | refine W_skip ?_ | refine W_ret ?_ | refine W_block ?_ | refine W_exit ?_))
        refine Exists.intro _ ⟨Weak.refl _, Exists.intro _ ⟨resA_tmp rfl rfl, ?_, rfl⟩⟩
        exact vb_eq (by simp [zb])
    · have ta : abin .eql .i64 a 0 = some (.bool false) := by simp [abin, za]
      (repeat (first | refine WL_nil ?_ | (apply wl0 (hd := rfl); (first | exact QV_bin rfl rfl ta | exact qv0 | exact QV_bne Try.underlying4 rfl rfl | exact QV_beq Try.underlying4 rfl rfl | exact qv1 | exact q_callA (hsum) | exact q_callA (hpf)); (exact gy0)) | (apply wlb (hd := rfl); (first | exact q_box rfl rfl rfl | exact q_alloc); (exact gy0); rfl) | refine wln ⟨_, rfl, rfl⟩ rfl ?_ | refine wlnu ⟨_, rfl, rfl⟩ rfl ?_ | refine wst rfl rfl rfl List.not_mem_nil rfl rfl rfl rfl rfl rfl ?_ | refine W_seq ?_ | refine W_condT rfl ?_ | refine W_condF rfl ?_ | refine W_region ?_ | refine W_skip ?_ | refine W_ret ?_ | refine W_block ?_ | refine W_exit ?_))
      refine Exists.intro _ ⟨Weak.refl _, Exists.intro _ ⟨resA_tmp rfl rfl, ?_, rfl⟩⟩
      exact vb_eq (by simp [za])
set_option maxHeartbeats 2000000 in
theorem implIsProof_of (rs : List Rw) (ks fs : List Int) (hr : rs.length ≤ 1048576) (hn : ks.length ≤ 1048576) (hf : fs.length ≤ 1048576) (hsum : CallOk Try.prog 203 [slRw rs, .agg [slI ks, slI fs]] (fun r => r = sumAv rs ks fs)) : CallOk Try.prog 197 [slRw rs, .agg [slI ks, slI fs]] (fun r => r = vb (ispB rs ks fs)) := by
  have hpf := implProofOk_ok rs ks fs hr hn hf
  unfold ispB
  unfold sumAv at hsum
  obtain ⟨a, ea⟩ : ∃ a, a = sumP rs ks fs Rw.a := ⟨_, rfl⟩
  obtain ⟨b, eb⟩ : ∃ a, a = sumP rs ks fs Rw.b := ⟨_, rfl⟩
  obtain ⟨c, ec⟩ : ∃ a, a = sumP rs ks fs Rw.c := ⟨_, rfl⟩
  obtain ⟨d, ed⟩ : ∃ a, a = sumP rs ks fs Rw.d := ⟨_, rfl⟩
  rw [← ea, ← eb, ← ec, ← ed] at hsum ⊢
  refine callOk Try.func197 Try.ntmps197 Try.results197 rfl rfl rfl fun B w0 I0 => ?_
  cases e : pfB rs ks fs
  · rw [e] at hpf
    (repeat (first | refine WL_nil ?_ | (apply wl0 (hd := rfl); (first | exact qv0 | exact QV_bne Try.underlying4 rfl rfl | exact QV_beq Try.underlying4 rfl rfl | exact qv1 | exact q_callA (hsum) | exact q_callA (hpf)); (exact gy0)) | (apply wlb (hd := rfl); (first | exact q_box rfl rfl rfl | exact q_alloc); (exact gy0); rfl) | refine wln ⟨_, rfl, rfl⟩ rfl ?_ | refine wlnu ⟨_, rfl, rfl⟩ rfl ?_ | refine wst rfl rfl rfl List.not_mem_nil rfl rfl rfl rfl rfl rfl ?_ | refine W_seq ?_ | refine W_condT rfl ?_ | refine W_condF rfl ?_ | refine W_region ?_ | refine W_skip ?_ | refine W_ret ?_ | refine W_block ?_ | refine W_exit ?_))
    refine Exists.intro _ ⟨Weak.refl _, Exists.intro _ ⟨resA_tmp rfl rfl, ?_, rfl⟩⟩
    rfl
  · rw [e] at hpf
    by_cases za : a = 0
    · have ta : abin .eql .i64 a 0 = some (.bool true) := by simp [abin, za]
      by_cases zb : b = 0
      · have tb : abin .eql .i64 b 0 = some (.bool true) := by simp [abin, zb]
        by_cases zc : c = 0
        · have tc : abin .eql .i64 c 0 = some (.bool true) := by simp [abin, zc]
          have td : abin .lss .i64 d 0 = some (.bool (decide (d < 0))) := rfl
          (repeat (first | refine WL_nil ?_ | (apply wl0 (hd := rfl); (first | exact QV_bin rfl rfl ta | exact QV_bin rfl rfl tb | exact QV_bin rfl rfl tc | exact QV_bin rfl rfl td | exact qv0 | exact QV_bne Try.underlying4 rfl rfl | exact QV_beq Try.underlying4 rfl rfl | exact qv1 | exact q_callA (hsum) | exact q_callA (hpf)); (exact gy0)) | (apply wlb (hd := rfl); (first | exact q_box rfl rfl rfl | exact q_alloc); (exact gy0); rfl) | refine wln ⟨_, rfl, rfl⟩ rfl ?_ | refine wlnu ⟨_, rfl, rfl⟩ rfl ?_ | refine wst rfl rfl rfl List.not_mem_nil rfl rfl rfl rfl rfl rfl ?_ | refine W_seq ?_ | refine W_condT rfl ?_ | refine W_condF rfl ?_ | refine W_region ?_ | refine W_skip ?_ | refine W_ret ?_ | refine W_block ?_ | refine W_exit ?_))
          refine Exists.intro _ ⟨Weak.refl _, Exists.intro _ ⟨resA_tmp rfl rfl, ?_, rfl⟩⟩
          exact vb_eq (by simp [za, zb, zc])
        · have tc : abin .eql .i64 c 0 = some (.bool false) := by simp [abin, zc]
          (repeat (first | refine WL_nil ?_ | (apply wl0 (hd := rfl); (first | exact QV_bin rfl rfl ta | exact QV_bin rfl rfl tb | exact QV_bin rfl rfl tc | exact qv0 | exact QV_bne Try.underlying4 rfl rfl | exact QV_beq Try.underlying4 rfl rfl | exact qv1 | exact q_callA (hsum) | exact q_callA (hpf)); (exact gy0)) | (apply wlb (hd := rfl); (first | exact q_box rfl rfl rfl | exact q_alloc); (exact gy0); rfl) | refine wln ⟨_, rfl, rfl⟩ rfl ?_ | refine wlnu ⟨_, rfl, rfl⟩ rfl ?_ | refine wst rfl rfl rfl List.not_mem_nil rfl rfl rfl rfl rfl rfl ?_ | refine W_seq ?_ | refine W_condT rfl ?_ | refine W_condF rfl ?_ | refine W_region ?_ | refine W_skip ?_ | refine W_ret ?_ | refine W_block ?_ | refine W_exit ?_))
          refine Exists.intro _ ⟨Weak.refl _, Exists.intro _ ⟨resA_tmp rfl rfl, ?_, rfl⟩⟩
          exact vb_eq (by simp [zc])
      · have tb : abin .eql .i64 b 0 = some (.bool false) := by simp [abin, zb]
        (repeat (first | refine WL_nil ?_ | (apply wl0 (hd := rfl); (first | exact QV_bin rfl rfl ta | exact QV_bin rfl rfl tb | exact qv0 | exact QV_bne Try.underlying4 rfl rfl | exact QV_beq Try.underlying4 rfl rfl | exact qv1 | exact q_callA (hsum) | exact q_callA (hpf)); (exact gy0)) | (apply wlb (hd := rfl); (first | exact q_box rfl rfl rfl | exact q_alloc); (exact gy0); rfl) | refine wln ⟨_, rfl, rfl⟩ rfl ?_ | refine wlnu ⟨_, rfl, rfl⟩ rfl ?_ | refine wst rfl rfl rfl List.not_mem_nil rfl rfl rfl rfl rfl rfl ?_ | refine W_seq ?_ | refine W_condT rfl ?_ | refine W_condF rfl ?_ | refine W_region ?_ | refine W_skip ?_ | refine W_ret ?_ | refine W_block ?_ | refine W_exit ?_))
        refine Exists.intro _ ⟨Weak.refl _, Exists.intro _ ⟨resA_tmp rfl rfl, ?_, rfl⟩⟩
        exact vb_eq (by simp [zb])
    · have ta : abin .eql .i64 a 0 = some (.bool false) := by simp [abin, za]
      (repeat (first | refine WL_nil ?_ | (apply wl0 (hd := rfl); (first | exact QV_bin rfl rfl ta | exact qv0 | exact QV_bne Try.underlying4 rfl rfl | exact QV_beq Try.underlying4 rfl rfl | exact qv1 | exact q_callA (hsum) | exact q_callA (hpf)); (exact gy0)) | (apply wlb (hd := rfl); (first | exact q_box rfl rfl rfl | exact q_alloc); (exact gy0); rfl) | refine wln ⟨_, rfl, rfl⟩ rfl ?_ | refine wlnu ⟨_, rfl, rfl⟩ rfl ?_ | refine wst rfl rfl rfl List.not_mem_nil rfl rfl rfl rfl rfl rfl ?_ | refine W_seq ?_ | refine W_condT rfl ?_ | refine W_condF rfl ?_ | refine W_region ?_ | refine W_skip ?_ | refine W_ret ?_ | refine W_block ?_ | refine W_exit ?_))
      refine Exists.intro _ ⟨Weak.refl _, Exists.intro _ ⟨resA_tmp rfl rfl, ?_, rfl⟩⟩
      exact vb_eq (by simp [za])
end Go.Proofs.Ytkadjimnamcjbaa
