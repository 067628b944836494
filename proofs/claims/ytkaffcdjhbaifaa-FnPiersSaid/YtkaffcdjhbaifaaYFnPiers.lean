/- FnPiers: a pier of the least width stands, and a narrower one does not. -/
import Derived.Test.YtkaffcdjhbaifaaYAPs
import Derived.Test.YtkaffcdjhbaifaaYASg
import Derived.Test.YtkaffcdjhbaifaaYADp
import Derived.Test.YtkaffcdjhbaifaaYACode
import Derived.Test.YtkaffcdjhbaifaaYABg
namespace Go.Proofs.Ytkaffcdjhbaifaa
open Go.ChangeShapes Go.WideShapes Go.ChangeAt Go.RowKit Go.Deep Go.Eng

theorem wr64 {x : Int} (h0 : -9223372036854775808 ≤ x) (h1 : x ≤ 9223372036854775807) : wrap64 x = x := by unfold wrap64; omega
/-- What turns a pier of width x. -/
def tT (b h d n x : Int) : Int := 2 * h * b - 2 * d * x - n * 6 * x * x * b
structure PR (b h d n : Int) : Prop where
  b0 : 1 ≤ b
  b1 : b ≤ 25
  h0 : 0 ≤ h
  h1 : h < 900
  d0 : 0 ≤ d
  d1 : d < 400
  n0 : 1 ≤ n
  n1 : n ≤ 3
theorem mul_in {x y X Y : Int} (x0 : 0 ≤ x) (x1 : x ≤ X) (y0 : 0 ≤ y) (y1 : y ≤ Y) : 0 ≤ x * y ∧ x * y ≤ X * Y :=
  ⟨Int.mul_nonneg x0 y0, Int.mul_le_mul x1 y1 y0 (by omega)⟩
theorem turnW_eq {b h d n : Int} (r : PR b h d n) {x : Int} (x0 : 0 ≤ x) (x1 : x ≤ 60) : turnW x b h d n = tT b h d n x := by
  have := r.b0; have := r.b1; have := r.h0; have := r.h1; have := r.d0; have := r.d1; have := r.n0; have := r.n1
  have m1 := mul_in (x := 2 * h) (y := b) (X := 1800) (Y := 25) (by omega) (by omega) (by omega) (by omega)
  have m2 := mul_in (x := 2 * d) (y := x) (X := 800) (Y := 60) (by omega) (by omega) (by omega) (by omega)
  have m3 := mul_in (x := n * 6) (y := x) (X := 18) (Y := 60) (by omega) (by omega) (by omega) (by omega)
  have m4 := mul_in (x := n * 6 * x) (y := x) (X := 1080) (Y := 60) (by omega) (by omega) (by omega) (by omega)
  have m5 := mul_in (x := n * 6 * x * x) (y := b) (X := 64800) (Y := 25) (by omega) (by omega) (by omega) (by omega)
  unfold turnW tT
  rw [wr64 (x := 2 * h) (by omega) (by omega), wr64 (x := 2 * d) (by omega) (by omega), wr64 (x := n * 6) (by omega) (by omega), wr64 (x := 2 * h * b) (by omega) (by omega), wr64 (x := 2 * d * x) (by omega) (by omega),
    wr64 (x := n * 6 * x) (by omega) (by omega), wr64 (x := n * 6 * x * x) (by omega) (by omega), wr64 (x := n * 6 * x * x * b) (by omega) (by omega), wr64 (x := 2 * h * b - 2 * d * x) (by omega) (by omega), wr64 (by omega) (by omega)]
theorem tT_bd {b h d n : Int} (r : PR b h d n) {x : Int} (x0 : 0 ≤ x) (x1 : x ≤ 60) : -2000000 ≤ tT b h d n x ∧ tT b h d n x ≤ 2000000 := by
  have := r.b0; have := r.b1; have := r.h0; have := r.h1; have := r.d0; have := r.d1; have := r.n0; have := r.n1
  have m1 := mul_in (x := 2 * h) (y := b) (X := 1800) (Y := 25) (by omega) (by omega) (by omega) (by omega)
  have m2 := mul_in (x := 2 * d) (y := x) (X := 800) (Y := 60) (by omega) (by omega) (by omega) (by omega)
  have m3 := mul_in (x := n * 6) (y := x) (X := 18) (Y := 60) (by omega) (by omega) (by omega) (by omega)
  have m4 := mul_in (x := n * 6 * x) (y := x) (X := 1080) (Y := 60) (by omega) (by omega) (by omega) (by omega)
  have m5 := mul_in (x := n * 6 * x * x) (y := b) (X := 64800) (Y := 25) (by omega) (by omega) (by omega) (by omega)
  unfold tT
  omega
theorem tT_step {b h d n : Int} (r : PR b h d n) {x : Int} (x0 : 0 ≤ x) : tT b h d n (x + 1) ≤ tT b h d n x := by
  have e : tT b h d n x - tT b h d n (x + 1) = 2 * d + (n * 6 * b) * (2 * x + 1) := by unfold tT; grind
  have h1 : 0 ≤ n * 6 * b := Int.mul_nonneg (by have := r.n0; omega) (by have := r.b0; omega)
  have h2 : 0 ≤ (n * 6 * b) * (2 * x + 1) := Int.mul_nonneg h1 (by omega)
  have := r.d0
  omega
theorem okB_eq {b h d n : Int} (r : PR b h d n) (x : Int) : okB x b h d n = inR x 1 60 := by
  have := r.b0; have := r.b1; have := r.h0; have := r.h1; have := r.d0; have := r.d1; have := r.n0; have := r.n1
  unfold okB pierB pushB
  rw [inR_true.2 (show (1 : Int) ≤ b ∧ b ≤ 60 by omega), inR_true.2 (show (-1000000000000 : Int) ≤ h ∧ h ≤ 1000000000000 by omega), inR_true.2 (show (-1000000000000 : Int) ≤ d ∧ d ≤ 1000000000000 by omega), inR_true.2 (show (1 : Int) ≤ n ∧ n ≤ 1000000 by omega)]
  simp
theorem stdW_iff {b h d n : Int} (r : PR b h d n) (x : Int) : stdW b h d n x = true ↔ (1 ≤ x ∧ x ≤ 60) ∧ tT b h d n x ≤ 0 := by
  unfold stdW
  rw [okB_eq r]
  simp only [Bool.and_eq_true, inR_true, decide_eq_true_eq]
  constructor
  · rintro ⟨h1, _, h2⟩
    rw [turnW_eq r (by omega) (by omega)] at h2
    exact ⟨h1, h2⟩
  · rintro ⟨h1, h2⟩
    rw [turnW_eq r (by omega) (by omega)]
    exact ⟨h1, r.h0, h2⟩
theorem tT_mono {b h d n : Int} (r : PR b h d n) {x : Int} (x0 : 0 ≤ x) : ∀ k : Nat, tT b h d n (x + k) ≤ tT b h d n x
  | 0 => by rw [show x + ((0 : Nat) : Int) = x by omega]; exact Int.le_refl _
  | k + 1 => by
    have h1 := tT_mono r x0 k
    have h2 := tT_step r (x := x + k) (by omega)
    rw [show x + ((k + 1 : Nat) : Int) = x + k + 1 by omega]
    omega
structure PF (a b h d n S T T0 w : Int) (s : Bool) : Prop where
  tO : turnO a b h d n = T
  t0 : turnO a b h 0 n = T0
  bd : (-2000000 ≤ T ∧ T ≤ 2000000) ∧ -2000000 ≤ T0 ∧ T0 ≤ 2000000
  eq : T = T0 - S
  eS : S = 2 * d * a
  sb : 0 ≤ S ∧ S ≤ 10000
  st : stdW b h d n a = s
  lw : lwG (stdW b h d n) 60 1 = w
  sT : s = true ↔ T ≤ 0
  wide : s = true → stdW b h d n (a + 1) = true
  wl : s = true → 1 ≤ w ∧ w ≤ a
  wn : s = false → w = -1 ∨ 1 < w
  wr : -1 ≤ w ∧ w ≤ 60
  ws : 0 < w → stdW b h d n w = true
  wp : 1 < w → stdW b h d n (w - 1) = false
theorem pf {a b h d n : Int} (a0 : 1 ≤ a ∧ a ≤ 12) (r : PR b h d n) : ∃ S T T0 w s, PF a b h d n S T T0 w s := by
  have r0 : PR b h 0 n := ⟨r.b0, r.b1, r.h0, r.h1, by omega, by omega, r.n0, r.n1⟩
  have e1 : turnO a b h d n = tT b h d n a := by
    unfold turnO
    rw [okB_eq r, inR_true.2 (show (1 : Int) ≤ a ∧ a ≤ 60 by omega), if_pos rfl, turnW_eq r (by omega) (by omega)]
  have e2 : turnO a b h 0 n = tT b h 0 n a := by
    unfold turnO
    rw [okB_eq r0, inR_true.2 (show (1 : Int) ≤ a ∧ a ≤ 60 by omega), if_pos rfl, turnW_eq r0 (by omega) (by omega)]
  have m := mul_in (x := 2 * d) (y := a) (X := 800) (Y := 12) (by have := r.d0; omega) (by have := r.d1; omega) (by omega) (by omega)
  have hs : stdW b h d n a = true ↔ tT b h d n a ≤ 0 := by
    rw [stdW_iff r]
    exact ⟨fun h => h.2, fun h => ⟨by omega, h⟩⟩
  have hwide : stdW b h d n a = true → stdW b h d n (a + 1) = true := fun h1 => by
    rw [stdW_iff r]
    have := tT_step r (x := a) (by omega)
    have := hs.1 h1
    exact ⟨by omega, by omega⟩
  refine ⟨2 * d * a, _, _, _, _, e1, e2, ⟨tT_bd r (by omega) (by omega), tT_bd r0 (by omega) (by omega)⟩, by unfold tT; grind, rfl, by omega, rfl, rfl, hs, hwide, ?_, ?_, ?_, ?_, ?_⟩
  all_goals rcases lwG_spec (stdW b h d n) 60 1 with ⟨h1, h2⟩ | ⟨j, h1, h2, h3, h4, h5⟩
  all_goals rw [h1]
  · intro hq
    have := h2 a.toNat (by omega) (by omega)
    rw [show ((a.toNat : Nat) : Int) = a by omega, hq] at this
    cases this
  · intro hq
    refine ⟨by omega, ?_⟩
    rcases Int.lt_or_le a j with h6 | h6
    · have := h5 a.toNat (by omega) (by omega)
      rw [show ((a.toNat : Nat) : Int) = a by omega, hq] at this
      cases this
    · exact h6
  · intro _; exact .inl rfl
  · intro hq
    refine .inr ?_
    rcases Nat.lt_or_ge 1 j with h6 | h6
    · omega
    · exfalso
      have hj : j = 1 := by omega
      subst hj
      have h7 := (stdW_iff r _).1 h4
      have h8 := tT_mono r (x := 1) (by omega) (a - 1).toNat
      rw [show (1 : Int) + ((a - 1).toNat : Nat) = a by omega] at h8
      have h9 : tT b h d n 1 ≤ 0 := h7.2
      have := hs.2 (by omega)
      rw [hq] at this; cases this
  · omega
  · omega
  · intro hq; omega
  · intro _; exact h4
  · intro hq; omega
  · intro hq
    have := h5 (j - 1) (by omega) (by omega)
    rwa [show (((j - 1 : Nat)) : Int) = (j : Int) - 1 by omega] at this
theorem stdB_zero (js : List Jt) (ls : List Ld) : stdB js ls thZ = false := by
  unfold stdB fulAll
  cases rowsA js ls with
  | nil => simp [inR]
  | cons r rs =>
    have : fulB thZ r = false := by simp [fulB, thOk, thIn, inR]
    simp [this]
theorem stdB_cor {js : List Jt} {ls : List Ld} {t : Th} (h : t ∈ thrL js ls) : stdB js ls t = true := by
  obtain ⟨⟨h1, h2⟩, h3, h4, h5⟩ := corL_P h
  unfold stdB fulAll
  rw [inR_true.2 (by omega), Bool.true_and, List.all_eq_true]
  intro r hr
  simp only [fulB, h1, Bool.true_and, Bool.and_eq_true]
  exact ⟨List.all_eq_true.1 h3 r hr, List.all_eq_true.1 h2 r hr⟩
theorem popA_cor {js : List Jt} {ls : List Ld} {t : Th} (h : stdB js ls t = true) : popA js ls t = .tup [vi t.h, vi (W64 (W64 (t.d * lW js ls (js.length - 1)) - t.v)), vb true] := by
  simp [popA, popH, popD, h]
theorem pop_eq (d v A : Int) : abin .eql .i64 (W64 (W64 (W64 (d * A) - v) + v)) (W64 (d * A)) = some (.bool true) := by
  have : W64 (W64 (W64 (d * A) - v) + v) = W64 (d * A) := by
    rw [wadd_l, Int.sub_add_cancel, w64_idem]
  simp [abin, this]
set_option maxRecDepth 100000
attribute [local irreducible] QV TV WL HW W CallOk Weak
set_option maxHeartbeats 1000000 in
theorem law_FnPiers (l : List Int) (hu : ∀ x ∈ l, isU8 x) (_hlen : l.length ≤ 9223372036854775807) : CallOk Try.prog 3 [slU l] (fun r => r = vb true) := by
  refine callOk Try.func3 Try.ntmps3 Try.results3 rfl rfl rfl fun B w0 I0 => ?_
  (repeat (first | refine WL_nil ?_ | (apply wl0 (hd := rfl); (first | exact qv0 | exact QV_bne Try.underlying4 rfl rfl | exact QV_beq Try.underlying4 rfl rfl | exact qv1 | exact q_callA (lbig_ok l)); (exact gy0)) | (apply wlb (hd := rfl); (first | exact q_box rfl rfl rfl | exact q_alloc); (exact gy0); rfl) | refine wln ⟨_, rfl, rfl⟩ rfl ?_ | refine wlnu ⟨_, rfl, rfl⟩ rfl ?_ | refine wst rfl rfl rfl List.not_mem_nil rfl rfl rfl rfl rfl rfl ?_ | refine W_seq ?_ | refine W_condT rfl ?_ | refine W_condF rfl ?_ | refine W_region ?_ | refine W_skip ?_ | refine W_ret ?_ | refine W_block ?_ | refine W_exit ?_))
  (refine W_cond rfl (fun hc => ?_) (fun hc => ?_))
  · (repeat (first | refine WL_nil ?_ | (apply wl0 (hd := rfl); (first | exact qv0 | exact QV_bne Try.underlying4 rfl rfl | exact QV_beq Try.underlying4 rfl rfl | exact qv1); (exact gy0)) | (apply wlb (hd := rfl); (first | exact q_box rfl rfl rfl | exact q_alloc); (exact gy0); rfl) | refine wln ⟨_, rfl, rfl⟩ rfl ?_ | refine wlnu ⟨_, rfl, rfl⟩ rfl ?_ | refine wst rfl rfl rfl List.not_mem_nil rfl rfl rfl rfl rfl rfl ?_ | refine W_seq ?_ | refine W_condT rfl ?_ | refine W_condF rfl ?_ | refine W_region ?_ | refine W_skip ?_ | refine W_ret ?_ | refine W_block ?_ | refine W_exit ?_))
    refine Exists.intro _ ⟨Weak.refl _, Exists.intro _ ⟨resA_tmp rfl rfl, ?_, rfl⟩⟩
    rfl
  · have hl : Bts l := ⟨hu, by simp at hc; omega⟩
    (repeat (first | refine WL_nil ?_ | (apply wl0 (hd := rfl); (first | exact qv0 | exact QV_bne Try.underlying4 rfl rfl | exact QV_beq Try.underlying4 rfl rfl | exact qv1); (exact gy0)) | (apply wlb (hd := rfl); (first | exact q_box rfl rfl rfl | exact q_alloc); (exact gy0); rfl) | refine wln ⟨_, rfl, rfl⟩ rfl ?_ | refine wlnu ⟨_, rfl, rfl⟩ rfl ?_ | refine wst rfl rfl rfl List.not_mem_nil rfl rfl rfl rfl rfl rfl ?_ | refine W_seq ?_ | refine W_condT rfl ?_ | refine W_condF rfl ?_ | refine W_region ?_ | refine W_skip ?_ | refine W_ret ?_ | refine W_block ?_ | refine W_exit ?_))
    refine wlc (drawPier_ok l hl) rfl (by (repeat' (first | exact LeDs.nil | refine LeDs.cons (by first | exact LeD.v | exact LeD.sl | exact LeD.own | exact LeD.nil | exact LeD.top) ?_ | refine LeDs.agg ?_ ?_)); first | done | fail "open") (fun r ⟨_, _, _, _, _, _, _, _, _, _, hr⟩ => by subst hr; rfl) rfl (fun r hR => ?_)
    obtain ⟨a, b, h, d, n, ha, hb, hh, hd, hn, rfl⟩ := hR
    have hr : PR b h d n := ⟨hb.1, hb.2, hh.1, hh.2, hd.1, hd.2, hn.1, hn.2⟩
    obtain ⟨S, T, T0, w, s, p⟩ := pf ha hr
    have cl := cLeastWidth b h d n
    rw [p.lw] at cl
    have cs := cStands a b h d n
    rw [p.st] at cs
    have cp := cPierOk a b
    rw [show pierB a b = true by unfold pierB; rw [inR_true.2 (by omega), inR_true.2 (by omega)]; rfl] at cp
    have ct := cTurnO a b h d n
    rw [p.tO] at ct
    have ct0 := cTurnO a b h 0 n
    rw [p.t0] at ct0
    have hbd := p.bd
    have heq := p.eq
    have hsb := p.sb
    have hwr := p.wr
    have cm : abin .mul .i64 (2 * d) a = some (.int .i64 S) := by
      simp only [abin]
      rw [← p.eS, i64w (by omega)]
    have ce : abin .eql .i64 T (T0 - S) = some (.bool true) := by simp [abin, heq]
    have kn : ∀ x : Int, abin .eql .i64 x x = some (.bool true) := fun x => by simp [abin]
    cases s with
    | true =>
      obtain ⟨w1, w2⟩ := p.wl rfl
      have hT : T ≤ 0 := p.sT.1 rfl
      have cw := cStands (a + 1) b h d n
      rw [p.wide rfl] at cw
      have csw := cStands w b h d n
      rw [p.ws (by omega)] at csw
      have c1 : abin .leq .i64 T 0 = some (.bool true) := by simp [abin, hT]
      have c2 : abin .lss .i64 w 1 = some (.bool false) := by simp [abin]; omega
      have c3 : abin .gtr .i64 w a = some (.bool false) := by simp [abin]; omega
      have c4 : abin .gtr .i64 w 0 = some (.bool true) := by simp [abin]; omega
      by_cases hw : 1 < w
      · have c5 : abin .gtr .i64 w 1 = some (.bool true) := by simp [abin, hw]
        have csp := cStands (w - 1) b h d n
        rw [p.wp hw] at csp
        (repeat (first | refine WL_nil ?_ | (apply wl0 (hd := rfl); (first | exact QV_bin rfl rfl c1 | exact QV_bin rfl rfl c2 | exact QV_bin rfl rfl c3 | exact QV_bin rfl rfl c4 | exact QV_bin rfl rfl c5 | exact qv0 | exact QV_bne Try.underlying4 rfl rfl | exact QV_beq Try.underlying4 rfl rfl | exact qv1 | exact q_callA (cl) | exact q_callA (cs) | exact q_callA (cp) | exact q_callA (ct) | exact q_callA (cw) | exact q_callA (csw) | exact q_callA (csp)); (exact gy0)) | (apply wlb (hd := rfl); (first | exact q_box rfl rfl rfl | exact q_alloc); (exact gy0); rfl) | refine wln ⟨_, rfl, rfl⟩ rfl ?_ | refine wlnu ⟨_, rfl, rfl⟩ rfl ?_ | refine wst rfl rfl rfl List.not_mem_nil rfl rfl rfl rfl rfl rfl ?_ | refine W_seq ?_ | refine W_condT rfl ?_ | refine W_condF rfl ?_ | refine W_region ?_ | refine W_skip ?_ | refine W_ret ?_ | refine W_block ?_ | refine W_exit ?_))
        refine wlc (drawStanding_ok l hl) rfl (by (repeat' (first | exact LeDs.nil | refine LeDs.cons (by first | exact LeD.v | exact LeD.sl | exact LeD.own | exact LeD.nil | exact LeD.top) ?_ | refine LeDs.agg ?_ ?_)); first | done | fail "open") (fun r ⟨_, _, _, _, _, hr⟩ => by subst hr; rfl) rfl (fun r hR => ?_)
        obtain ⟨js, ls, hja, hl3, _, rfl⟩ := hR
        have h8 := arch_len hja
        have cL := leastThrust_ok js ls (by omega) (by omega)
        have cT := totalOf_ok js ls (by omega) (by omega)
        cases e : lstO (thrL js ls) with
        | none =>
          rw [e, thO_none] at cL
          have cP := implPushOnPier_ok js ls thZ (by omega) (by omega)
          rw [show popA js ls thZ = .tup [vi 0, vi 0, vb false] by simp [popA, popH, popD, stdB_zero]] at cP
          (repeat (first | refine WL_nil ?_ | (apply wl0 (hd := rfl); (first | exact qv0 | exact QV_bne Try.underlying4 rfl rfl | exact QV_beq Try.underlying4 rfl rfl | exact qv1 | exact q_callA (cL) | exact q_callA (cP)); (exact gy0)) | (apply wlb (hd := rfl); (first | exact q_box rfl rfl rfl | exact q_alloc); (exact gy0); rfl) | refine wln ⟨_, rfl, rfl⟩ rfl ?_ | refine wlnu ⟨_, rfl, rfl⟩ rfl ?_ | refine wst rfl rfl rfl List.not_mem_nil rfl rfl rfl rfl rfl rfl ?_ | refine W_seq ?_ | refine W_condT rfl ?_ | refine W_condF rfl ?_ | refine W_region ?_ | refine W_skip ?_ | refine W_ret ?_ | refine W_block ?_ | refine W_exit ?_))
          refine wdraw 45 (by kernel_rfl) (by kernel_rfl) (by kernel_rfl) rfl ?_
          (repeat (first | refine HW_nil ?_ | (apply hw0 (hd := rfl); (first | exact QV_bin rfl rfl cm | exact QV_bin rfl rfl ce | exact qv0 | exact QV_bne Try.underlying4 rfl rfl | exact QV_beq Try.underlying4 rfl rfl | exact qv1 | exact q_callA (ct) | exact q_callA (ct0)); (exact gy0)) | (apply hwb (hd := rfl); (first | exact q_box rfl rfl rfl | exact q_alloc); (exact gy0); rfl) | refine hwn ⟨_, rfl, rfl⟩ rfl ?_ | refine hwnu ⟨_, rfl, rfl⟩ rfl ?_))
          (repeat (first | refine WL_nil ?_ | (apply wl0 (hd := rfl); (first | exact qv0 | exact QV_bne Try.underlying4 rfl rfl | exact QV_beq Try.underlying4 rfl rfl | exact qv1); (exact gy0)) | (apply wlb (hd := rfl); (first | exact q_box rfl rfl rfl | exact q_alloc); (exact gy0); rfl) | refine wln ⟨_, rfl, rfl⟩ rfl ?_ | refine wlnu ⟨_, rfl, rfl⟩ rfl ?_ | refine wst rfl rfl rfl List.not_mem_nil rfl rfl rfl rfl rfl rfl ?_ | refine W_seq ?_ | refine W_condT rfl ?_ | refine W_condF rfl ?_ | refine W_region ?_ | refine W_skip ?_ | refine W_ret ?_ | refine W_block ?_ | refine W_exit ?_))
          refine Exists.intro _ ⟨Weak.refl _, Exists.intro _ ⟨resA_tmp rfl rfl, ?_, rfl⟩⟩
          rfl
        | some t =>
          rw [e, thO_some] at cL
          have cP := implPushOnPier_ok js ls t (by omega) (by omega)
          rw [popA_cor (stdB_cor (lstO_mem e))] at cP
          have k1 := kn t.h
          have k2 := pop_eq t.d t.v (lW js ls (js.length - 1))
          (repeat (first | refine WL_nil ?_ | (apply wl0 (hd := rfl); (first | exact qv0 | exact QV_bne Try.underlying4 rfl rfl | exact QV_beq Try.underlying4 rfl rfl | exact qv1 | exact q_callA (cL) | exact q_callA (cP)); (exact gy0)) | (apply wlb (hd := rfl); (first | exact q_box rfl rfl rfl | exact q_alloc); (exact gy0); rfl) | refine wln ⟨_, rfl, rfl⟩ rfl ?_ | refine wlnu ⟨_, rfl, rfl⟩ rfl ?_ | refine wst rfl rfl rfl List.not_mem_nil rfl rfl rfl rfl rfl rfl ?_ | refine W_seq ?_ | refine W_condT rfl ?_ | refine W_condF rfl ?_ | refine W_region ?_ | refine W_skip ?_ | refine W_ret ?_ | refine W_block ?_ | refine W_exit ?_))
          refine wdraw 45 (by kernel_rfl) (by kernel_rfl) (by kernel_rfl) rfl ?_
          (repeat (first | refine HW_nil ?_ | (apply hw0 (hd := rfl); (first | exact QV_bin rfl rfl cm | exact QV_bin rfl rfl ce | exact QV_bin rfl rfl k1 | exact QV_bin rfl rfl k2 | exact qv0 | exact QV_bne Try.underlying4 rfl rfl | exact QV_beq Try.underlying4 rfl rfl | exact qv1 | exact q_callA (ct) | exact q_callA (ct0) | exact q_callA (cT)); (exact gy0)) | (apply hwb (hd := rfl); (first | exact q_box rfl rfl rfl | exact q_alloc); (exact gy0); rfl) | refine hwn ⟨_, rfl, rfl⟩ rfl ?_ | refine hwnu ⟨_, rfl, rfl⟩ rfl ?_))
          (repeat (first | refine WL_nil ?_ | (apply wl0 (hd := rfl); (first | exact qv0 | exact QV_bne Try.underlying4 rfl rfl | exact QV_beq Try.underlying4 rfl rfl | exact qv1); (exact gy0)) | (apply wlb (hd := rfl); (first | exact q_box rfl rfl rfl | exact q_alloc); (exact gy0); rfl) | refine wln ⟨_, rfl, rfl⟩ rfl ?_ | refine wlnu ⟨_, rfl, rfl⟩ rfl ?_ | refine wst rfl rfl rfl List.not_mem_nil rfl rfl rfl rfl rfl rfl ?_ | refine W_seq ?_ | refine W_condT rfl ?_ | refine W_condF rfl ?_ | refine W_region ?_ | refine W_skip ?_ | refine W_ret ?_ | refine W_block ?_ | refine W_exit ?_))
          refine Exists.intro _ ⟨Weak.refl _, Exists.intro _ ⟨resA_tmp rfl rfl, ?_, rfl⟩⟩
          rfl
      · have c5 : abin .gtr .i64 w 1 = some (.bool false) := by simp [abin]; omega
        (repeat (first | refine WL_nil ?_ | (apply wl0 (hd := rfl); (first | exact QV_bin rfl rfl c1 | exact QV_bin rfl rfl c2 | exact QV_bin rfl rfl c3 | exact QV_bin rfl rfl c4 | exact QV_bin rfl rfl c5 | exact qv0 | exact QV_bne Try.underlying4 rfl rfl | exact QV_beq Try.underlying4 rfl rfl | exact qv1 | exact q_callA (cl) | exact q_callA (cs) | exact q_callA (cp) | exact q_callA (ct) | exact q_callA (cw) | exact q_callA (csw)); (exact gy0)) | (apply wlb (hd := rfl); (first | exact q_box rfl rfl rfl | exact q_alloc); (exact gy0); rfl) | refine wln ⟨_, rfl, rfl⟩ rfl ?_ | refine wlnu ⟨_, rfl, rfl⟩ rfl ?_ | refine wst rfl rfl rfl List.not_mem_nil rfl rfl rfl rfl rfl rfl ?_ | refine W_seq ?_ | refine W_condT rfl ?_ | refine W_condF rfl ?_ | refine W_region ?_ | refine W_skip ?_ | refine W_ret ?_ | refine W_block ?_ | refine W_exit ?_))
        refine wlc (drawStanding_ok l hl) rfl (by (repeat' (first | exact LeDs.nil | refine LeDs.cons (by first | exact LeD.v | exact LeD.sl | exact LeD.own | exact LeD.nil | exact LeD.top) ?_ | refine LeDs.agg ?_ ?_)); first | done | fail "open") (fun r ⟨_, _, _, _, _, hr⟩ => by subst hr; rfl) rfl (fun r hR => ?_)
        obtain ⟨js, ls, hja, hl3, _, rfl⟩ := hR
        have h8 := arch_len hja
        have cL := leastThrust_ok js ls (by omega) (by omega)
        have cT := totalOf_ok js ls (by omega) (by omega)
        cases e : lstO (thrL js ls) with
        | none =>
          rw [e, thO_none] at cL
          have cP := implPushOnPier_ok js ls thZ (by omega) (by omega)
          rw [show popA js ls thZ = .tup [vi 0, vi 0, vb false] by simp [popA, popH, popD, stdB_zero]] at cP
          (repeat (first | refine WL_nil ?_ | (apply wl0 (hd := rfl); (first | exact qv0 | exact QV_bne Try.underlying4 rfl rfl | exact QV_beq Try.underlying4 rfl rfl | exact qv1 | exact q_callA (cL) | exact q_callA (cP)); (exact gy0)) | (apply wlb (hd := rfl); (first | exact q_box rfl rfl rfl | exact q_alloc); (exact gy0); rfl) | refine wln ⟨_, rfl, rfl⟩ rfl ?_ | refine wlnu ⟨_, rfl, rfl⟩ rfl ?_ | refine wst rfl rfl rfl List.not_mem_nil rfl rfl rfl rfl rfl rfl ?_ | refine W_seq ?_ | refine W_condT rfl ?_ | refine W_condF rfl ?_ | refine W_region ?_ | refine W_skip ?_ | refine W_ret ?_ | refine W_block ?_ | refine W_exit ?_))
          refine wdraw 45 (by kernel_rfl) (by kernel_rfl) (by kernel_rfl) rfl ?_
          (repeat (first | refine HW_nil ?_ | (apply hw0 (hd := rfl); (first | exact QV_bin rfl rfl cm | exact QV_bin rfl rfl ce | exact qv0 | exact QV_bne Try.underlying4 rfl rfl | exact QV_beq Try.underlying4 rfl rfl | exact qv1 | exact q_callA (ct) | exact q_callA (ct0)); (exact gy0)) | (apply hwb (hd := rfl); (first | exact q_box rfl rfl rfl | exact q_alloc); (exact gy0); rfl) | refine hwn ⟨_, rfl, rfl⟩ rfl ?_ | refine hwnu ⟨_, rfl, rfl⟩ rfl ?_))
          (repeat (first | refine WL_nil ?_ | (apply wl0 (hd := rfl); (first | exact qv0 | exact QV_bne Try.underlying4 rfl rfl | exact QV_beq Try.underlying4 rfl rfl | exact qv1); (exact gy0)) | (apply wlb (hd := rfl); (first | exact q_box rfl rfl rfl | exact q_alloc); (exact gy0); rfl) | refine wln ⟨_, rfl, rfl⟩ rfl ?_ | refine wlnu ⟨_, rfl, rfl⟩ rfl ?_ | refine wst rfl rfl rfl List.not_mem_nil rfl rfl rfl rfl rfl rfl ?_ | refine W_seq ?_ | refine W_condT rfl ?_ | refine W_condF rfl ?_ | refine W_region ?_ | refine W_skip ?_ | refine W_ret ?_ | refine W_block ?_ | refine W_exit ?_))
          refine Exists.intro _ ⟨Weak.refl _, Exists.intro _ ⟨resA_tmp rfl rfl, ?_, rfl⟩⟩
          rfl
        | some t =>
          rw [e, thO_some] at cL
          have cP := implPushOnPier_ok js ls t (by omega) (by omega)
          rw [popA_cor (stdB_cor (lstO_mem e))] at cP
          have k1 := kn t.h
          have k2 := pop_eq t.d t.v (lW js ls (js.length - 1))
          (repeat (first | refine WL_nil ?_ | (apply wl0 (hd := rfl); (first | exact qv0 | exact QV_bne Try.underlying4 rfl rfl | exact QV_beq Try.underlying4 rfl rfl | exact qv1 | exact q_callA (cL) | exact q_callA (cP)); (exact gy0)) | (apply wlb (hd := rfl); (first | exact q_box rfl rfl rfl | exact q_alloc); (exact gy0); rfl) | refine wln ⟨_, rfl, rfl⟩ rfl ?_ | refine wlnu ⟨_, rfl, rfl⟩ rfl ?_ | refine wst rfl rfl rfl List.not_mem_nil rfl rfl rfl rfl rfl rfl ?_ | refine W_seq ?_ | refine W_condT rfl ?_ | refine W_condF rfl ?_ | refine W_region ?_ | refine W_skip ?_ | refine W_ret ?_ | refine W_block ?_ | refine W_exit ?_))
          refine wdraw 45 (by kernel_rfl) (by kernel_rfl) (by kernel_rfl) rfl ?_
          (repeat (first | refine HW_nil ?_ | (apply hw0 (hd := rfl); (first | exact QV_bin rfl rfl cm | exact QV_bin rfl rfl ce | exact QV_bin rfl rfl k1 | exact QV_bin rfl rfl k2 | exact qv0 | exact QV_bne Try.underlying4 rfl rfl | exact QV_beq Try.underlying4 rfl rfl | exact qv1 | exact q_callA (ct) | exact q_callA (ct0) | exact q_callA (cT)); (exact gy0)) | (apply hwb (hd := rfl); (first | exact q_box rfl rfl rfl | exact q_alloc); (exact gy0); rfl) | refine hwn ⟨_, rfl, rfl⟩ rfl ?_ | refine hwnu ⟨_, rfl, rfl⟩ rfl ?_))
          (repeat (first | refine WL_nil ?_ | (apply wl0 (hd := rfl); (first | exact qv0 | exact QV_bne Try.underlying4 rfl rfl | exact QV_beq Try.underlying4 rfl rfl | exact qv1); (exact gy0)) | (apply wlb (hd := rfl); (first | exact q_box rfl rfl rfl | exact q_alloc); (exact gy0); rfl) | refine wln ⟨_, rfl, rfl⟩ rfl ?_ | refine wlnu ⟨_, rfl, rfl⟩ rfl ?_ | refine wst rfl rfl rfl List.not_mem_nil rfl rfl rfl rfl rfl rfl ?_ | refine W_seq ?_ | refine W_condT rfl ?_ | refine W_condF rfl ?_ | refine W_region ?_ | refine W_skip ?_ | refine W_ret ?_ | refine W_block ?_ | refine W_exit ?_))
          refine Exists.intro _ ⟨Weak.refl _, Exists.intro _ ⟨resA_tmp rfl rfl, ?_, rfl⟩⟩
          rfl
    | false =>
      have hT : 0 < T := by
        rcases Int.lt_or_le 0 T with h9 | h9
        · exact h9
        · have := p.sT.2 h9; cases this
      have c1 : abin .leq .i64 T 0 = some (.bool false) := by simp [abin]; omega
      rcases p.wn rfl with hw | hw
      · have c4 : abin .gtr .i64 w 0 = some (.bool false) := by simp [abin]; omega
        (repeat (first | refine WL_nil ?_ | (apply wl0 (hd := rfl); (first | exact QV_bin rfl rfl c1 | exact QV_bin rfl rfl c4 | exact qv0 | exact QV_bne Try.underlying4 rfl rfl | exact QV_beq Try.underlying4 rfl rfl | exact qv1 | exact q_callA (cl) | exact q_callA (cs) | exact q_callA (cp) | exact q_callA (ct)); (exact gy0)) | (apply wlb (hd := rfl); (first | exact q_box rfl rfl rfl | exact q_alloc); (exact gy0); rfl) | refine wln ⟨_, rfl, rfl⟩ rfl ?_ | refine wlnu ⟨_, rfl, rfl⟩ rfl ?_ | refine wst rfl rfl rfl List.not_mem_nil rfl rfl rfl rfl rfl rfl ?_ | refine W_seq ?_ | refine W_condT rfl ?_ | refine W_condF rfl ?_ | refine W_region ?_ | refine W_skip ?_ | refine W_ret ?_ | refine W_block ?_ | refine W_exit ?_))
        refine wlc (drawStanding_ok l hl) rfl (by (repeat' (first | exact LeDs.nil | refine LeDs.cons (by first | exact LeD.v | exact LeD.sl | exact LeD.own | exact LeD.nil | exact LeD.top) ?_ | refine LeDs.agg ?_ ?_)); first | done | fail "open") (fun r ⟨_, _, _, _, _, hr⟩ => by subst hr; rfl) rfl (fun r hR => ?_)
        obtain ⟨js, ls, hja, hl3, _, rfl⟩ := hR
        have h8 := arch_len hja
        have cL := leastThrust_ok js ls (by omega) (by omega)
        have cT := totalOf_ok js ls (by omega) (by omega)
        cases e : lstO (thrL js ls) with
        | none =>
          rw [e, thO_none] at cL
          have cP := implPushOnPier_ok js ls thZ (by omega) (by omega)
          rw [show popA js ls thZ = .tup [vi 0, vi 0, vb false] by simp [popA, popH, popD, stdB_zero]] at cP
          (repeat (first | refine WL_nil ?_ | (apply wl0 (hd := rfl); (first | exact qv0 | exact QV_bne Try.underlying4 rfl rfl | exact QV_beq Try.underlying4 rfl rfl | exact qv1 | exact q_callA (cL) | exact q_callA (cP)); (exact gy0)) | (apply wlb (hd := rfl); (first | exact q_box rfl rfl rfl | exact q_alloc); (exact gy0); rfl) | refine wln ⟨_, rfl, rfl⟩ rfl ?_ | refine wlnu ⟨_, rfl, rfl⟩ rfl ?_ | refine wst rfl rfl rfl List.not_mem_nil rfl rfl rfl rfl rfl rfl ?_ | refine W_seq ?_ | refine W_condT rfl ?_ | refine W_condF rfl ?_ | refine W_region ?_ | refine W_skip ?_ | refine W_ret ?_ | refine W_block ?_ | refine W_exit ?_))
          refine wdraw 45 (by kernel_rfl) (by kernel_rfl) (by kernel_rfl) rfl ?_
          (repeat (first | refine HW_nil ?_ | (apply hw0 (hd := rfl); (first | exact QV_bin rfl rfl cm | exact QV_bin rfl rfl ce | exact qv0 | exact QV_bne Try.underlying4 rfl rfl | exact QV_beq Try.underlying4 rfl rfl | exact qv1 | exact q_callA (ct) | exact q_callA (ct0)); (exact gy0)) | (apply hwb (hd := rfl); (first | exact q_box rfl rfl rfl | exact q_alloc); (exact gy0); rfl) | refine hwn ⟨_, rfl, rfl⟩ rfl ?_ | refine hwnu ⟨_, rfl, rfl⟩ rfl ?_))
          (repeat (first | refine WL_nil ?_ | (apply wl0 (hd := rfl); (first | exact qv0 | exact QV_bne Try.underlying4 rfl rfl | exact QV_beq Try.underlying4 rfl rfl | exact qv1); (exact gy0)) | (apply wlb (hd := rfl); (first | exact q_box rfl rfl rfl | exact q_alloc); (exact gy0); rfl) | refine wln ⟨_, rfl, rfl⟩ rfl ?_ | refine wlnu ⟨_, rfl, rfl⟩ rfl ?_ | refine wst rfl rfl rfl List.not_mem_nil rfl rfl rfl rfl rfl rfl ?_ | refine W_seq ?_ | refine W_condT rfl ?_ | refine W_condF rfl ?_ | refine W_region ?_ | refine W_skip ?_ | refine W_ret ?_ | refine W_block ?_ | refine W_exit ?_))
          refine Exists.intro _ ⟨Weak.refl _, Exists.intro _ ⟨resA_tmp rfl rfl, ?_, rfl⟩⟩
          rfl
        | some t =>
          rw [e, thO_some] at cL
          have cP := implPushOnPier_ok js ls t (by omega) (by omega)
          rw [popA_cor (stdB_cor (lstO_mem e))] at cP
          have k1 := kn t.h
          have k2 := pop_eq t.d t.v (lW js ls (js.length - 1))
          (repeat (first | refine WL_nil ?_ | (apply wl0 (hd := rfl); (first | exact qv0 | exact QV_bne Try.underlying4 rfl rfl | exact QV_beq Try.underlying4 rfl rfl | exact qv1 | exact q_callA (cL) | exact q_callA (cP)); (exact gy0)) | (apply wlb (hd := rfl); (first | exact q_box rfl rfl rfl | exact q_alloc); (exact gy0); rfl) | refine wln ⟨_, rfl, rfl⟩ rfl ?_ | refine wlnu ⟨_, rfl, rfl⟩ rfl ?_ | refine wst rfl rfl rfl List.not_mem_nil rfl rfl rfl rfl rfl rfl ?_ | refine W_seq ?_ | refine W_condT rfl ?_ | refine W_condF rfl ?_ | refine W_region ?_ | refine W_skip ?_ | refine W_ret ?_ | refine W_block ?_ | refine W_exit ?_))
          refine wdraw 45 (by kernel_rfl) (by kernel_rfl) (by kernel_rfl) rfl ?_
          (repeat (first | refine HW_nil ?_ | (apply hw0 (hd := rfl); (first | exact QV_bin rfl rfl cm | exact QV_bin rfl rfl ce | exact QV_bin rfl rfl k1 | exact QV_bin rfl rfl k2 | exact qv0 | exact QV_bne Try.underlying4 rfl rfl | exact QV_beq Try.underlying4 rfl rfl | exact qv1 | exact q_callA (ct) | exact q_callA (ct0) | exact q_callA (cT)); (exact gy0)) | (apply hwb (hd := rfl); (first | exact q_box rfl rfl rfl | exact q_alloc); (exact gy0); rfl) | refine hwn ⟨_, rfl, rfl⟩ rfl ?_ | refine hwnu ⟨_, rfl, rfl⟩ rfl ?_))
          (repeat (first | refine WL_nil ?_ | (apply wl0 (hd := rfl); (first | exact qv0 | exact QV_bne Try.underlying4 rfl rfl | exact QV_beq Try.underlying4 rfl rfl | exact qv1); (exact gy0)) | (apply wlb (hd := rfl); (first | exact q_box rfl rfl rfl | exact q_alloc); (exact gy0); rfl) | refine wln ⟨_, rfl, rfl⟩ rfl ?_ | refine wlnu ⟨_, rfl, rfl⟩ rfl ?_ | refine wst rfl rfl rfl List.not_mem_nil rfl rfl rfl rfl rfl rfl ?_ | refine W_seq ?_ | refine W_condT rfl ?_ | refine W_condF rfl ?_ | refine W_region ?_ | refine W_skip ?_ | refine W_ret ?_ | refine W_block ?_ | refine W_exit ?_))
          refine Exists.intro _ ⟨Weak.refl _, Exists.intro _ ⟨resA_tmp rfl rfl, ?_, rfl⟩⟩
          rfl
      · have csw := cStands w b h d n
        rw [p.ws (by omega)] at csw
        have csp := cStands (w - 1) b h d n
        rw [p.wp hw] at csp
        have c4 : abin .gtr .i64 w 0 = some (.bool true) := by simp [abin]; omega
        have c5 : abin .gtr .i64 w 1 = some (.bool true) := by simp [abin, hw]
        (repeat (first | refine WL_nil ?_ | (apply wl0 (hd := rfl); (first | exact QV_bin rfl rfl c1 | exact QV_bin rfl rfl c4 | exact QV_bin rfl rfl c5 | exact qv0 | exact QV_bne Try.underlying4 rfl rfl | exact QV_beq Try.underlying4 rfl rfl | exact qv1 | exact q_callA (cl) | exact q_callA (cs) | exact q_callA (cp) | exact q_callA (ct) | exact q_callA (csw) | exact q_callA (csp)); (exact gy0)) | (apply wlb (hd := rfl); (first | exact q_box rfl rfl rfl | exact q_alloc); (exact gy0); rfl) | refine wln ⟨_, rfl, rfl⟩ rfl ?_ | refine wlnu ⟨_, rfl, rfl⟩ rfl ?_ | refine wst rfl rfl rfl List.not_mem_nil rfl rfl rfl rfl rfl rfl ?_ | refine W_seq ?_ | refine W_condT rfl ?_ | refine W_condF rfl ?_ | refine W_region ?_ | refine W_skip ?_ | refine W_ret ?_ | refine W_block ?_ | refine W_exit ?_))
        refine wlc (drawStanding_ok l hl) rfl (by (repeat' (first | exact LeDs.nil | refine LeDs.cons (by first | exact LeD.v | exact LeD.sl | exact LeD.own | exact LeD.nil | exact LeD.top) ?_ | refine LeDs.agg ?_ ?_)); first | done | fail "open") (fun r ⟨_, _, _, _, _, hr⟩ => by subst hr; rfl) rfl (fun r hR => ?_)
        obtain ⟨js, ls, hja, hl3, _, rfl⟩ := hR
        have h8 := arch_len hja
        have cL := leastThrust_ok js ls (by omega) (by omega)
        have cT := totalOf_ok js ls (by omega) (by omega)
        cases e : lstO (thrL js ls) with
        | none =>
          rw [e, thO_none] at cL
          have cP := implPushOnPier_ok js ls thZ (by omega) (by omega)
          rw [show popA js ls thZ = .tup [vi 0, vi 0, vb false] by simp [popA, popH, popD, stdB_zero]] at cP
          (repeat (first | refine WL_nil ?_ | (apply wl0 (hd := rfl); (first | exact qv0 | exact QV_bne Try.underlying4 rfl rfl | exact QV_beq Try.underlying4 rfl rfl | exact qv1 | exact q_callA (cL) | exact q_callA (cP)); (exact gy0)) | (apply wlb (hd := rfl); (first | exact q_box rfl rfl rfl | exact q_alloc); (exact gy0); rfl) | refine wln ⟨_, rfl, rfl⟩ rfl ?_ | refine wlnu ⟨_, rfl, rfl⟩ rfl ?_ | refine wst rfl rfl rfl List.not_mem_nil rfl rfl rfl rfl rfl rfl ?_ | refine W_seq ?_ | refine W_condT rfl ?_ | refine W_condF rfl ?_ | refine W_region ?_ | refine W_skip ?_ | refine W_ret ?_ | refine W_block ?_ | refine W_exit ?_))
          refine wdraw 45 (by kernel_rfl) (by kernel_rfl) (by kernel_rfl) rfl ?_
          (repeat (first | refine HW_nil ?_ | (apply hw0 (hd := rfl); (first | exact QV_bin rfl rfl cm | exact QV_bin rfl rfl ce | exact qv0 | exact QV_bne Try.underlying4 rfl rfl | exact QV_beq Try.underlying4 rfl rfl | exact qv1 | exact q_callA (ct) | exact q_callA (ct0)); (exact gy0)) | (apply hwb (hd := rfl); (first | exact q_box rfl rfl rfl | exact q_alloc); (exact gy0); rfl) | refine hwn ⟨_, rfl, rfl⟩ rfl ?_ | refine hwnu ⟨_, rfl, rfl⟩ rfl ?_))
          (repeat (first | refine WL_nil ?_ | (apply wl0 (hd := rfl); (first | exact qv0 | exact QV_bne Try.underlying4 rfl rfl | exact QV_beq Try.underlying4 rfl rfl | exact qv1); (exact gy0)) | (apply wlb (hd := rfl); (first | exact q_box rfl rfl rfl | exact q_alloc); (exact gy0); rfl) | refine wln ⟨_, rfl, rfl⟩ rfl ?_ | refine wlnu ⟨_, rfl, rfl⟩ rfl ?_ | refine wst rfl rfl rfl List.not_mem_nil rfl rfl rfl rfl rfl rfl ?_ | refine W_seq ?_ | refine W_condT rfl ?_ | refine W_condF rfl ?_ | refine W_region ?_ | refine W_skip ?_ | refine W_ret ?_ | refine W_block ?_ | refine W_exit ?_))
          refine Exists.intro _ ⟨Weak.refl _, Exists.intro _ ⟨resA_tmp rfl rfl, ?_, rfl⟩⟩
          rfl
        | some t =>
          rw [e, thO_some] at cL
          have cP := implPushOnPier_ok js ls t (by omega) (by omega)
          rw [popA_cor (stdB_cor (lstO_mem e))] at cP
          have k1 := kn t.h
          have k2 := pop_eq t.d t.v (lW js ls (js.length - 1))
          (repeat (first | refine WL_nil ?_ | (apply wl0 (hd := rfl); (first | exact qv0 | exact QV_bne Try.underlying4 rfl rfl | exact QV_beq Try.underlying4 rfl rfl | exact qv1 | exact q_callA (cL) | exact q_callA (cP)); (exact gy0)) | (apply wlb (hd := rfl); (first | exact q_box rfl rfl rfl | exact q_alloc); (exact gy0); rfl) | refine wln ⟨_, rfl, rfl⟩ rfl ?_ | refine wlnu ⟨_, rfl, rfl⟩ rfl ?_ | refine wst rfl rfl rfl List.not_mem_nil rfl rfl rfl rfl rfl rfl ?_ | refine W_seq ?_ | refine W_condT rfl ?_ | refine W_condF rfl ?_ | refine W_region ?_ | refine W_skip ?_ | refine W_ret ?_ | refine W_block ?_ | refine W_exit ?_))
          refine wdraw 45 (by kernel_rfl) (by kernel_rfl) (by kernel_rfl) rfl ?_
          (repeat (first | refine HW_nil ?_ | (apply hw0 (hd := rfl); (first | exact QV_bin rfl rfl cm | exact QV_bin rfl rfl ce | exact QV_bin rfl rfl k1 | exact QV_bin rfl rfl k2 | exact qv0 | exact QV_bne Try.underlying4 rfl rfl | exact QV_beq Try.underlying4 rfl rfl | exact qv1 | exact q_callA (ct) | exact q_callA (ct0) | exact q_callA (cT)); (exact gy0)) | (apply hwb (hd := rfl); (first | exact q_box rfl rfl rfl | exact q_alloc); (exact gy0); rfl) | refine hwn ⟨_, rfl, rfl⟩ rfl ?_ | refine hwnu ⟨_, rfl, rfl⟩ rfl ?_))
          (repeat (first | refine WL_nil ?_ | (apply wl0 (hd := rfl); (first | exact qv0 | exact QV_bne Try.underlying4 rfl rfl | exact QV_beq Try.underlying4 rfl rfl | exact qv1); (exact gy0)) | (apply wlb (hd := rfl); (first | exact q_box rfl rfl rfl | exact q_alloc); (exact gy0); rfl) | refine wln ⟨_, rfl, rfl⟩ rfl ?_ | refine wlnu ⟨_, rfl, rfl⟩ rfl ?_ | refine wst rfl rfl rfl List.not_mem_nil rfl rfl rfl rfl rfl rfl ?_ | refine W_seq ?_ | refine W_condT rfl ?_ | refine W_condF rfl ?_ | refine W_region ?_ | refine W_skip ?_ | refine W_ret ?_ | refine W_block ?_ | refine W_exit ?_))
          refine Exists.intro _ ⟨Weak.refl _, Exists.intro _ ⟨resA_tmp rfl rfl, ?_, rfl⟩⟩
          rfl

theorem walk_FnPiers {H : Type} (enc : TypeId × Value → H) (W : World) (base : Nat) (args : Array Value) (ds : List (DataW H)) (p : List MemPlace) (hval : ∀ (j : Nat) (t : TypeId) (v : Value), Try.f3.params[j]? = some t → args[j]? = some v → Value.okWide Try.prog W .any base t v) (hA : DataW.TrodAll enc Try.prog W 0 (fun _ => true) true Try.f3.params.toList args.toList ds p) (hlt : ∀ x ∈ p, x.block < W.heap.size) :
    Calls Try.prog 3 args W fun e w' => e = .returned (.bool true) ∧ Bel W w' := by
  rw [Try.params3] at hA hval
  obtain ⟨v0, vs0, t0, ds0, p0, q0, hargs, rfl, rfl, h0, r0⟩ := trodAll_cons hA
  obtain ⟨rfl, rfl, rfl⟩ := trodAll_nil r0
  obtain rfl : args = #[v0] := by cases args; simp_all
  obtain ⟨c, bc, lc, dc⟩ := open_code (hval 0 22 v0 rfl rfl) h0 (fun x hx => hlt x (by simp [hx]))
  exact law_of_call (law_FnPiers c bc lc) (by simp only [dreps]; exact ⟨_, _, rfl, dc, rfl⟩)

set_option maxRecDepth 100000 in
theorem lifted_FnPiers (os : Os) (started : os.Started) (H : Type) (enc : TypeId × Value → H) :
    ReturnsInHanded {} Try.checked os 3 .any (Rows.fnPiersSpec.pre6 enc Try.prog Try.f3 Rows.fnPiersRow.domain false) (Rows.fnPiersSpec.post enc Try.prog Try.f3 false true false false) :=
  law_lifted (tb := 4) started (by kernel_rfl) Try.func3
    (ChangeSpec.witness6 (enc := enc) (C := Try.checked) false ⟨#[], #[.slice none 0 0], []⟩ 8 (by kernel_rfl) (by kernel_rfl) (by kernel_rfl) (by kernel_rfl))
    rfl Try.underlying4 (by kernel_rfl) rfl (fun ds h => by match ds, h with | [d0], _ => rfl)
    (walk_FnPiers enc)

/-- THE STATEMENT. -/
theorem holds_FnPiers : Rows.FnPiersSaid :=
  OpenClaim.holds_of_wide 3 Try.f3 rfl rfl rfl rfl rfl rfl rfl ⟨rfl, rfl, rfl, rfl, rfl⟩ rfl rfl rfl rfl rfl (by kernel_rfl) Try.func3 (by kernel_rfl)
    (of_decide_eq_true (by kernel_rfl)) (by unfold Func.isWrapper; first | (rw [if_pos (by decide +kernel)]; kernel_rfl) | (rw [if_neg (by decide +kernel)]; exact ⟨rfl, rfl⟩))
    (fun os started H enc _ => lifted_FnPiers os started H enc)
end Go.Proofs.Ytkaffcdjhbaifaa
