/- A pier stands with just the forces from the least to the greatest one. (P22): for every code. -/
import Derived.Test.YtikbndfbjgdldaaADp
import Derived.Test.YtikbndfbjgdldaaAAt
import Derived.Test.YtikbndfbjgdldaaACode
import Derived.Test.YtikbndfbjgdldaaButtress
import Derived.Test.YtikbndfbjgdldaaEBl
namespace Go.Proofs.Ytikbndfbjgdldaa
open Go.ChangeShapes Go.WideShapes Go.ChangeAt Go.RowKit Go.Joins Go.Deep Go.Eng

theorem w64k {x : Int} (h0 : -9223372036854775808 ≤ x) (h1 : x ≤ 9223372036854775807) : wrap64 x = x := by unfold wrap64; omega
theorem mul_bdk {x y X Y : Int} (x0 : 0 ≤ x) (x1 : x ≤ X) (y0 : 0 ≤ y) (y1 : y ≤ Y) : 0 ≤ x * y ∧ x * y ≤ X * Y :=
  ⟨Int.mul_nonneg x0 y0, Int.mul_le_mul x1 y1 y0 (by omega)⟩

/-- What the law asks, on numbers: m is the arm, T what turns the pier over, B what it bears, l and g the least and the greatest force. -/
theorem nums {a b h d n : Int} (hr : 1 ≤ a ∧ a ≤ 12 ∧ 1 ≤ b ∧ b ≤ 25 ∧ 0 ≤ h ∧ h < 900 ∧ 0 ≤ d ∧ d < 400 ∧ 1 ≤ n ∧ n ≤ 3) {t : Int} (ht0 : 1 ≤ t) (ht1 : t ≤ 40) :
    ∃ T m B l g : Int, okB a b h d n = true ∧ butB a b h d n t = true ∧ turnW a b h d n = T ∧ armW n t = m ∧ bearsW a b h n = B ∧
      leastW true T m = l ∧ greatW true B m = g ∧ 2 ≤ m ∧ 0 ≤ l ∧ l ≤ 50000 ∧ 0 ≤ g ∧ g ≤ 100000 ∧ (T ≤ 0 → l = 0) ∧ (0 < T → 0 < l) ∧
      wrap64 (wrap64 (wrap64 (2 * n) * g) * t) ≤ B ∧ (g = 100000 ∨ B < wrap64 (wrap64 (wrap64 (2 * n) * (g + 1)) * t)) ∧
      withW a b h d n l t ≤ 0 ∧ (0 < T → 0 < withW a b h d n (l - 1) t) ∧ withW a b h d n 0 t = T ∧ turnO a b h d n = T := by
  obtain ⟨a0, a1, b0, b1, h0, h1, d0, d1, n0, n1⟩ := hr
  have hb := mul_bdk (x := h) (y := b) h0 (show h ≤ 899 by omega) (by omega) b1
  have da := mul_bdk (x := d) (y := a) d0 (show d ≤ 399 by omega) (by omega) a1
  have na := mul_bdk (x := n) (y := a) (by omega) n1 (by omega) a1
  have naa := mul_bdk (x := n * a) (y := a) na.1 na.2 (by omega) a1
  have naab := mul_bdk (x := n * a * a) (y := b) naa.1 naa.2 (by omega) b1
  have nt := mul_bdk (x := n) (y := t) (by omega) n1 (by omega) ht1
  have nt1 : 1 ≤ n * t := Int.mul_le_mul n0 ht0 (by omega) (by omega)
  have e1 : 2 * h * b = 2 * (h * b) := by grind
  have e2 : 2 * d * a = 2 * (d * a) := by grind
  have e3 : n * 6 * a = 6 * (n * a) := by grind
  have e4 : 6 * (n * a) * a = 6 * (n * a * a) := by grind
  have e5 : 6 * (n * a * a) * b = 6 * (n * a * a * b) := by grind
  have e6 : 2 * n * t = 2 * (n * t) := by grind
  have hT : turnW a b h d n = 2 * (h * b) - 2 * (d * a) - 6 * (n * a * a * b) := by
    unfold turnW
    rw [w64k (x := 2 * h) (by omega) (by omega), w64k (x := 2 * d) (by omega) (by omega), w64k (x := n * 6) (by omega) (by omega), e1, e2, e3]
    rw [w64k (x := 2 * (h * b)) (by omega) (by omega), w64k (x := 2 * (d * a)) (by omega) (by omega), w64k (x := 6 * (n * a)) (by omega) (by omega), e4, w64k (x := 6 * (n * a * a)) (by omega) (by omega), e5, w64k (x := 6 * (n * a * a * b)) (by omega) (by omega)]
    rw [w64k (x := 2 * (h * b) - 2 * (d * a)) (by omega) (by omega), w64k (by omega) (by omega)]
  have hB : bearsW a b h n = 2 * (h * b) + 6 * (n * a * a * b) := by
    unfold bearsW
    rw [w64k (x := 2 * h) (by omega) (by omega), w64k (x := n * 6) (by omega) (by omega), e1, e3]
    rw [w64k (x := 2 * (h * b)) (by omega) (by omega), w64k (x := 6 * (n * a)) (by omega) (by omega), e4, w64k (x := 6 * (n * a * a)) (by omega) (by omega), e5, w64k (x := 6 * (n * a * a * b)) (by omega) (by omega), w64k (by omega) (by omega)]
  have hm : armW n t = 2 * (n * t) := by
    unfold armW
    rw [w64k (x := 2 * n) (by omega) (by omega), e6, w64k (by omega) (by omega)]
  have hok : okB a b h d n = true := by
    simp only [okB, pierB, pushB, Bool.and_eq_true, inR_true]; omega
  have hbt : butB a b h d n t = true := by
    simp only [butB, Bool.and_eq_true, inR_true]; exact ⟨hok, by omega, by omega⟩
  generalize hX : h * b = X at *
  generalize hY : d * a = Y at *
  generalize hZ : n * a * a * b = Z at *
  generalize hM : n * t = M at *
  -- any force f up to 100001: the product with the arm
  have hmul : ∀ f : Int, 0 ≤ f → f ≤ 100001 → wrap64 (wrap64 (wrap64 (2 * n) * f) * t) = 2 * (M * f) ∧ 0 ≤ M * f ∧ M * f ≤ 120 * 100001 := by
    intro f f0 f1
    have nf := mul_bdk (x := n) (y := f) (by omega) n1 f0 f1
    have mf := mul_bdk (x := M) (y := f) (by omega) (show M ≤ 120 by omega) f0 f1
    have g1 : 2 * n * f = 2 * (n * f) := by grind
    have g2 : 2 * (n * f) * t = 2 * (M * f) := by grind
    rw [w64k (x := 2 * n) (by omega) (by omega), g1, w64k (x := 2 * (n * f)) (by omega) (by omega), g2, w64k (by omega) (by omega)]
    exact ⟨rfl, mf⟩
  have hwith : ∀ f : Int, 0 ≤ f → f ≤ 100000 → withW a b h d n f t = 2 * X - 2 * Y - 6 * Z - 2 * (M * f) := by
    intro f f0 f1
    obtain ⟨k1, k2, k3⟩ := hmul f f0 (by omega)
    unfold withW
    rw [hok, show inR f 0 100000 = true from inR_true.2 ⟨f0, f1⟩, show inR t 0 60 = true from inR_true.2 ⟨by omega, by omega⟩]
    simp only [Bool.and_self, if_true]
    rw [hT, k1, w64k (by omega) (by omega)]
  have hlo : turnO a b h d n = 2 * X - 2 * Y - 6 * Z := by simp [turnO, hok, hT]
  -- the quotients
  have qB := Int.mul_ediv_self_le (x := 2 * X + 6 * Z) (k := 2 * M) (by omega)
  have qB' := Int.lt_mul_ediv_self_add (x := 2 * X + 6 * Z) (k := 2 * M) (by omega)
  have qB0 : 0 ≤ (2 * X + 6 * Z) / (2 * M) := Int.ediv_nonneg (by omega) (by omega)
  have qB1 : (2 * X + 6 * Z) / (2 * M) ≤ 2 * X + 6 * Z := Int.ediv_le_self _ (by omega)
  have hg : greatW true (2 * X + 6 * Z) (2 * M) = min ((2 * X + 6 * Z) / (2 * M)) 100000 := by
    rw [greatW_pos (by omega) (by omega), Int.tdiv_eq_ediv_of_nonneg (by omega), w64k (by omega) (by omega)]
  have hgq : ∀ q : Int, (2 * X + 6 * Z) / (2 * M) = q → ∀ g : Int, min q 100000 = g → 0 ≤ g ∧ g ≤ 100000 ∧ wrap64 (wrap64 (wrap64 (2 * n) * g) * t) ≤ 2 * X + 6 * Z ∧ (g = 100000 ∨ 2 * X + 6 * Z < wrap64 (wrap64 (wrap64 (2 * n) * (g + 1)) * t)) := by
    intro q hq g hgg
    rw [hq] at qB qB' qB0 qB1
    have s0 : 2 * M * q = 2 * (M * q) := by grind
    obtain ⟨k1, k2, k3⟩ := hmul g (by omega) (by omega)
    obtain ⟨j1, j2, j3⟩ := hmul (g + 1) (by omega) (by omega)
    have s1 : M * (g + 1) = M * g + M := by grind
    have s2 : M * g ≤ M * q := Int.mul_le_mul_of_nonneg_left (by omega) (by omega)
    refine ⟨by omega, by omega, by rw [k1]; omega, ?_⟩
    by_cases h5 : g = 100000
    · exact .inl h5
    · right
      have : g = q := by omega
      subst this
      rw [j1]; omega
  obtain ⟨g0, g1, g2, g3⟩ := hgq _ rfl _ rfl
  clear hgq
  by_cases hTp : 2 * X - 2 * Y - 6 * Z ≤ 0
  · refine ⟨_, _, _, _, _, hok, hbt, hT, hm, hB, leastW_le _ hTp, hg, by omega, by omega, by omega, g0, g1, fun _ => rfl, fun h => by omega, g2, g3, ?_, fun h => by omega, ?_, hlo⟩
    · rw [hwith 0 (by omega) (by omega)]; simp; omega
    · rw [hwith 0 (by omega) (by omega)]; simp
  · have hl : leastW true (2 * X - 2 * Y - 6 * Z) (2 * M) = (2 * X - 2 * Y - 6 * Z + 2 * M - 1) / (2 * M) := by
      rw [leastW_pos (by omega) (by omega), w64k (x := 2 * X - 2 * Y - 6 * Z + 2 * M) (by omega) (by omega), w64k (x := 2 * X - 2 * Y - 6 * Z + 2 * M - 1) (by omega) (by omega), Int.tdiv_eq_ediv_of_nonneg (by omega)]
      have p1 : (2 * X - 2 * Y - 6 * Z + 2 * M - 1) / (2 * M) ≤ 2 * X - 2 * Y - 6 * Z := by
        have p2 : 2 * X - 2 * Y - 6 * Z + 2 * M - 1 < (2 * X - 2 * Y - 6 * Z + 1) * (2 * M) := by
          have p3 : 0 ≤ (2 * X - 2 * Y - 6 * Z - 1) * (2 * M - 1) := Int.mul_nonneg (by omega) (by omega)
          have p4 : (2 * X - 2 * Y - 6 * Z - 1) * (2 * M - 1) = (2 * X - 2 * Y - 6 * Z + 1) * (2 * M) - 2 * (2 * M) - (2 * X - 2 * Y - 6 * Z) + 1 := by grind
          omega
        have := Int.ediv_lt_of_lt_mul (by omega) p2
        omega
      have p0 : 0 ≤ (2 * X - 2 * Y - 6 * Z + 2 * M - 1) / (2 * M) := Int.ediv_nonneg (by omega) (by omega)
      rw [w64k (by omega) (by omega), capW, if_neg (by omega)]
    have r0 := Int.mul_ediv_self_le (x := 2 * X - 2 * Y - 6 * Z + 2 * M - 1) (k := 2 * M) (by omega)
    have r1 := Int.lt_mul_ediv_self_add (x := 2 * X - 2 * Y - 6 * Z + 2 * M - 1) (k := 2 * M) (by omega)
    generalize hq : (2 * X - 2 * Y - 6 * Z + 2 * M - 1) / (2 * M) = l at *
    have s0 : 2 * M * l = 2 * (M * l) := by grind
    have l1 : 1 ≤ l := by
      by_cases h : 1 ≤ l
      · exact h
      · have : M * l ≤ 0 := by
          have : M * (0 - l) ≥ 0 := Int.mul_nonneg (by omega) (by omega)
          have e : M * (0 - l) = - (M * l) := by grind
          omega
        omega
    have l2 : l ≤ 50000 := by
      by_cases h : l ≤ 50000
      · exact h
      · have : 0 ≤ (M - 1) * (l - 1) := Int.mul_nonneg (by omega) (by omega)
        have e : (M - 1) * (l - 1) = M * l - M - l + 1 := by grind
        omega
    have s3 : M * (l - 1) = M * l - M := by grind
    refine ⟨_, _, _, _, _, hok, hbt, hT, hm, hB, hl, hg, by omega, by omega, l2, g0, g1, fun h => by omega, fun _ => by omega, g2, g3, ?_, fun _ => ?_, ?_, hlo⟩
    · rw [hwith l (by omega) (by omega)]; omega
    · rw [hwith (l - 1) (by omega) (by omega)]; omega
    · rw [hwith 0 (by omega) (by omega)]; simp


set_option maxRecDepth 100000
attribute [local irreducible] QV TV WL HW W CallOk Weak
theorem cLeast (a b h d n t : Int) : CallOk Try.prog 14 [.agg [vi a, vi b], vi h, vi d, vi n, vi t] (fun r => r = vi (leastW (butB a b h d n t) (turnW a b h d n) (armW n t))) :=
  callOk_of_bel (vs := #[.agg #[.int .i64 a, .int .i64 b], .int .i64 h, .int .i64 d, .int .i64 n, .int .i64 t]) (fun _ _ _ hd => args_pier (xs := [h, d, n, t]) hd) (fun w => impl_LeastForce a b h d n t w)
theorem cGreat (a b h d n t : Int) : CallOk Try.prog 15 [.agg [vi a, vi b], vi h, vi d, vi n, vi t] (fun r => r = vi (greatW (butB a b h d n t) (bearsW a b h n) (armW n t))) :=
  callOk_of_bel (vs := #[.agg #[.int .i64 a, .int .i64 b], .int .i64 h, .int .i64 d, .int .i64 n, .int .i64 t]) (fun _ _ _ hd => args_pier (xs := [h, d, n, t]) hd) (fun w => impl_GreatestForce a b h d n t w)
theorem cRange (a b h d n t : Int) : CallOk Try.prog 16 [.agg [vi a, vi b], vi h, vi d, vi n, vi t] (fun r => r = vi (forceW a b h d n t)) :=
  callOk_of_bel (vs := #[.agg #[.int .i64 a, .int .i64 b], .int .i64 h, .int .i64 d, .int .i64 n, .int .i64 t]) (fun _ _ _ hd => args_pier (xs := [h, d, n, t]) hd) (fun w => impl_ForceRange a b h d n t w)
theorem cWith (a b h d n f t : Int) : CallOk Try.prog 17 [.agg [vi a, vi b], vi h, vi d, vi n, vi f, vi t] (fun r => r = vi (withW a b h d n f t)) :=
  callOk_of_bel (vs := #[.agg #[.int .i64 a, .int .i64 b], .int .i64 h, .int .i64 d, .int .i64 n, .int .i64 f, .int .i64 t]) (fun _ _ _ hd => args_pier (xs := [h, d, n, f, t]) hd) (fun w => impl_WithButtress a b h d n f t w)
theorem cTurn (a b h d n : Int) : CallOk Try.prog 18 [.agg [vi a, vi b], vi h, vi d, vi n] (fun r => r = vi (turnO a b h d n)) :=
  callOk_of_bel (vs := #[.agg #[.int .i64 a, .int .i64 b], .int .i64 h, .int .i64 d, .int .i64 n]) (fun _ _ _ hd => args_pier (xs := [h, d, n]) hd) (fun w => impl_TurnOver a b h d n w)
theorem mul_ex {x y X Y : Int} (hx : 0 ≤ x) (hX : x ≤ X) (hy : 0 ≤ y) (hY : y ≤ Y) (hm : X * Y ≤ 1000000000000) : ∃ q, q = x * y ∧ 0 ≤ q ∧ q ≤ X * Y ∧ abin .mul .i64 x y = some (.int .i64 q) := by
  have h := mul_bdk hx hX hy hY
  refine ⟨_, rfl, h.1, h.2, ?_⟩
  simp only [abin]
  rw [i64w (by omega)]

set_option maxHeartbeats 4000000 in
theorem law_FnButtresses (c : List Int) (hu : ∀ x ∈ c, isU8 x) (_hlen : c.length ≤ 9223372036854775807) : CallOk Try.prog 4 [slU c] (fun r => r = vb true) := by
  refine callOk Try.func4 Try.ntmps4 Try.results4 rfl rfl rfl fun B w0 I0 => ?_
  (repeat (first | refine WL_nil ?_ | (apply wl0 (hd := rfl); (first | exact qv0 | exact QV_bne Try.underlying4 rfl rfl | exact QV_beq Try.underlying4 rfl rfl | exact qv1 | exact q_callA (lbig_ok c)); (exact gy0)) | (apply wlb (hd := rfl); (first | exact q_box rfl rfl rfl | exact q_alloc); (exact gy0); rfl) | refine wln ⟨_, rfl, rfl⟩ rfl ?_ | refine wst rfl rfl rfl List.not_mem_nil rfl rfl rfl rfl rfl rfl ?_ | refine W_seq ?_ | refine W_condT rfl ?_ | refine W_condF rfl ?_ | refine W_region ?_ | refine W_skip ?_ | refine W_ret ?_ | refine W_block ?_ | refine W_exit ?_))
  (refine W_cond rfl (fun hc => ?_) (fun hc => ?_))
  · (repeat (first | refine WL_nil ?_ | (apply wl0 (hd := rfl); (first | exact qv0 | exact QV_bne Try.underlying4 rfl rfl | exact QV_beq Try.underlying4 rfl rfl | exact qv1); (exact gy0)) | (apply wlb (hd := rfl); (first | exact q_box rfl rfl rfl | exact q_alloc); (exact gy0); rfl) | refine wln ⟨_, rfl, rfl⟩ rfl ?_ | refine wst rfl rfl rfl List.not_mem_nil rfl rfl rfl rfl rfl rfl ?_ | refine W_seq ?_ | refine W_condT rfl ?_ | refine W_condF rfl ?_ | refine W_region ?_ | refine W_skip ?_ | refine W_ret ?_ | refine W_block ?_ | refine W_exit ?_))
    refine Exists.intro _ ⟨Weak.refl _, Exists.intro _ ⟨resA_tmp rfl rfl, ?_, rfl⟩⟩
    rfl
  · have hl : Bts c := ⟨hu, by simp at hc; omega⟩
    (repeat (first | refine WL_nil ?_ | (apply wl0 (hd := rfl); (first | exact qv0 | exact QV_bne Try.underlying4 rfl rfl | exact QV_beq Try.underlying4 rfl rfl | exact qv1); (exact gy0)) | (apply wlb (hd := rfl); (first | exact q_box rfl rfl rfl | exact q_alloc); (exact gy0); rfl) | refine wln ⟨_, rfl, rfl⟩ rfl ?_ | refine wst rfl rfl rfl List.not_mem_nil rfl rfl rfl rfl rfl rfl ?_ | refine W_seq ?_ | refine W_condT rfl ?_ | refine W_condF rfl ?_ | refine W_region ?_ | refine W_skip ?_ | refine W_ret ?_ | refine W_block ?_ | refine W_exit ?_))
    refine wlc (drawPier_ok c hl) rfl (by (repeat' (first | exact LeDs.nil | refine LeDs.cons (by first | exact LeD.v | exact LeD.sl | exact LeD.own | exact LeD.nil | exact LeD.top) ?_ | refine LeDs.agg ?_ ?_)); first | done | fail "open") (fun r ⟨_, _, _, _, _, _, _, _, _, _, hr⟩ => by subst hr; rfl) rfl (fun r hR => ?_)
    obtain ⟨a, b, h, d, n, ha, hb, hh, hd, hn, rfl⟩ := hR
    have hat := atL_255 hl
    have t0 := Int.tmod_nonneg 40 hat.1
    have t1 := Int.tmod_lt_of_pos (atL c) (b := 40) (by decide)
    have hrm : adv .rem .i64 (atL c) 40 = some (.int .i64 ((atL c).tmod 40)) := rfl
    have cat := lat_ok c hl
    obtain ⟨t, ht⟩ : ∃ t, t = 1 + (atL c).tmod 40 := ⟨_, rfl⟩
    have hs1 : aar .add 1 ((atL c).tmod 40) = some t := by rw [ht]; rfl
    have ht0 : 1 ≤ t ∧ t ≤ 40 := by omega
    obtain ⟨T, m, B, l, g, e1, e2, e3, e4, e5, e6, e7, f1, f2, f3, f4, f5, f6, f7, f8, f9, u1, u2, u3, u4⟩ := nums (a := a) (b := b) (h := h) (d := d) (n := n) ⟨ha.1, ha.2, hb.1, hb.2, hh.1, hh.2, hd.1, hd.2, hn.1, hn.2⟩ ht0.1 ht0.2
    have cl := cLeast a b h d n t
    rw [e2, e3, e4, e6] at cl
    have cg := cGreat a b h d n t
    rw [e2, e5, e4, e7] at cg
    have hfR : forceW a b h d n t = max 0 (g - l + 1) := by
      rw [forceW, e2, e3, e4, e5, e6, e7, rangeW, if_neg (by omega), w64k (x := g - l) (by omega) (by omega), w64k (x := g - l + 1) (by omega) (by omega)]
      omega
    have cr := cRange a b h d n t
    rw [hfR] at cr
    obtain ⟨V, hV⟩ : ∃ V, V = withW a b h d n l t := ⟨_, rfl⟩
    have cw := cWith a b h d n l t
    rw [← hV] at cw u1
    obtain ⟨V', hV'⟩ : ∃ V', V' = withW a b h d n (l - 1) t := ⟨_, rfl⟩
    have cw1 := cWith a b h d n (l - 1) t
    rw [← hV'] at cw1 u2
    have cw0 := cWith a b h d n 0 t
    rw [u3] at cw0
    have cT := cTurn a b h d n
    rw [u4] at cT
    obtain ⟨P1, q1, b1, b1', p1⟩ := mul_ex (x := 2 * h) (y := b) (X := 1800) (Y := 25) (by omega) (by omega) (by omega) (by omega) (by decide)
    obtain ⟨P2, q2, b2, b2', p2⟩ := mul_ex (x := n * 6) (y := a) (X := 18) (Y := 12) (by omega) (by omega) (by omega) (by omega) (by decide)
    obtain ⟨P3, q3, b3, b3', p3⟩ := mul_ex (x := P2) (y := a) (X := 216) (Y := 12) (by omega) (by omega) (by omega) (by omega) (by decide)
    obtain ⟨P4, q4, b4, b4', p4⟩ := mul_ex (x := P3) (y := b) (X := 2592) (Y := 25) (by omega) (by omega) (by omega) (by omega) (by decide)
    obtain ⟨P5, q5, b5, b5', p5⟩ := mul_ex (x := 2 * n) (y := g) (X := 6) (Y := 100000) (by omega) (by omega) (by omega) (by omega) (by decide)
    obtain ⟨P6, q6, b6, b6', p6⟩ := mul_ex (x := P5) (y := t) (X := 600000) (Y := 40) (by omega) (by omega) (by omega) (by omega) (by decide)
    obtain ⟨P7, q7, b7, b7', p7⟩ := mul_ex (x := 2 * n) (y := g + 1) (X := 6) (Y := 100001) (by omega) (by omega) (by omega) (by omega) (by decide)
    obtain ⟨P8, q8, b8, b8', p8⟩ := mul_ex (x := P7) (y := t) (X := 600006) (Y := 40) (by omega) (by omega) (by omega) (by omega) (by decide)
    have z0 : wrap64 (2 * h) = 2 * h := w64k (by omega) (by omega)
    have z1 : wrap64 (n * 6) = n * 6 := w64k (by omega) (by omega)
    have z2 : wrap64 (2 * n) = 2 * n := w64k (by omega) (by omega)
    have z3 : wrap64 P1 = P1 := w64k (by omega) (by omega)
    have z4 : wrap64 P2 = P2 := w64k (by omega) (by omega)
    have z5 : wrap64 P3 = P3 := w64k (by omega) (by omega)
    have z6 : wrap64 P4 = P4 := w64k (by omega) (by omega)
    have z7 : wrap64 P5 = P5 := w64k (by omega) (by omega)
    have z8 : wrap64 P6 = P6 := w64k (by omega) (by omega)
    have z9 : wrap64 P7 = P7 := w64k (by omega) (by omega)
    have z10 : wrap64 P8 = P8 := w64k (by omega) (by omega)
    have z11 : wrap64 (P1 + P4) = P1 + P4 := w64k (by omega) (by omega)
    have eB : B = P1 + P4 := by rw [← e5, bearsW, z0, z1, ← q1, ← q2, z3, z4, ← q3, z5, ← q4, z6, z11]
    rw [z2, ← q5, z7, ← q6, z8, eB] at f8
    rw [z2, ← q7, z9, ← q8, z10, eB] at f9
    have kl : abin .lss .i64 l 0 = some (.bool false) := by simp [abin]; omega
    have kg : abin .lss .i64 g 0 = some (.bool false) := by simp [abin]; omega
    have kV : abin .gtr .i64 V 0 = some (.bool false) := by simp [abin]; omega
    have kQ : abin .leq .i64 P6 (P1 + P4) = some (.bool true) := by simp [abin]; omega
    have kR : abin .eql .i64 (max 0 (g - l + 1)) (max 0 (g - l + 1)) = some (.bool true) := by simp [abin]
    have kT : abin .eql .i64 T T = some (.bool true) := by simp [abin]
    clear e1 e2 e3 e4 e5 e6 e7 u3 u4 z0 z1 z2 z3 z4 z5 z6 z7 z8 z9 z10 z11 eB q1 q2 q3 q4 q5 q6 q7 q8 hV hV' hfR ht t0 t1 hat
    by_cases hT : T ≤ 0
    · have gl : abin .gtr .i64 l 0 = some (.bool false) := by have := f6 hT; simp [abin]; omega
      have el : abin .eql .i64 l 0 = some (.bool true) := by have := f6 hT; simp [abin]; omega
      have eT : abin .leq .i64 T 0 = some (.bool true) := by simp [abin]; omega
      by_cases hg : g = 100000
      · have kH : abin .eql .i64 g 100000 = some (.bool true) := by simp [abin]; omega
        have kQ4 : abin .eql .i64 g 100000 = some (.bool true) := kH
        (repeat (first | refine WL_nil ?_ | (apply wl0 (hd := rfl); (first | exact QV_ar rfl rfl hs1 (by omega) | exact QV_bin rfl rfl kl | exact QV_bin rfl rfl kg | exact QV_bin rfl rfl kV | exact QV_bin rfl rfl gl | exact QV_bin rfl rfl el | exact QV_bin rfl rfl eT | exact QV_bin rfl rfl p1 | exact QV_bin rfl rfl p2 | exact QV_bin rfl rfl p3 | exact QV_bin rfl rfl p4 | exact QV_bin rfl rfl p5 | exact QV_bin rfl rfl p6 | exact QV_bin rfl rfl p7 | exact QV_bin rfl rfl p8 | exact QV_bin rfl rfl kQ | exact QV_bin rfl rfl kR | exact QV_bin rfl rfl kT | exact QV_bin rfl rfl kH | exact QV_bin rfl rfl kQ4 | exact qv0 | exact QV_bne Try.underlying4 rfl rfl | exact QV_beq Try.underlying4 rfl rfl | exact qv1 | exact q_callA (cl) | exact q_callA (cg) | exact q_callA (cr) | exact q_callA (cw) | exact q_callA (cw0) | exact q_callA (cT) | exact QV_div rfl rfl (by decide) hrm | exact q_callA (cat)); (exact gy0)) | (apply wlb (hd := rfl); (first | exact q_box rfl rfl rfl | exact q_alloc); (exact gy0); rfl) | refine wln ⟨_, rfl, rfl⟩ rfl ?_ | refine wst rfl rfl rfl List.not_mem_nil rfl rfl rfl rfl rfl rfl ?_ | refine W_seq ?_ | refine W_condT rfl ?_ | refine W_condF rfl ?_ | refine W_region ?_ | refine W_skip ?_ | refine W_ret ?_ | refine W_block ?_ | refine W_exit ?_))
        refine wdraw 46 (by kernel_rfl) (by kernel_rfl) (by kernel_rfl) rfl ?_
        (repeat (first | refine HW_nil ?_ | (apply hw0 (hd := rfl); (first | exact QV_ar rfl rfl hs1 (by omega) | exact QV_bin rfl rfl kl | exact QV_bin rfl rfl kg | exact QV_bin rfl rfl kV | exact QV_bin rfl rfl gl | exact QV_bin rfl rfl el | exact QV_bin rfl rfl eT | exact QV_bin rfl rfl p1 | exact QV_bin rfl rfl p2 | exact QV_bin rfl rfl p3 | exact QV_bin rfl rfl p4 | exact QV_bin rfl rfl p5 | exact QV_bin rfl rfl p6 | exact QV_bin rfl rfl p7 | exact QV_bin rfl rfl p8 | exact QV_bin rfl rfl kQ | exact QV_bin rfl rfl kR | exact QV_bin rfl rfl kT | exact QV_bin rfl rfl kH | exact QV_bin rfl rfl kQ4 | exact qv0 | exact QV_bne Try.underlying4 rfl rfl | exact QV_beq Try.underlying4 rfl rfl | exact qv1 | exact q_callA (cl) | exact q_callA (cg) | exact q_callA (cr) | exact q_callA (cw) | exact q_callA (cw0) | exact q_callA (cT) | exact QV_div rfl rfl (by decide) hrm | exact q_callA (cat)); (exact gy0)) | (apply hwb (hd := rfl); (first | exact q_box rfl rfl rfl | exact q_alloc); (exact gy0); rfl) | refine hwn ⟨_, rfl, rfl⟩ rfl ?_))
        (repeat (first | refine WL_nil ?_ | (apply wl0 (hd := rfl); (first | exact qv0 | exact QV_bne Try.underlying4 rfl rfl | exact QV_beq Try.underlying4 rfl rfl | exact qv1); (exact gy0)) | (apply wlb (hd := rfl); (first | exact q_box rfl rfl rfl | exact q_alloc); (exact gy0); rfl) | refine wln ⟨_, rfl, rfl⟩ rfl ?_ | refine wst rfl rfl rfl List.not_mem_nil rfl rfl rfl rfl rfl rfl ?_ | refine W_seq ?_ | refine W_condT rfl ?_ | refine W_condF rfl ?_ | refine W_region ?_ | refine W_skip ?_ | refine W_ret ?_ | refine W_block ?_ | refine W_exit ?_))
        refine Exists.intro _ ⟨Weak.refl _, Exists.intro _ ⟨resA_tmp rfl rfl, ?_, rfl⟩⟩
        rfl
      · have kH : abin .eql .i64 g 100000 = some (.bool false) := by simp [abin]; omega
        have kQ4 : abin .gtr .i64 P8 (P1 + P4) = some (.bool true) := by simp [abin]; omega
        (repeat (first | refine WL_nil ?_ | (apply wl0 (hd := rfl); (first | exact QV_ar rfl rfl hs1 (by omega) | exact QV_bin rfl rfl kl | exact QV_bin rfl rfl kg | exact QV_bin rfl rfl kV | exact QV_bin rfl rfl gl | exact QV_bin rfl rfl el | exact QV_bin rfl rfl eT | exact QV_bin rfl rfl p1 | exact QV_bin rfl rfl p2 | exact QV_bin rfl rfl p3 | exact QV_bin rfl rfl p4 | exact QV_bin rfl rfl p5 | exact QV_bin rfl rfl p6 | exact QV_bin rfl rfl p7 | exact QV_bin rfl rfl p8 | exact QV_bin rfl rfl kQ | exact QV_bin rfl rfl kR | exact QV_bin rfl rfl kT | exact QV_bin rfl rfl kH | exact QV_bin rfl rfl kQ4 | exact qv0 | exact QV_bne Try.underlying4 rfl rfl | exact QV_beq Try.underlying4 rfl rfl | exact qv1 | exact q_callA (cl) | exact q_callA (cg) | exact q_callA (cr) | exact q_callA (cw) | exact q_callA (cw0) | exact q_callA (cT) | exact QV_div rfl rfl (by decide) hrm | exact q_callA (cat)); (exact gy0)) | (apply wlb (hd := rfl); (first | exact q_box rfl rfl rfl | exact q_alloc); (exact gy0); rfl) | refine wln ⟨_, rfl, rfl⟩ rfl ?_ | refine wst rfl rfl rfl List.not_mem_nil rfl rfl rfl rfl rfl rfl ?_ | refine W_seq ?_ | refine W_condT rfl ?_ | refine W_condF rfl ?_ | refine W_region ?_ | refine W_skip ?_ | refine W_ret ?_ | refine W_block ?_ | refine W_exit ?_))
        refine wdraw 46 (by kernel_rfl) (by kernel_rfl) (by kernel_rfl) rfl ?_
        (repeat (first | refine HW_nil ?_ | (apply hw0 (hd := rfl); (first | exact QV_ar rfl rfl hs1 (by omega) | exact QV_bin rfl rfl kl | exact QV_bin rfl rfl kg | exact QV_bin rfl rfl kV | exact QV_bin rfl rfl gl | exact QV_bin rfl rfl el | exact QV_bin rfl rfl eT | exact QV_bin rfl rfl p1 | exact QV_bin rfl rfl p2 | exact QV_bin rfl rfl p3 | exact QV_bin rfl rfl p4 | exact QV_bin rfl rfl p5 | exact QV_bin rfl rfl p6 | exact QV_bin rfl rfl p7 | exact QV_bin rfl rfl p8 | exact QV_bin rfl rfl kQ | exact QV_bin rfl rfl kR | exact QV_bin rfl rfl kT | exact QV_bin rfl rfl kH | exact QV_bin rfl rfl kQ4 | exact qv0 | exact QV_bne Try.underlying4 rfl rfl | exact QV_beq Try.underlying4 rfl rfl | exact qv1 | exact q_callA (cl) | exact q_callA (cg) | exact q_callA (cr) | exact q_callA (cw) | exact q_callA (cw0) | exact q_callA (cT) | exact QV_div rfl rfl (by decide) hrm | exact q_callA (cat)); (exact gy0)) | (apply hwb (hd := rfl); (first | exact q_box rfl rfl rfl | exact q_alloc); (exact gy0); rfl) | refine hwn ⟨_, rfl, rfl⟩ rfl ?_))
        (repeat (first | refine WL_nil ?_ | (apply wl0 (hd := rfl); (first | exact qv0 | exact QV_bne Try.underlying4 rfl rfl | exact QV_beq Try.underlying4 rfl rfl | exact qv1); (exact gy0)) | (apply wlb (hd := rfl); (first | exact q_box rfl rfl rfl | exact q_alloc); (exact gy0); rfl) | refine wln ⟨_, rfl, rfl⟩ rfl ?_ | refine wst rfl rfl rfl List.not_mem_nil rfl rfl rfl rfl rfl rfl ?_ | refine W_seq ?_ | refine W_condT rfl ?_ | refine W_condF rfl ?_ | refine W_region ?_ | refine W_skip ?_ | refine W_ret ?_ | refine W_block ?_ | refine W_exit ?_))
        refine Exists.intro _ ⟨Weak.refl _, Exists.intro _ ⟨resA_tmp rfl rfl, ?_, rfl⟩⟩
        rfl
    · have gl : abin .gtr .i64 l 0 = some (.bool true) := by have := f7 (by omega); simp [abin]; omega
      have el : abin .eql .i64 l 0 = some (.bool false) := by have := f7 (by omega); simp [abin]; omega
      have eT : abin .leq .i64 T 0 = some (.bool false) := by simp [abin]; omega
      have kV' : abin .leq .i64 V' 0 = some (.bool false) := by have := u2 (by omega); simp [abin]; omega
      by_cases hg : g = 100000
      · have kH : abin .eql .i64 g 100000 = some (.bool true) := by simp [abin]; omega
        have kQ4 : abin .eql .i64 g 100000 = some (.bool true) := kH
        (repeat (first | refine WL_nil ?_ | (apply wl0 (hd := rfl); (first | exact QV_ar rfl rfl hs1 (by omega) | exact QV_bin rfl rfl kl | exact QV_bin rfl rfl kg | exact QV_bin rfl rfl kV | exact QV_bin rfl rfl gl | exact QV_bin rfl rfl el | exact QV_bin rfl rfl eT | exact QV_bin rfl rfl p1 | exact QV_bin rfl rfl p2 | exact QV_bin rfl rfl p3 | exact QV_bin rfl rfl p4 | exact QV_bin rfl rfl p5 | exact QV_bin rfl rfl p6 | exact QV_bin rfl rfl p7 | exact QV_bin rfl rfl p8 | exact QV_bin rfl rfl kQ | exact QV_bin rfl rfl kR | exact QV_bin rfl rfl kT | exact QV_bin rfl rfl kH | exact QV_bin rfl rfl kQ4 | exact QV_bin rfl rfl kV' | exact qv0 | exact QV_bne Try.underlying4 rfl rfl | exact QV_beq Try.underlying4 rfl rfl | exact qv1 | exact q_callA (cl) | exact q_callA (cg) | exact q_callA (cr) | exact q_callA (cw) | exact q_callA (cw0) | exact q_callA (cT) | exact QV_div rfl rfl (by decide) hrm | exact q_callA (cat) | exact q_callA (cw1)); (exact gy0)) | (apply wlb (hd := rfl); (first | exact q_box rfl rfl rfl | exact q_alloc); (exact gy0); rfl) | refine wln ⟨_, rfl, rfl⟩ rfl ?_ | refine wst rfl rfl rfl List.not_mem_nil rfl rfl rfl rfl rfl rfl ?_ | refine W_seq ?_ | refine W_condT rfl ?_ | refine W_condF rfl ?_ | refine W_region ?_ | refine W_skip ?_ | refine W_ret ?_ | refine W_block ?_ | refine W_exit ?_))
        refine wdraw 46 (by kernel_rfl) (by kernel_rfl) (by kernel_rfl) rfl ?_
        (repeat (first | refine HW_nil ?_ | (apply hw0 (hd := rfl); (first | exact QV_ar rfl rfl hs1 (by omega) | exact QV_bin rfl rfl kl | exact QV_bin rfl rfl kg | exact QV_bin rfl rfl kV | exact QV_bin rfl rfl gl | exact QV_bin rfl rfl el | exact QV_bin rfl rfl eT | exact QV_bin rfl rfl p1 | exact QV_bin rfl rfl p2 | exact QV_bin rfl rfl p3 | exact QV_bin rfl rfl p4 | exact QV_bin rfl rfl p5 | exact QV_bin rfl rfl p6 | exact QV_bin rfl rfl p7 | exact QV_bin rfl rfl p8 | exact QV_bin rfl rfl kQ | exact QV_bin rfl rfl kR | exact QV_bin rfl rfl kT | exact QV_bin rfl rfl kH | exact QV_bin rfl rfl kQ4 | exact QV_bin rfl rfl kV' | exact qv0 | exact QV_bne Try.underlying4 rfl rfl | exact QV_beq Try.underlying4 rfl rfl | exact qv1 | exact q_callA (cl) | exact q_callA (cg) | exact q_callA (cr) | exact q_callA (cw) | exact q_callA (cw0) | exact q_callA (cT) | exact QV_div rfl rfl (by decide) hrm | exact q_callA (cat) | exact q_callA (cw1)); (exact gy0)) | (apply hwb (hd := rfl); (first | exact q_box rfl rfl rfl | exact q_alloc); (exact gy0); rfl) | refine hwn ⟨_, rfl, rfl⟩ rfl ?_))
        (repeat (first | refine WL_nil ?_ | (apply wl0 (hd := rfl); (first | exact qv0 | exact QV_bne Try.underlying4 rfl rfl | exact QV_beq Try.underlying4 rfl rfl | exact qv1); (exact gy0)) | (apply wlb (hd := rfl); (first | exact q_box rfl rfl rfl | exact q_alloc); (exact gy0); rfl) | refine wln ⟨_, rfl, rfl⟩ rfl ?_ | refine wst rfl rfl rfl List.not_mem_nil rfl rfl rfl rfl rfl rfl ?_ | refine W_seq ?_ | refine W_condT rfl ?_ | refine W_condF rfl ?_ | refine W_region ?_ | refine W_skip ?_ | refine W_ret ?_ | refine W_block ?_ | refine W_exit ?_))
        refine Exists.intro _ ⟨Weak.refl _, Exists.intro _ ⟨resA_tmp rfl rfl, ?_, rfl⟩⟩
        rfl
      · have kH : abin .eql .i64 g 100000 = some (.bool false) := by simp [abin]; omega
        have kQ4 : abin .gtr .i64 P8 (P1 + P4) = some (.bool true) := by simp [abin]; omega
        (repeat (first | refine WL_nil ?_ | (apply wl0 (hd := rfl); (first | exact QV_ar rfl rfl hs1 (by omega) | exact QV_bin rfl rfl kl | exact QV_bin rfl rfl kg | exact QV_bin rfl rfl kV | exact QV_bin rfl rfl gl | exact QV_bin rfl rfl el | exact QV_bin rfl rfl eT | exact QV_bin rfl rfl p1 | exact QV_bin rfl rfl p2 | exact QV_bin rfl rfl p3 | exact QV_bin rfl rfl p4 | exact QV_bin rfl rfl p5 | exact QV_bin rfl rfl p6 | exact QV_bin rfl rfl p7 | exact QV_bin rfl rfl p8 | exact QV_bin rfl rfl kQ | exact QV_bin rfl rfl kR | exact QV_bin rfl rfl kT | exact QV_bin rfl rfl kH | exact QV_bin rfl rfl kQ4 | exact QV_bin rfl rfl kV' | exact qv0 | exact QV_bne Try.underlying4 rfl rfl | exact QV_beq Try.underlying4 rfl rfl | exact qv1 | exact q_callA (cl) | exact q_callA (cg) | exact q_callA (cr) | exact q_callA (cw) | exact q_callA (cw0) | exact q_callA (cT) | exact QV_div rfl rfl (by decide) hrm | exact q_callA (cat) | exact q_callA (cw1)); (exact gy0)) | (apply wlb (hd := rfl); (first | exact q_box rfl rfl rfl | exact q_alloc); (exact gy0); rfl) | refine wln ⟨_, rfl, rfl⟩ rfl ?_ | refine wst rfl rfl rfl List.not_mem_nil rfl rfl rfl rfl rfl rfl ?_ | refine W_seq ?_ | refine W_condT rfl ?_ | refine W_condF rfl ?_ | refine W_region ?_ | refine W_skip ?_ | refine W_ret ?_ | refine W_block ?_ | refine W_exit ?_))
        refine wdraw 46 (by kernel_rfl) (by kernel_rfl) (by kernel_rfl) rfl ?_
        (repeat (first | refine HW_nil ?_ | (apply hw0 (hd := rfl); (first | exact QV_ar rfl rfl hs1 (by omega) | exact QV_bin rfl rfl kl | exact QV_bin rfl rfl kg | exact QV_bin rfl rfl kV | exact QV_bin rfl rfl gl | exact QV_bin rfl rfl el | exact QV_bin rfl rfl eT | exact QV_bin rfl rfl p1 | exact QV_bin rfl rfl p2 | exact QV_bin rfl rfl p3 | exact QV_bin rfl rfl p4 | exact QV_bin rfl rfl p5 | exact QV_bin rfl rfl p6 | exact QV_bin rfl rfl p7 | exact QV_bin rfl rfl p8 | exact QV_bin rfl rfl kQ | exact QV_bin rfl rfl kR | exact QV_bin rfl rfl kT | exact QV_bin rfl rfl kH | exact QV_bin rfl rfl kQ4 | exact QV_bin rfl rfl kV' | exact qv0 | exact QV_bne Try.underlying4 rfl rfl | exact QV_beq Try.underlying4 rfl rfl | exact qv1 | exact q_callA (cl) | exact q_callA (cg) | exact q_callA (cr) | exact q_callA (cw) | exact q_callA (cw0) | exact q_callA (cT) | exact QV_div rfl rfl (by decide) hrm | exact q_callA (cat) | exact q_callA (cw1)); (exact gy0)) | (apply hwb (hd := rfl); (first | exact q_box rfl rfl rfl | exact q_alloc); (exact gy0); rfl) | refine hwn ⟨_, rfl, rfl⟩ rfl ?_))
        (repeat (first | refine WL_nil ?_ | (apply wl0 (hd := rfl); (first | exact qv0 | exact QV_bne Try.underlying4 rfl rfl | exact QV_beq Try.underlying4 rfl rfl | exact qv1); (exact gy0)) | (apply wlb (hd := rfl); (first | exact q_box rfl rfl rfl | exact q_alloc); (exact gy0); rfl) | refine wln ⟨_, rfl, rfl⟩ rfl ?_ | refine wst rfl rfl rfl List.not_mem_nil rfl rfl rfl rfl rfl rfl ?_ | refine W_seq ?_ | refine W_condT rfl ?_ | refine W_condF rfl ?_ | refine W_region ?_ | refine W_skip ?_ | refine W_ret ?_ | refine W_block ?_ | refine W_exit ?_))
        refine Exists.intro _ ⟨Weak.refl _, Exists.intro _ ⟨resA_tmp rfl rfl, ?_, rfl⟩⟩
        rfl

theorem walk_FnButtresses {H : Type} (enc : TypeId × Value → H) (W : World) (base : Nat) (args : Array Value) (ds : List (DataW H)) (p : List MemPlace) (hval : ∀ (j : Nat) (t : TypeId) (v : Value), Try.f4.params[j]? = some t → args[j]? = some v → Value.okWide Try.prog W .any base t v) (hA : DataW.TrodAll enc Try.prog W 0 (fun _ => true) true Try.f4.params.toList args.toList ds p) (hlt : ∀ x ∈ p, x.block < W.heap.size) :
    Calls Try.prog 4 args W fun e w' => e = .returned (.bool true) ∧ Bel W w' := by
  rw [Try.params4] at hA hval
  obtain ⟨v0, vs0, t0, ds0, p0, q0, hargs, rfl, rfl, h0, r0⟩ := trodAll_cons hA
  obtain ⟨rfl, rfl, rfl⟩ := trodAll_nil r0
  obtain rfl : args = #[v0] := by cases args; simp_all
  obtain ⟨c, bc, lc, dc⟩ := open_code (hval 0 22 v0 rfl rfl) h0 (fun x hx => hlt x (by simp [hx]))
  exact law_of_call (law_FnButtresses c bc lc) (by simp only [dreps]; exact ⟨_, _, rfl, dc, rfl⟩)

set_option maxRecDepth 100000 in
theorem lifted_FnButtresses (os : Os) (started : os.Started) (H : Type) (enc : TypeId × Value → H) :
    ReturnsInHanded {} Try.checked os 4 .any (Rows.fnButtressesSpec.pre6 enc Try.prog Try.f4 Rows.fnButtressesRow.domain false) (Rows.fnButtressesSpec.post enc Try.prog Try.f4 false true false false) :=
  law_lifted (tb := 4) started (by kernel_rfl) Try.func4
    (ChangeSpec.witness6 (enc := enc) (C := Try.checked) false ⟨#[], #[.slice none 0 0], []⟩ 8 (by kernel_rfl) (by kernel_rfl) (by kernel_rfl) (by kernel_rfl))
    rfl Try.underlying4 (by kernel_rfl) rfl (fun ds h => by match ds, h with | [d0], _ => rfl)
    (walk_FnButtresses enc)

/-- THE STATEMENT. -/
theorem holds_FnButtresses : Rows.FnButtressesSaid :=
  OpenClaim.holds_of_wide 4 Try.f4 rfl rfl rfl rfl rfl rfl rfl ⟨rfl, rfl, rfl, rfl, rfl⟩ rfl rfl rfl rfl rfl (by kernel_rfl) Try.func4 (by kernel_rfl)
    (of_decide_eq_true (by kernel_rfl)) (by unfold Func.isWrapper; first | (rw [if_pos (by decide +kernel)]; kernel_rfl) | (rw [if_neg (by decide +kernel)]; exact ⟨rfl, rfl⟩))
    (fun os started H enc _ => lifted_FnButtresses os started H enc)
end Go.Proofs.Ytikbndfbjgdldaa
