/- FnWeights: the middle of weight lies inside, and is mirrored with the stone. -/
import Derived.Test.YtkadjimnamcjbaaAFw
import Derived.Test.YtkadjimnamcjbaaAMs
import Derived.Test.YtkadjimnamcjbaaMMo
import Derived.Test.YtkadjimnamcjbaaMBox
import Derived.Test.YtkadjimnamcjbaaALeft
import Derived.Test.YtkadjimnamcjbaaATot
import Derived.Test.YtkadjimnamcjbaaACode
namespace Go.Proofs.Ytkadjimnamcjbaa
open Go.ChangeShapes Go.WideShapes Go.ChangeAt Go.RowKit Go.Deep Go.Eng
set_option maxRecDepth 100000
attribute [local irreducible] QV TV WL HW W CallOk Weak

theorem atL_in {l : List Int} (hl : Bts l) : 0 ≤ atL l ∧ atL l ≤ 255 := by
  unfold atL
  split
  · omega
  · rename_i h0
    have hi : 1 % l.length < l.length := Nat.mod_lt _ (by omega)
    have := hl.u l[1 % l.length] (List.getElem_mem hi)
    unfold isU8 at this
    simp only [List.getD_eq_getElem?_getD, List.getElem?_eq_getElem hi, Option.getD_some]
    exact this
/-- What a stone weighs, and where. -/
structure StF (s : List Pt) (A n h : Int) : Prop where
  wt : weightW s = 3 * A
  ar : areaW s = A
  mx : overW momF s = n
  my : overW heiF s = h
  pos : 0 < A ∧ A ≤ 43200
  bx : -5184000 ≤ n ∧ n ≤ 5184000
  by' : -5184000 ≤ h ∧ h ≤ 5184000
theorem stF {s : List Pt} (h : stoneB s = true) : StF s (areaI s) (momI Pt.x s) (momI Pt.y s) := by
  have h3 := stone_len h
  have ea := areaW_eq h
  have b1 : 0 < areaI s ∧ areaI s ≤ 43200 := by
    refine ⟨area_pos h, ?_⟩
    have := (csum_bd (m := 7200) (by decide) (fun i => (cr_bd (cor_ok h i) (cor_ok h (i + 1))).1) s.length).2
    have h4 : (s.length : Int) * 7200 ≤ 6 * 7200 := Int.mul_le_mul_of_nonneg_right (by omega) (by decide)
    unfold areaI; omega
  have mb : ∀ g, Coor g → -5184000 ≤ momI g s ∧ momI g s ≤ 5184000 := fun g hg => by
    have := csum_bd (f := fun i => (g (cor s i) + g (cor s (i + 1))) * cr (cor s i) (cor s (i + 1))) (m := 864000) (by decide) (fun i => by
      have c1 := (cr_bd (cor_ok h i) (cor_ok h (i + 1))).1
      have g1 := hg.sm _ (cor_ok h i)
      have g2 := hg.sm _ (cor_ok h (i + 1))
      have h1 := mul_bd (a := g (cor s i) + g (cor s (i + 1))) (b := cr (cor s i) (cor s (i + 1))) (m := 120) (n := 7200) (by omega) (by omega)
      omega) s.length
    have h4 : (s.length : Int) * 864000 ≤ 6 * 864000 := Int.mul_le_mul_of_nonneg_right (by omega) (by decide)
    unfold momI; omega
  refine ⟨?_, ea, overW_eq h Pt.x momF (fun a b => rfl) coor_x.sm, overW_eq h Pt.y heiF (fun a b => rfl) coor_y.sm, b1, mb _ coor_x, mb _ coor_y⟩
  rw [weightW, ea]; exact w64 (by omega)
theorem box_in {s : List Pt} (h : stoneB s = true) : ∀ n, ptOk (lowP s n) = true ∧ ptOk (highP s n) = true
  | 0 => ⟨cor_ok h 0, cor_ok h 0⟩
  | k + 1 => by
    have h1 := box_in h k
    have h2 := ptOk_true.1 (cor_ok h k)
    have h3 := ptOk_true.1 h1.1
    have h4 := ptOk_true.1 h1.2
    exact ⟨ptOk_true.2 (by simp only [lowP]; omega), ptOk_true.2 (by simp only [highP]; omega)⟩
theorem mul_at {a b : Int} (ha : -60 ≤ a ∧ a ≤ 60) (hb : 0 ≤ b ∧ b ≤ 129600) : ∃ q, q = a * b ∧ (-7776000 ≤ q ∧ q ≤ 7776000) ∧ abin .mul .i64 a b = some (.int .i64 q) := by
  have h1 := mul_bd (a := a) (b := b) (m := 60) (n := 129600) ha (by omega)
  refine ⟨_, rfl, by omega, ?_⟩
  simp only [abin]
  rw [i64w (by omega)]
theorem gtr_at {a b : Int} (h : b < a) : abin .gtr .i64 a b = some (.bool true) := by simp [abin, h]
theorem lss_at {a b : Int} (h : a < b) : abin .lss .i64 a b = some (.bool true) := by simp [abin, h]
theorem eql_at {a b : Int} (h : a = b) : abin .eql .i64 a b = some (.bool true) := by simp [abin, h]
set_option maxHeartbeats 2000000 in
theorem law_FnWeights (l : List Int) (hu : ∀ x ∈ l, isU8 x) (_hlen : l.length ≤ 9223372036854775807) : CallOk Try.prog 3 [slU l] (fun r => r = vb true) := by
  refine callOk Try.func3 Try.ntmps3 Try.results3 rfl rfl rfl fun B w0 I0 => ?_
  (repeat (first | refine WL_nil ?_ | (apply wl0 (hd := rfl); (first | exact qv0 | exact QV_bne Try.underlying4 rfl rfl | exact QV_beq Try.underlying4 rfl rfl | exact qv1 | exact q_callA (lbig_ok l)); (exact gy0)) | (apply wlb (hd := rfl); (first | exact q_box rfl rfl rfl | exact q_alloc); (exact gy0); rfl) | refine wln ⟨_, rfl, rfl⟩ rfl ?_ | refine wst rfl rfl rfl List.not_mem_nil rfl rfl rfl rfl rfl rfl ?_ | refine W_seq ?_ | refine W_condT rfl ?_ | refine W_condF rfl ?_ | refine W_region ?_ | refine W_skip ?_ | refine W_ret ?_ | refine W_block ?_ | refine W_exit ?_))
  (refine W_cond rfl (fun hc => ?_) (fun hc => ?_))
  · (repeat (first | refine WL_nil ?_ | (apply wl0 (hd := rfl); (first | exact qv0 | exact QV_bne Try.underlying4 rfl rfl | exact QV_beq Try.underlying4 rfl rfl | exact qv1); (exact gy0)) | (apply wlb (hd := rfl); (first | exact q_box rfl rfl rfl | exact q_alloc); (exact gy0); rfl) | refine wln ⟨_, rfl, rfl⟩ rfl ?_ | refine wst rfl rfl rfl List.not_mem_nil rfl rfl rfl rfl rfl rfl ?_ | refine W_seq ?_ | refine W_condT rfl ?_ | refine W_condF rfl ?_ | refine W_region ?_ | refine W_skip ?_ | refine W_ret ?_ | refine W_block ?_ | refine W_exit ?_))
    refine Exists.intro _ ⟨Weak.refl _, Exists.intro _ ⟨resA_tmp rfl rfl, ?_, rfl⟩⟩
    rfl
  · have hl : Bts l := ⟨hu, by simp at hc; omega⟩
    (repeat (first | refine WL_nil ?_ | (apply wl0 (hd := rfl); (first | exact qv0 | exact QV_bne Try.underlying4 rfl rfl | exact QV_beq Try.underlying4 rfl rfl | exact qv1); (exact gy0)) | (apply wlb (hd := rfl); (first | exact q_box rfl rfl rfl | exact q_alloc); (exact gy0); rfl) | refine wln ⟨_, rfl, rfl⟩ rfl ?_ | refine wst rfl rfl rfl List.not_mem_nil rfl rfl rfl rfl rfl rfl ?_ | refine W_seq ?_ | refine W_condT rfl ?_ | refine W_condF rfl ?_ | refine W_region ?_ | refine W_skip ?_ | refine W_ret ?_ | refine W_block ?_ | refine W_exit ?_))
    refine wlc (drawStone_ok l hl) rfl (by (repeat' (first | exact LeDs.nil | refine LeDs.cons (by first | exact LeD.v | exact LeD.sl | exact LeD.own | exact LeD.nil | exact LeD.top) ?_ | refine LeDs.agg ?_ ?_)); first | done | fail "open") (fun r ⟨s, _, _, _, hr⟩ => by subst hr; rfl) rfl (fun r hR => ?_)
    obtain ⟨s, hs, hb, hm, rfl⟩ := hR
    have ha := atL_in hl
    have t0 := Int.tmod_nonneg 9 ha.1
    have t1 := Int.tmod_lt_of_pos (atL l) (b := 9) (by decide)
    obtain ⟨X, hX⟩ : ∃ X, X = (atL l).tmod 9 - 4 := ⟨_, rfl⟩
    have hX1 : -4 ≤ X ∧ X ≤ 4 := by omega
    have hrm : adv .rem .i64 (atL l) 9 = some (.int .i64 ((atL l).tmod 9)) := rfl
    have hsb : aar .sub ((atL l).tmod 9) 4 = some X := by rw [hX]; rfl
    have hst := stone_len hs
    have hms := hm X (by omega)
    obtain ⟨m, em⟩ : ∃ m, m = mirT X s 0 := ⟨_, rfl⟩
    have cm := mirrorStone_ok s X hs (inR_true.2 (by omega)) hms
    rw [← em] at cm hms
    have hmt := stone_len hms
    obtain ⟨A, eA⟩ : ∃ A, A = areaI s := ⟨_, rfl⟩
    obtain ⟨n, en⟩ : ∃ n, n = momI Pt.x s := ⟨_, rfl⟩
    obtain ⟨h, eh⟩ : ∃ h, h = momI Pt.y s := ⟨_, rfl⟩
    have fs := stF hs
    rw [← eA, ← en, ← eh] at fs
    have fm := stF hms
    have m1 : areaI m = A := by rw [em, areaI_mir _ _ (by omega), eA]
    have m2 : momI Pt.x m = 2 * X * (3 * A) - n := by rw [em, momX_mir _ _ (by omega), eA, en]
    have m3 : momI Pt.y m = h := by rw [em, momY_mir _ _ (by omega), eh]
    rw [m1, m2, m3] at fm
    obtain ⟨w, ew⟩ : ∃ w, w = 3 * A := ⟨_, rfl⟩
    have hw : 0 < w ∧ w ≤ 129600 := by have := fs.pos; omega
    obtain ⟨z, ez, bz, pz⟩ := mul_at (a := 2 * X) (b := w) (by omega) (by omega)
    rw [← ew, ← ez] at fm
    have cw := implWeightOf_ok s (by omega)
    rw [fs.wt, ← ew] at cw
    have cn := implMomentOf_ok s (by omega)
    rw [fs.mx] at cn
    have ch := implHeightMoment_ok s (by omega)
    rw [fs.my] at ch
    have cA := implAreaTwice_ok s (by omega)
    rw [fs.ar] at cA
    have cwm := implWeightOf_ok m (by omega)
    rw [fm.wt, ← ew] at cwm
    have cnm := implMomentOf_ok m (by omega)
    rw [fm.mx] at cnm
    have chm := implHeightMoment_ok m (by omega)
    rw [fm.my] at chm
    have cb := boxOf_ok s (by omega)
    simp only [boxP, if_pos hs] at cb
    obtain ⟨lo, elo⟩ : ∃ lo, lo = lowP s s.length := ⟨_, rfl⟩
    obtain ⟨hi, ehi⟩ : ∃ hi, hi = highP s s.length := ⟨_, rfl⟩
    have blo := ptOk_true.1 (box_in hs s.length).1
    have bhi := ptOk_true.1 (box_in hs s.length).2
    have l1 := mom_low coor_x hs (lo := lo.x) (fun i => by rw [elo]; exact (low_all (by omega) i).1)
    have l2 := mom_high coor_x hs (hi := hi.x) (fun i => by rw [ehi]; exact (high_all (by omega) i).1)
    have l3 := mom_low coor_y hs (lo := lo.y) (fun i => by rw [elo]; exact (low_all (by omega) i).2)
    have l4 := mom_high coor_y hs (hi := hi.y) (fun i => by rw [ehi]; exact (high_all (by omega) i).2)
    rw [← elo] at blo cb
    rw [← ehi] at bhi cb
    rw [← eA, ← ew] at l1 l2 l3 l4
    rw [← en] at l1 l2
    rw [← eh] at l3 l4
    obtain ⟨q1, e1, b1, p1⟩ := mul_at (a := lo.x) (b := w) blo.1 (by omega)
    obtain ⟨q2, e2, b2, p2⟩ := mul_at (a := hi.x) (b := w) bhi.1 (by omega)
    obtain ⟨q3, e3, b3, p3⟩ := mul_at (a := lo.y) (b := w) blo.2 (by omega)
    obtain ⟨q4, e4, b4, p4⟩ := mul_at (a := hi.y) (b := w) bhi.2 (by omega)
    obtain ⟨q5, e5, b5, p5⟩ := mul_at (a := X) (b := w) (by omega) (by omega)
    rw [← e1] at l1
    rw [← e2] at l2
    rw [← e3] at l3
    rw [← e4] at l4
    have hleft : leftB s X = decide (n < q5) := by
      rw [leftB, hs, inR_true.2 (show -60 ≤ X ∧ X ≤ 60 by omega), fs.mx, fs.wt, ← ew, ← e5, w64 (by omega)]
      simp
    have cl := implIsLeftOf_ok s X (by omega)
    rw [hleft] at cl
    have htot : totW [s, m, s] = 3 * w := by
      simp only [totW, List.length_cons, List.length_nil, sumW, sat, List.getD_cons_zero, List.getD_cons_succ, fs.wt, fm.wt, ← ew]
      rw [w64 (n := 0 + w) (by omega), w64 (n := 0 + w + w) (by omega), w64 (by omega)]
      omega
    have ct := implTotalWeight_ok [s, m, s] (by simp) (by simp; omega)
    rw [htot] at ct
    have k1 := gtr_at hw.1
    have k2 := gtr_at l1
    have k3 := lss_at l2
    have k4 := gtr_at l3
    have k5 := lss_at l4
    have k6 : abin .eql .i64 w w = some (.bool true) := eql_at rfl
    have k7 : abin .eql .i64 (z - n) (z - n) = some (.bool true) := eql_at rfl
    have k8 : abin .eql .i64 h h = some (.bool true) := eql_at rfl
    have k9 : abin .eql .i64 (3 * w) (3 * w) = some (.bool true) := eql_at rfl
    have r3 : aar .mul 3 A = some w := by rw [ew]; rfl
    have fsb := fs.bx
    by_cases hd : n < q5
    · rw [decide_eq_true hd] at cl
      have k10 := lss_at hd
      (repeat (first | refine WL_nil ?_ | (apply wl0 (hd := rfl); (first | exact QV_ar rfl rfl hsb (by omega) | exact QV_ar rfl rfl r3 (by omega) | exact QV_bin rfl rfl k1 | exact QV_bin rfl rfl k2 | exact QV_bin rfl rfl k3 | exact QV_bin rfl rfl k4 | exact QV_bin rfl rfl k5 | exact QV_bin rfl rfl k6 | exact QV_bin rfl rfl k7 | exact QV_bin rfl rfl k8 | exact QV_bin rfl rfl k9 | exact QV_bin rfl rfl k10 | exact QV_bin rfl rfl pz | exact QV_bin rfl rfl p1 | exact QV_bin rfl rfl p2 | exact QV_bin rfl rfl p3 | exact QV_bin rfl rfl p4 | exact QV_bin rfl rfl p5 | exact qv0 | exact QV_bne Try.underlying4 rfl rfl | exact QV_beq Try.underlying4 rfl rfl | exact qv1 | exact q_callA (lat_ok l hl) | exact QV_div rfl rfl (by decide) hrm | exact q_callA (cb) | exact q_callA (cw) | exact q_callA (cn) | exact q_callA (ch) | exact q_callA (cA) | exact q_callA (cwm) | exact q_callA (cnm) | exact q_callA (chm) | exact q_callA (cl) | exact q_callA (ct)); (exact gy0)) | (apply wlb (hd := rfl); (first | exact q_box rfl rfl rfl | exact q_alloc); (exact gy0); rfl) | refine wln ⟨_, rfl, rfl⟩ rfl ?_ | (apply wln1 (hd := rfl); exact q_call1A 40 20 (cm); (exact gy0); rfl) | (apply wln1 (hd := rfl); exact q_buildSlice 112 rfl rfl rfl rfl; (exact gy0); rfl) | refine wst rfl rfl rfl List.not_mem_nil rfl rfl rfl rfl rfl rfl ?_ | refine W_seq ?_ | refine W_condT rfl ?_ | refine W_condF rfl ?_ | refine W_region ?_ | refine W_skip ?_ | refine W_ret ?_ | refine W_block ?_ | refine W_exit ?_))
      refine Exists.intro _ ⟨Weak.refl _, Exists.intro _ ⟨resA_tmp rfl rfl, ?_, rfl⟩⟩
      rfl
    · rw [decide_eq_false hd] at cl
      have k10 : abin .lss .i64 n q5 = some (.bool false) := by simp [abin]; omega
      (repeat (first | refine WL_nil ?_ | (apply wl0 (hd := rfl); (first | exact QV_ar rfl rfl hsb (by omega) | exact QV_ar rfl rfl r3 (by omega) | exact QV_bin rfl rfl k1 | exact QV_bin rfl rfl k2 | exact QV_bin rfl rfl k3 | exact QV_bin rfl rfl k4 | exact QV_bin rfl rfl k5 | exact QV_bin rfl rfl k6 | exact QV_bin rfl rfl k7 | exact QV_bin rfl rfl k8 | exact QV_bin rfl rfl k9 | exact QV_bin rfl rfl k10 | exact QV_bin rfl rfl pz | exact QV_bin rfl rfl p1 | exact QV_bin rfl rfl p2 | exact QV_bin rfl rfl p3 | exact QV_bin rfl rfl p4 | exact QV_bin rfl rfl p5 | exact qv0 | exact QV_bne Try.underlying4 rfl rfl | exact QV_beq Try.underlying4 rfl rfl | exact qv1 | exact q_callA (lat_ok l hl) | exact QV_div rfl rfl (by decide) hrm | exact q_callA (cb) | exact q_callA (cw) | exact q_callA (cn) | exact q_callA (ch) | exact q_callA (cA) | exact q_callA (cwm) | exact q_callA (cnm) | exact q_callA (chm) | exact q_callA (cl) | exact q_callA (ct)); (exact gy0)) | (apply wlb (hd := rfl); (first | exact q_box rfl rfl rfl | exact q_alloc); (exact gy0); rfl) | refine wln ⟨_, rfl, rfl⟩ rfl ?_ | (apply wln1 (hd := rfl); exact q_call1A 40 20 (cm); (exact gy0); rfl) | (apply wln1 (hd := rfl); exact q_buildSlice 112 rfl rfl rfl rfl; (exact gy0); rfl) | refine wst rfl rfl rfl List.not_mem_nil rfl rfl rfl rfl rfl rfl ?_ | refine W_seq ?_ | refine W_condT rfl ?_ | refine W_condF rfl ?_ | refine W_region ?_ | refine W_skip ?_ | refine W_ret ?_ | refine W_block ?_ | refine W_exit ?_))
      refine Exists.intro _ ⟨Weak.refl _, Exists.intro _ ⟨resA_tmp rfl rfl, ?_, rfl⟩⟩
      rfl

theorem walk_FnWeights {H : Type} (enc : TypeId × Value → H) (W : World) (base : Nat) (args : Array Value) (ds : List (DataW H)) (p : List MemPlace) (hval : ∀ (j : Nat) (t : TypeId) (v : Value), Try.f3.params[j]? = some t → args[j]? = some v → Value.okWide Try.prog W .any base t v) (hA : DataW.TrodAll enc Try.prog W 0 (fun _ => true) true Try.f3.params.toList args.toList ds p) (hlt : ∀ x ∈ p, x.block < W.heap.size) :
    Calls Try.prog 3 args W fun e w' => e = .returned (.bool true) ∧ Bel W w' := by
  rw [Try.params3] at hA hval
  obtain ⟨v0, vs0, t0, ds0, p0, q0, hargs, rfl, rfl, h0, r0⟩ := trodAll_cons hA
  obtain ⟨rfl, rfl, rfl⟩ := trodAll_nil r0
  obtain rfl : args = #[v0] := by cases args; simp_all
  obtain ⟨c, bc, lc, dc⟩ := open_code (hval 0 22 v0 rfl rfl) h0 (fun x hx => hlt x (by simp [hx]))
  exact law_of_call (law_FnWeights c bc lc) (by simp only [dreps]; exact ⟨_, _, rfl, dc, rfl⟩)

set_option maxRecDepth 100000 in
theorem lifted_FnWeights (os : Os) (started : os.Started) (H : Type) (enc : TypeId × Value → H) :
    ReturnsInHanded {} Try.checked os 3 .any (Rows.fnWeightsSpec.pre6 enc Try.prog Try.f3 Rows.fnWeightsRow.domain false) (Rows.fnWeightsSpec.post enc Try.prog Try.f3 false true false false) :=
  law_lifted (tb := 4) started (by kernel_rfl) Try.func3
    (ChangeSpec.witness6 (enc := enc) (C := Try.checked) false ⟨#[], #[.slice none 0 0], []⟩ 8 (by kernel_rfl) (by kernel_rfl) (by kernel_rfl) (by kernel_rfl))
    rfl Try.underlying4 (by kernel_rfl) rfl (fun ds h => by match ds, h with | [d0], _ => rfl)
    (walk_FnWeights enc)

/-- THE STATEMENT. -/
theorem holds_FnWeights : Rows.FnWeightsSaid :=
  OpenClaim.holds_of_wide 3 Try.f3 rfl rfl rfl rfl rfl rfl rfl ⟨rfl, rfl, rfl, rfl, rfl⟩ rfl rfl rfl rfl rfl (by kernel_rfl) Try.func3 (by kernel_rfl)
    (of_decide_eq_true (by kernel_rfl)) (by unfold Func.isWrapper; first | (rw [if_pos (by decide +kernel)]; kernel_rfl) | (rw [if_neg (by decide +kernel)]; exact ⟨rfl, rfl⟩))
    (fun os started H enc _ => lifted_FnWeights os started H enc)
end Go.Proofs.Ytkadjimnamcjbaa
