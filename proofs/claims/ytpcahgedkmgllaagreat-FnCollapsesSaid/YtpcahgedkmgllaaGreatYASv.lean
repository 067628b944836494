/- The program's determinants, MakeThrust, SolveRows, cornersFrom. -/
import Derived.Test.YtpcahgedkmgllaaGreatYG4
import Derived.Test.YtpcahgedkmgllaaGreatZ8
import Derived.Test.YtpcahgedkmgllaaGreatZ9
set_option maxHeartbeats 4000000
namespace Go.Proofs.YtpcahgedkmgllaaGreat
open Go.Eng
set_option maxRecDepth 100000
attribute [local irreducible] QV TV WL HW W CallOk Weak

instance tyCol : TyOk Tryz.prog 144 true 3 := ⟨fun _ => by kernel_rfl, fun _ => by kernel_rfl⟩
instance zeCol : ZeroOk Tryz.prog 144 (.agg #[.int .i64 0, .int .i64 0, .int .i64 0]) := ⟨fun _ => by kernel_rfl⟩
instance zcCol : ZcOk Tryz.prog 144 [.v (.int .i64 0), .v (.int .i64 0), .v (.int .i64 0)] := ⟨_, zeCol, rfl⟩
instance arCol : ArOk Tryz.prog 144 3 3 1 := ⟨Tryz.underlying144, by kernel_rfl⟩
theorem determinant_ok (a b c : V3) : CallOk Tryz.prog 99 [a.av, b.av, c.av] (fun r => r = vi (det3W a b c)) := by
  refine callOk Tryz.func99 Tryz.ntmps99 Tryz.results99 rfl rfl rfl fun B w0 M I0 V0 => ?_
  (repeat (first | refine WL_nil ?_ | refine zq0 (by first | exact qv9 | exact q_indexAr 0 rfl rfl rfl rfl | exact q_indexAr 1 rfl rfl rfl rfl | exact q_indexAr 2 rfl rfl rfl rfl) ?_ | refine zq1 ?_ | refine zq2 ?_ | refine zq3 ?_ | refine zq4 ?_ | refine zq5 ?_ | refine zq6 ?_ | refine wN rfl ?_))
  refine Exists.intro _ ⟨Weak.refl _, Exists.intro _ ⟨resA_tmp rfl rfl, ?_, rfl⟩⟩
  rfl
abbrev colA (p q r : Rw) : V3 := ⟨p.a, q.a, r.a⟩
abbrev colB (p q r : Rw) : V3 := ⟨p.b, q.b, r.b⟩
abbrev colC (p q r : Rw) : V3 := ⟨p.c, q.c, r.c⟩
abbrev colD (p q r : Rw) : V3 := ⟨p.d, q.d, r.d⟩
theorem columnsOf_ok (p q r : Rw) : CallOk Tryz.prog 97 [p.av, q.av, r.av] (fun x => x = .tup [(colA p q r).av, (colB p q r).av, (colC p q r).av, (colD p q r).av]) := by
  refine callOk Tryz.func97 Tryz.ntmps97 Tryz.results97 rfl rfl rfl fun B w0 M I0 V0 => ?_
  (repeat (first | refine WL_nil ?_ | refine zq0 qv9 ?_ | refine zq1 ?_ | refine zq2 ?_ | refine zq3 ?_ | refine zq4 ?_ | refine zq5 ?_ | refine zq6 ?_ | refine wN rfl ?_))
  refine wdraw4 28 [(5, r.row), (4, q.row), (3, p.row)] [(9, [vi 0, vi 0, vi 0]), (8, [vi 0, vi 0, vi 0]), (7, [vi 0, vi 0, vi 0]), (6, [vi (colA p q r).x, vi (colA p q r).y, vi (colA p q r).z]), (5, r.row), (4, q.row), (3, p.row)] [(9, [vi 0, vi 0, vi 0]), (8, [vi 0, vi 0, vi 0]), (7, [vi (colB p q r).x, vi (colB p q r).y, vi (colB p q r).z]), (6, [vi (colA p q r).x, vi (colA p q r).y, vi (colA p q r).z]), (5, r.row), (4, q.row), (3, p.row)] [(9, [vi 0, vi 0, vi 0]), (8, [vi (colC p q r).x, vi (colC p q r).y, vi (colC p q r).z]), (7, [vi (colB p q r).x, vi (colB p q r).y, vi (colB p q r).z]), (6, [vi (colA p q r).x, vi (colA p q r).y, vi (colA p q r).z]), (5, r.row), (4, q.row), (3, p.row)] [(9, [vi (colD p q r).x, vi (colD p q r).y, vi (colD p q r).z]), (8, [vi (colC p q r).x, vi (colC p q r).y, vi (colC p q r).z]), (7, [vi (colB p q r).x, vi (colB p q r).y, vi (colB p q r).z]), (6, [vi (colA p q r).x, vi (colA p q r).y, vi (colA p q r).z]), (5, r.row), (4, q.row), (3, p.row)] (by kernel_rfl) (by kernel_rfl) (by kernel_rfl) (by kernel_rfl) rfl (by simp) ?_
  (repeat (first | refine HS_nil ?_ | (apply hs0 (hd := rfl); exact qv0; (exact gy0)) | (apply hs0 (hd := rfl); exact q_buildAr rfl; (exact gy0)) | (apply hs0 (hd := rfl); exact QV_bne Tryz.underlying4 rfl rfl; (exact gy0)) | (apply hs0 (hd := rfl); exact QV_beq Tryz.underlying4 rfl rfl; (exact gy0)) | (apply hs0 (hd := rfl); exact qv1; (exact gy0))))
  refine ⟨svst rfl rfl rfl List.not_mem_nil rfl rfl rfl rfl rfl rfl, svst rfl rfl rfl List.not_mem_nil rfl rfl rfl rfl rfl rfl, svst rfl rfl rfl List.not_mem_nil rfl rfl rfl rfl rfl rfl, svst rfl rfl rfl List.not_mem_nil rfl rfl rfl rfl rfl rfl, ?_⟩
  (repeat (first | refine WL_nil ?_ | refine zq0 qv9 ?_ | refine zq1 ?_ | refine zq2 ?_ | refine zq3 ?_ | refine zq4 ?_ | refine zq5 ?_ | refine zq6 ?_ | refine wN rfl ?_))
  refine Exists.intro _ ⟨Weak.refl _, Exists.intro _ ⟨resA_cell rfl rfl rfl (resA_cell rfl rfl rfl (resA_cell rfl rfl rfl (resA_cell rfl rfl rfl rfl))), ?_, rfl⟩⟩
  rfl
theorem implDetOfRows_ok (p q r : Rw) : CallOk Tryz.prog 90 [p.av, q.av, r.av] (fun x => x = vi (det0 p q r)) := by
  have h0 := rowsOk_ok [p, q, r] (by simp)
  have h1 := columnsOf_ok p q r
  have h2 := determinant_ok (colA p q r) (colB p q r) (colC p q r)
  rw [det3W_eq, det3_swap] at h2
  refine callOk Tryz.func90 Tryz.ntmps90 Tryz.results90 rfl rfl rfl fun B w0 M I0 V0 => ?_
  cases e : [p, q, r].all rowB
  · rw [e] at h0
    (repeat (first | refine WL_nil ?_ | refine zq0 (by first | exact qv9 | exact q_callA (h0)) ?_ | refine zq1 ?_ | refine zq2 ?_ | refine zq3 ?_ | (apply wln1 (hd := rfl); exact q_buildSlice 14 rfl rfl rfl rfl; (exact gy0); rfl) | refine zq4 ?_ | refine zq5 ?_ | refine zq6 ?_ | refine wN rfl ?_))
    refine Exists.intro _ ⟨Weak.refl _, Exists.intro _ ⟨resA_tmp rfl rfl, ?_, rfl⟩⟩
    exact vi_eq (by simp only [List.all_cons, List.all_nil, Bool.and_true] at e; simp [det0, e])
  · rw [e] at h0
    (repeat (first | refine WL_nil ?_ | refine zq0 (by first | exact qv9 | exact q_callA (h0) | exact q_callA (h1) | exact q_callA (h2)) ?_ | refine zq1 ?_ | refine zq2 ?_ | refine zq3 ?_ | (apply wln1 (hd := rfl); exact q_buildSlice 14 rfl rfl rfl rfl; (exact gy0); rfl) | refine zq4 ?_ | refine zq5 ?_ | refine zq6 ?_ | refine wN rfl ?_))
    refine Exists.intro _ ⟨Weak.refl _, Exists.intro _ ⟨resA_tmp rfl rfl, ?_, rfl⟩⟩
    simp only [List.all_cons, List.all_nil, Bool.and_true, Bool.and_eq_true] at e
    have hb := detR_bd e.1 e.2.1 e.2.2
    refine vi_eq ?_
    rw [det0, e.1, e.2.1, e.2.2]
    show W64 (detR p q r) = detR p q r
    exact w64 (by omega)

theorem implMakeThrust_no (t : Th) (hfar : farT t = false) : CallOk Tryz.prog 98 [vi t.h, vi t.v, vi t.m, vi t.d] (fun r => r = thO none) := by
  have h1 := within_ok t.h (-4000000000000000000) 4000000000000000000
  have h2 := within_ok t.v (-4000000000000000000) 4000000000000000000
  have h3 := within_ok t.m (-4000000000000000000) 4000000000000000000
  have h4 := within_ok t.d (-4000000000000000000) 4000000000000000000
  refine callOk Tryz.func98 Tryz.ntmps98 Tryz.results98 rfl rfl rfl fun B w0 M I0 V0 => ?_
  cases e1 : inR t.h (-4000000000000000000) 4000000000000000000
  · rw [e1] at h1
    (repeat (first | refine WL_nil ?_ | refine zq0 qv9 ?_ | refine zq1 ?_ | refine zq2 ?_ | refine zq3 ?_ | (apply wln1 (hd := rfl); exact q_buildSlice 18 rfl rfl rfl rfl; (exact gy0); rfl) | refine zq4 ?_ | refine zq5 ?_ | refine zq6 ?_ | refine wN rfl ?_))
    refine W_rounds 5 ?_
    (repeat (first | refine WL_nil ?_ | refine zq0 (by first | exact qv9 | exact QV_indexAddr rfl rfl rfl rfl rfl | exact q_callA (h1)) ?_ | refine zq1 ?_ | refine zq2 ?_ | refine zq3 ?_ | refine zq4 ?_ | refine zq5 ?_ | refine zq6 ?_ | refine wN rfl ?_))
    refine Exists.intro _ ⟨Weak.refl _, Exists.intro _ ⟨resA_cell rfl rfl rfl (resA_tmp rfl rfl), ?_, rfl⟩⟩
    rfl
  · rw [e1] at h1
    cases e2 : inR t.v (-4000000000000000000) 4000000000000000000
    · rw [e2] at h2
      (repeat (first | refine WL_nil ?_ | refine zq0 qv9 ?_ | refine zq1 ?_ | refine zq2 ?_ | refine zq3 ?_ | (apply wln1 (hd := rfl); exact q_buildSlice 18 rfl rfl rfl rfl; (exact gy0); rfl) | refine zq4 ?_ | refine zq5 ?_ | refine zq6 ?_ | refine wN rfl ?_))
      refine W_rounds 5 ?_
      (repeat (first | refine WL_nil ?_ | refine zq0 (by first | exact qv9 | exact QV_indexAddr rfl rfl rfl rfl rfl | exact q_callA (h1) | exact q_callA (h2)) ?_ | refine zq1 ?_ | refine zq2 ?_ | refine zq3 ?_ | refine zq4 ?_ | refine zq5 ?_ | refine zq6 ?_ | refine wN rfl ?_))
      refine Exists.intro _ ⟨Weak.refl _, Exists.intro _ ⟨resA_cell rfl rfl rfl (resA_tmp rfl rfl), ?_, rfl⟩⟩
      rfl
    · rw [e2] at h2
      cases e3 : inR t.m (-4000000000000000000) 4000000000000000000
      · rw [e3] at h3
        (repeat (first | refine WL_nil ?_ | refine zq0 qv9 ?_ | refine zq1 ?_ | refine zq2 ?_ | refine zq3 ?_ | (apply wln1 (hd := rfl); exact q_buildSlice 18 rfl rfl rfl rfl; (exact gy0); rfl) | refine zq4 ?_ | refine zq5 ?_ | refine zq6 ?_ | refine wN rfl ?_))
        refine W_rounds 5 ?_
        (repeat (first | refine WL_nil ?_ | refine zq0 (by first | exact qv9 | exact QV_indexAddr rfl rfl rfl rfl rfl | exact q_callA (h1) | exact q_callA (h2) | exact q_callA (h3)) ?_ | refine zq1 ?_ | refine zq2 ?_ | refine zq3 ?_ | refine zq4 ?_ | refine zq5 ?_ | refine zq6 ?_ | refine wN rfl ?_))
        refine Exists.intro _ ⟨Weak.refl _, Exists.intro _ ⟨resA_cell rfl rfl rfl (resA_tmp rfl rfl), ?_, rfl⟩⟩
        rfl
      · rw [e3] at h3
        cases e4 : inR t.d (-4000000000000000000) 4000000000000000000
        · rw [e4] at h4
          (repeat (first | refine WL_nil ?_ | refine zq0 qv9 ?_ | refine zq1 ?_ | refine zq2 ?_ | refine zq3 ?_ | (apply wln1 (hd := rfl); exact q_buildSlice 18 rfl rfl rfl rfl; (exact gy0); rfl) | refine zq4 ?_ | refine zq5 ?_ | refine zq6 ?_ | refine wN rfl ?_))
          refine W_rounds 5 ?_
          (repeat (first | refine WL_nil ?_ | refine zq0 (by first | exact qv9 | exact QV_indexAddr rfl rfl rfl rfl rfl | exact q_callA (h1) | exact q_callA (h2) | exact q_callA (h3) | exact q_callA (h4)) ?_ | refine zq1 ?_ | refine zq2 ?_ | refine zq3 ?_ | refine zq4 ?_ | refine zq5 ?_ | refine zq6 ?_ | refine wN rfl ?_))
          refine Exists.intro _ ⟨Weak.refl _, Exists.intro _ ⟨resA_cell rfl rfl rfl (resA_tmp rfl rfl), ?_, rfl⟩⟩
          rfl
        · rw [e4] at h4
          have z : t.d = 0 := by
            simp [farT, farB, e1, e2, e3, e4] at hfar
            exact hfar
          have c0 : abin .eql .i64 t.d 0 = some (.bool true) := by simp [abin, z]
          (repeat (first | refine WL_nil ?_ | refine zq0 qv9 ?_ | refine zq1 ?_ | refine zq2 ?_ | refine zq3 ?_ | (apply wln1 (hd := rfl); exact q_buildSlice 18 rfl rfl rfl rfl; (exact gy0); rfl) | refine zq4 ?_ | refine zq5 ?_ | refine zq6 ?_ | refine wN rfl ?_))
          refine W_rounds 5 ?_
          (repeat (first | refine WL_nil ?_ | refine zq0 (by first | exact QV_bin rfl rfl c0 | exact qv9 | exact QV_indexAddr rfl rfl rfl rfl rfl | exact q_callA (h1) | exact q_callA (h2) | exact q_callA (h3) | exact q_callA (h4)) ?_ | refine zq1 ?_ | refine zq2 ?_ | refine zq3 ?_ | refine zq4 ?_ | refine zq5 ?_ | refine zq6 ?_ | refine wN rfl ?_))
          refine Exists.intro _ ⟨Weak.refl _, Exists.intro _ ⟨resA_cell rfl rfl rfl (resA_tmp rfl rfl), ?_, rfl⟩⟩
          rfl
theorem gcdL4 (t : Th) : gcdL [t.h, t.v, t.m, t.d] = gcd4 t := by
  simp only [gcdL, gcd4, List.foldl_cons, List.foldl_nil, Nat.gcd_zero_left, Nat.gcd_assoc]

theorem implMakeThrust_negY (t : Th) (hfar : farT t = true) (hn : t.d < 0) (e5 : thOk (mkD t) = true) : CallOk Tryz.prog 98 [vi t.h, vi t.v, vi t.m, vi t.d] (fun r => r = thO (some (mkD t))) := by
  obtain ⟨z, b1, b2, b3, b4⟩ := farT_true hfar
  have h1 := within_ok t.h (-4000000000000000000) 4000000000000000000
  have h2 := within_ok t.v (-4000000000000000000) 4000000000000000000
  have h3 := within_ok t.m (-4000000000000000000) 4000000000000000000
  have h4 := within_ok t.d (-4000000000000000000) 4000000000000000000
  rw [inR_true.2 b1] at h1
  rw [inR_true.2 b2] at h2
  rw [inR_true.2 b3] at h3
  rw [inR_true.2 b4] at h4
  have c0 : abin .eql .i64 t.d 0 = some (.bool false) := by simp [abin, z]
  have g1 := commonDivisor_ok [t.h, t.v, t.m, t.d] (by simp) (by simp; omega)
  rw [gcdL4] at g1
  have hp := gcd4_pos z
  have hle : gcd4 t ≤ 4000000000000000000 := gcd4_le (by omega) (by omega) (by omega) (by omega)
  have ht := implThrustOk_ok (mkD t)
  have c1 : abin .lss .i64 t.d 0 = some (.bool true) := by simp [abin]; omega
  have hG : mkG t = -(gcd4 t : Int) := by simp [mkG, hn]
  have hg0 : -(gcd4 t : Int) ≠ 0 := by omega
  have q1 := quo64 (g := -(gcd4 t : Int)) b1
  have q2 := quo64 (g := -(gcd4 t : Int)) b2
  have q3 := quo64 (g := -(gcd4 t : Int)) b3
  have q4 := quo64 (g := -(gcd4 t : Int)) b4
  have hD : mkD t = ⟨t.h.tdiv (-(gcd4 t : Int)), t.v.tdiv (-(gcd4 t : Int)), t.m.tdiv (-(gcd4 t : Int)), t.d.tdiv (-(gcd4 t : Int))⟩ := by simp only [mkD, hG]
  rw [e5, hD] at ht
  refine callOk Tryz.func98 Tryz.ntmps98 Tryz.results98 rfl rfl rfl fun B w0 M I0 V0 => ?_
  (repeat (first | refine WL_nil ?_ | refine zq0 qv9 ?_ | refine zq1 ?_ | refine zq2 ?_ | refine zq3 ?_ | (apply wln1 (hd := rfl); exact q_buildSlice 18 rfl rfl rfl rfl; (exact gy0); rfl) | refine zq4 ?_ | refine zq5 ?_ | refine zq6 ?_ | refine wN rfl ?_))
  refine W_rounds 5 ?_
  (repeat (first | refine WL_nil ?_ | refine zq0 (by first | exact QV_bin rfl rfl c0 | exact QV_bin rfl rfl c1 | exact qv9 | exact QV_indexAddr rfl rfl rfl rfl rfl | exact q_callA (h1) | exact q_callA (h2) | exact q_callA (h3) | exact q_callA (h4) | exact q_callA (g1)) ?_ | refine zq1 ?_ | refine zq2 ?_ | refine zq3 ?_ | (apply wln1 (hd := rfl); exact q_buildSlice 36 rfl rfl rfl rfl; (exact gy0); rfl) | refine zq4 ?_ | refine zq5 ?_ | refine zq6 ?_ | refine wN rfl ?_))
  refine wdraw 14 (by kernel_rfl) (by kernel_rfl) (by kernel_rfl) rfl ?_
  (repeat (first | refine HW_nil ?_ | (apply hw0 (hd := rfl); (first | exact qv9 | exact QV_div rfl rfl hg0 q1 | exact QV_div rfl rfl hg0 q2 | exact QV_div rfl rfl hg0 q3 | exact QV_div rfl rfl hg0 q4); (exact gy0)) | (apply hwb (hd := rfl); exact qbx; (exact gy0); rfl) | refine zq7 ?_ | refine zq8 ?_))
  (repeat (first | refine WL_nil ?_ | refine zq0 (by first | exact qv9 | exact q_callA (ht)) ?_ | refine zq1 ?_ | refine zq2 ?_ | refine zq3 ?_ | refine zq4 ?_ | refine zq5 ?_ | refine zq6 ?_ | refine wN rfl ?_))
  refine Exists.intro _ ⟨Weak.refl _, Exists.intro _ ⟨resA_cell rfl rfl rfl (resA_tmp rfl rfl), ?_, rfl⟩⟩
  rw [hD]
  rfl

theorem implMakeThrust_negN (t : Th) (hfar : farT t = true) (hn : t.d < 0) (e5 : thOk (mkD t) = false) : CallOk Tryz.prog 98 [vi t.h, vi t.v, vi t.m, vi t.d] (fun r => r = thO (none)) := by
  obtain ⟨z, b1, b2, b3, b4⟩ := farT_true hfar
  have h1 := within_ok t.h (-4000000000000000000) 4000000000000000000
  have h2 := within_ok t.v (-4000000000000000000) 4000000000000000000
  have h3 := within_ok t.m (-4000000000000000000) 4000000000000000000
  have h4 := within_ok t.d (-4000000000000000000) 4000000000000000000
  rw [inR_true.2 b1] at h1
  rw [inR_true.2 b2] at h2
  rw [inR_true.2 b3] at h3
  rw [inR_true.2 b4] at h4
  have c0 : abin .eql .i64 t.d 0 = some (.bool false) := by simp [abin, z]
  have g1 := commonDivisor_ok [t.h, t.v, t.m, t.d] (by simp) (by simp; omega)
  rw [gcdL4] at g1
  have hp := gcd4_pos z
  have hle : gcd4 t ≤ 4000000000000000000 := gcd4_le (by omega) (by omega) (by omega) (by omega)
  have ht := implThrustOk_ok (mkD t)
  have c1 : abin .lss .i64 t.d 0 = some (.bool true) := by simp [abin]; omega
  have hG : mkG t = -(gcd4 t : Int) := by simp [mkG, hn]
  have hg0 : -(gcd4 t : Int) ≠ 0 := by omega
  have q1 := quo64 (g := -(gcd4 t : Int)) b1
  have q2 := quo64 (g := -(gcd4 t : Int)) b2
  have q3 := quo64 (g := -(gcd4 t : Int)) b3
  have q4 := quo64 (g := -(gcd4 t : Int)) b4
  have hD : mkD t = ⟨t.h.tdiv (-(gcd4 t : Int)), t.v.tdiv (-(gcd4 t : Int)), t.m.tdiv (-(gcd4 t : Int)), t.d.tdiv (-(gcd4 t : Int))⟩ := by simp only [mkD, hG]
  rw [e5, hD] at ht
  refine callOk Tryz.func98 Tryz.ntmps98 Tryz.results98 rfl rfl rfl fun B w0 M I0 V0 => ?_
  (repeat (first | refine WL_nil ?_ | refine zq0 qv9 ?_ | refine zq1 ?_ | refine zq2 ?_ | refine zq3 ?_ | (apply wln1 (hd := rfl); exact q_buildSlice 18 rfl rfl rfl rfl; (exact gy0); rfl) | refine zq4 ?_ | refine zq5 ?_ | refine zq6 ?_ | refine wN rfl ?_))
  refine W_rounds 5 ?_
  (repeat (first | refine WL_nil ?_ | refine zq0 (by first | exact QV_bin rfl rfl c0 | exact QV_bin rfl rfl c1 | exact qv9 | exact QV_indexAddr rfl rfl rfl rfl rfl | exact q_callA (h1) | exact q_callA (h2) | exact q_callA (h3) | exact q_callA (h4) | exact q_callA (g1)) ?_ | refine zq1 ?_ | refine zq2 ?_ | refine zq3 ?_ | (apply wln1 (hd := rfl); exact q_buildSlice 36 rfl rfl rfl rfl; (exact gy0); rfl) | refine zq4 ?_ | refine zq5 ?_ | refine zq6 ?_ | refine wN rfl ?_))
  refine wdraw 14 (by kernel_rfl) (by kernel_rfl) (by kernel_rfl) rfl ?_
  (repeat (first | refine HW_nil ?_ | (apply hw0 (hd := rfl); (first | exact qv9 | exact QV_div rfl rfl hg0 q1 | exact QV_div rfl rfl hg0 q2 | exact QV_div rfl rfl hg0 q3 | exact QV_div rfl rfl hg0 q4); (exact gy0)) | (apply hwb (hd := rfl); exact qbx; (exact gy0); rfl) | refine zq7 ?_ | refine zq8 ?_))
  (repeat (first | refine WL_nil ?_ | refine zq0 (by first | exact qv9 | exact q_callA (ht)) ?_ | refine zq1 ?_ | refine zq2 ?_ | refine zq3 ?_ | refine zq4 ?_ | refine zq5 ?_ | refine zq6 ?_ | refine wN rfl ?_))
  refine Exists.intro _ ⟨Weak.refl _, Exists.intro _ ⟨resA_cell rfl rfl rfl (resA_tmp rfl rfl), ?_, rfl⟩⟩
  
  rfl

theorem implMakeThrust_posY (t : Th) (hfar : farT t = true) (hn : ¬ t.d < 0) (e5 : thOk (mkD t) = true) : CallOk Tryz.prog 98 [vi t.h, vi t.v, vi t.m, vi t.d] (fun r => r = thO (some (mkD t))) := by
  obtain ⟨z, b1, b2, b3, b4⟩ := farT_true hfar
  have h1 := within_ok t.h (-4000000000000000000) 4000000000000000000
  have h2 := within_ok t.v (-4000000000000000000) 4000000000000000000
  have h3 := within_ok t.m (-4000000000000000000) 4000000000000000000
  have h4 := within_ok t.d (-4000000000000000000) 4000000000000000000
  rw [inR_true.2 b1] at h1
  rw [inR_true.2 b2] at h2
  rw [inR_true.2 b3] at h3
  rw [inR_true.2 b4] at h4
  have c0 : abin .eql .i64 t.d 0 = some (.bool false) := by simp [abin, z]
  have g1 := commonDivisor_ok [t.h, t.v, t.m, t.d] (by simp) (by simp; omega)
  rw [gcdL4] at g1
  have hp := gcd4_pos z
  have hle : gcd4 t ≤ 4000000000000000000 := gcd4_le (by omega) (by omega) (by omega) (by omega)
  have ht := implThrustOk_ok (mkD t)
  have c1 : abin .lss .i64 t.d 0 = some (.bool false) := by simp [abin]; omega
  have hG : mkG t = (gcd4 t : Int) := by simp [mkG, hn]
  have hg0 : (gcd4 t : Int) ≠ 0 := by omega
  have q1 := quo64 (g := (gcd4 t : Int)) b1
  have q2 := quo64 (g := (gcd4 t : Int)) b2
  have q3 := quo64 (g := (gcd4 t : Int)) b3
  have q4 := quo64 (g := (gcd4 t : Int)) b4
  have hD : mkD t = ⟨t.h.tdiv ((gcd4 t : Int)), t.v.tdiv ((gcd4 t : Int)), t.m.tdiv ((gcd4 t : Int)), t.d.tdiv ((gcd4 t : Int))⟩ := by simp only [mkD, hG]
  rw [e5, hD] at ht
  refine callOk Tryz.func98 Tryz.ntmps98 Tryz.results98 rfl rfl rfl fun B w0 M I0 V0 => ?_
  (repeat (first | refine WL_nil ?_ | refine zq0 qv9 ?_ | refine zq1 ?_ | refine zq2 ?_ | refine zq3 ?_ | (apply wln1 (hd := rfl); exact q_buildSlice 18 rfl rfl rfl rfl; (exact gy0); rfl) | refine zq4 ?_ | refine zq5 ?_ | refine zq6 ?_ | refine wN rfl ?_))
  refine W_rounds 5 ?_
  (repeat (first | refine WL_nil ?_ | refine zq0 (by first | exact QV_bin rfl rfl c0 | exact QV_bin rfl rfl c1 | exact qv9 | exact QV_indexAddr rfl rfl rfl rfl rfl | exact q_callA (h1) | exact q_callA (h2) | exact q_callA (h3) | exact q_callA (h4) | exact q_callA (g1)) ?_ | refine zq1 ?_ | refine zq2 ?_ | refine zq3 ?_ | (apply wln1 (hd := rfl); exact q_buildSlice 36 rfl rfl rfl rfl; (exact gy0); rfl) | refine zq4 ?_ | refine zq5 ?_ | refine zq6 ?_ | refine wN rfl ?_))
  refine wdraw 14 (by kernel_rfl) (by kernel_rfl) (by kernel_rfl) rfl ?_
  (repeat (first | refine HW_nil ?_ | (apply hw0 (hd := rfl); (first | exact qv9 | exact QV_div rfl rfl hg0 q1 | exact QV_div rfl rfl hg0 q2 | exact QV_div rfl rfl hg0 q3 | exact QV_div rfl rfl hg0 q4); (exact gy0)) | (apply hwb (hd := rfl); exact qbx; (exact gy0); rfl) | refine zq7 ?_ | refine zq8 ?_))
  (repeat (first | refine WL_nil ?_ | refine zq0 (by first | exact qv9 | exact q_callA (ht)) ?_ | refine zq1 ?_ | refine zq2 ?_ | refine zq3 ?_ | refine zq4 ?_ | refine zq5 ?_ | refine zq6 ?_ | refine wN rfl ?_))
  refine Exists.intro _ ⟨Weak.refl _, Exists.intro _ ⟨resA_cell rfl rfl rfl (resA_tmp rfl rfl), ?_, rfl⟩⟩
  rw [hD]
  rfl

theorem implMakeThrust_posN (t : Th) (hfar : farT t = true) (hn : ¬ t.d < 0) (e5 : thOk (mkD t) = false) : CallOk Tryz.prog 98 [vi t.h, vi t.v, vi t.m, vi t.d] (fun r => r = thO (none)) := by
  obtain ⟨z, b1, b2, b3, b4⟩ := farT_true hfar
  have h1 := within_ok t.h (-4000000000000000000) 4000000000000000000
  have h2 := within_ok t.v (-4000000000000000000) 4000000000000000000
  have h3 := within_ok t.m (-4000000000000000000) 4000000000000000000
  have h4 := within_ok t.d (-4000000000000000000) 4000000000000000000
  rw [inR_true.2 b1] at h1
  rw [inR_true.2 b2] at h2
  rw [inR_true.2 b3] at h3
  rw [inR_true.2 b4] at h4
  have c0 : abin .eql .i64 t.d 0 = some (.bool false) := by simp [abin, z]
  have g1 := commonDivisor_ok [t.h, t.v, t.m, t.d] (by simp) (by simp; omega)
  rw [gcdL4] at g1
  have hp := gcd4_pos z
  have hle : gcd4 t ≤ 4000000000000000000 := gcd4_le (by omega) (by omega) (by omega) (by omega)
  have ht := implThrustOk_ok (mkD t)
  have c1 : abin .lss .i64 t.d 0 = some (.bool false) := by simp [abin]; omega
  have hG : mkG t = (gcd4 t : Int) := by simp [mkG, hn]
  have hg0 : (gcd4 t : Int) ≠ 0 := by omega
  have q1 := quo64 (g := (gcd4 t : Int)) b1
  have q2 := quo64 (g := (gcd4 t : Int)) b2
  have q3 := quo64 (g := (gcd4 t : Int)) b3
  have q4 := quo64 (g := (gcd4 t : Int)) b4
  have hD : mkD t = ⟨t.h.tdiv ((gcd4 t : Int)), t.v.tdiv ((gcd4 t : Int)), t.m.tdiv ((gcd4 t : Int)), t.d.tdiv ((gcd4 t : Int))⟩ := by simp only [mkD, hG]
  rw [e5, hD] at ht
  refine callOk Tryz.func98 Tryz.ntmps98 Tryz.results98 rfl rfl rfl fun B w0 M I0 V0 => ?_
  (repeat (first | refine WL_nil ?_ | refine zq0 qv9 ?_ | refine zq1 ?_ | refine zq2 ?_ | refine zq3 ?_ | (apply wln1 (hd := rfl); exact q_buildSlice 18 rfl rfl rfl rfl; (exact gy0); rfl) | refine zq4 ?_ | refine zq5 ?_ | refine zq6 ?_ | refine wN rfl ?_))
  refine W_rounds 5 ?_
  (repeat (first | refine WL_nil ?_ | refine zq0 (by first | exact QV_bin rfl rfl c0 | exact QV_bin rfl rfl c1 | exact qv9 | exact QV_indexAddr rfl rfl rfl rfl rfl | exact q_callA (h1) | exact q_callA (h2) | exact q_callA (h3) | exact q_callA (h4) | exact q_callA (g1)) ?_ | refine zq1 ?_ | refine zq2 ?_ | refine zq3 ?_ | (apply wln1 (hd := rfl); exact q_buildSlice 36 rfl rfl rfl rfl; (exact gy0); rfl) | refine zq4 ?_ | refine zq5 ?_ | refine zq6 ?_ | refine wN rfl ?_))
  refine wdraw 14 (by kernel_rfl) (by kernel_rfl) (by kernel_rfl) rfl ?_
  (repeat (first | refine HW_nil ?_ | (apply hw0 (hd := rfl); (first | exact qv9 | exact QV_div rfl rfl hg0 q1 | exact QV_div rfl rfl hg0 q2 | exact QV_div rfl rfl hg0 q3 | exact QV_div rfl rfl hg0 q4); (exact gy0)) | (apply hwb (hd := rfl); exact qbx; (exact gy0); rfl) | refine zq7 ?_ | refine zq8 ?_))
  (repeat (first | refine WL_nil ?_ | refine zq0 (by first | exact qv9 | exact q_callA (ht)) ?_ | refine zq1 ?_ | refine zq2 ?_ | refine zq3 ?_ | refine zq4 ?_ | refine zq5 ?_ | refine zq6 ?_ | refine wN rfl ?_))
  refine Exists.intro _ ⟨Weak.refl _, Exists.intro _ ⟨resA_cell rfl rfl rfl (resA_tmp rfl rfl), ?_, rfl⟩⟩
  
  rfl
theorem thEq_comm (t u : Th) : thEq t u = thEq u t := by
  rw [Bool.eq_iff_iff, thEq_iff, thEq_iff]
  exact eq_comm
def idxT (l : List Th) (t : Th) : Int := bif hasT l t then ((l.findIdx fun u => thEq u t : Nat) : Int) else -1
theorem idxT_no {l : List Th} {t : Th} (h : hasT l t = false) : idxT l t = -1 := by simp [idxT, h]
theorem idxT_at {l : List Th} {t : Th} {k : Nat} (hk : k < l.length) (hall : hasT (l.take k) t = false) (h1 : thEq (tat l k) t = true) : idxT l t = (k : Int) := by
  have hp := tat_lt hk
  have hh : hasT l t = true := hasT_at hp h1
  simp only [idxT, hh, cond_true]
  congr 1
  rw [List.findIdx_eq hk]
  have e : l[k] = tat l k := by
    have := List.getElem?_eq_getElem hk
    rw [hp] at this
    exact (Option.some.inj this).symm
  refine ⟨by rw [e]; exact h1, fun j hj => ?_⟩
  unfold hasT at hall
  rw [List.any_eq_false] at hall
  have := hall l[j] (by rw [List.mem_take_iff_getElem]; exact ⟨j, by omega, rfl⟩)
  simpa using this

theorem implMakeThrust_ok (t : Th) : CallOk Tryz.prog 98 [vi t.h, vi t.v, vi t.m, vi t.d] (fun r => r = thO (mkT t)) := by
  cases h : farT t
  · rw [mkT_far h]
    exact implMakeThrust_no t h
  · cases e5 : thOk (mkD t)
    · rw [show mkT t = none by simp [mkT, e5]]
      by_cases hn : t.d < 0
      · exact implMakeThrust_negN t h hn e5
      · exact implMakeThrust_posN t h hn e5
    · rw [show mkT t = some (mkD t) by simp [mkT, e5, h]]
      by_cases hn : t.d < 0
      · exact implMakeThrust_negY t h hn e5
      · exact implMakeThrust_posY t h hn e5
theorem colDBC (p q r : Rw) : det3 (colD p q r) (colB p q r) (colC p q r) = detH p q r := by rw [det3_swap]; rfl
theorem colADC (p q r : Rw) : det3 (colA p q r) (colD p q r) (colC p q r) = detV p q r := by rw [det3_swap]; rfl
theorem colABD (p q r : Rw) : det3 (colA p q r) (colB p q r) (colD p q r) = detM p q r := by rw [det3_swap]; rfl
theorem implSolveRows_ok (p q r : Rw) : CallOk Tryz.prog 77 [p.av, q.av, r.av] (fun x => x = thO (slv p q r)) := by
  have hd := implDetOfRows_ok p q r
  have hc := columnsOf_ok p q r
  refine callOk Tryz.func77 Tryz.ntmps77 Tryz.results77 rfl rfl rfl fun B w0 M I0 V0 => ?_
  by_cases z : det0 p q r = 0
  · have c0 : abin .eql .i64 (det0 p q r) 0 = some (.bool true) := by simp [abin, z]
    (repeat (first | refine WL_nil ?_ | refine zq0 (by first | exact QV_bin rfl rfl c0 | exact qv9 | exact q_callA (hd)) ?_ | refine zq1 ?_ | refine zq2 ?_ | refine zq3 ?_ | refine zq4 ?_ | refine zq5 ?_ | refine zq6 ?_ | refine wN rfl ?_))
    refine Exists.intro _ ⟨Weak.refl _, Exists.intro _ ⟨resA_cell rfl rfl rfl (resA_tmp rfl rfl), ?_, rfl⟩⟩
    rw [show slv p q r = none by simp [slv, z]]
    rfl
  · have c0 : abin .eql .i64 (det0 p q r) 0 = some (.bool false) := by simp [abin, z]
    obtain ⟨e1, e2, e3, e4⟩ := det0_no z
    have b1 := detR_bd e1 e2 e3
    have b2 := detH_bd e1 e2 e3
    have b3 := detV_bd e1 e2 e3
    have b4 := detM_bd e1 e2 e3
    have d1 := determinant_ok (colD p q r) (colB p q r) (colC p q r)
    have d2 := determinant_ok (colA p q r) (colD p q r) (colC p q r)
    have d3 := determinant_ok (colA p q r) (colB p q r) (colD p q r)
    rw [det3W_eq, colDBC, w64 (by omega)] at d1
    rw [det3W_eq, colADC, w64 (by omega)] at d2
    rw [det3W_eq, colABD, w64 (by omega)] at d3
    have hm := implMakeThrust_ok ⟨detH p q r, detV p q r, detM p q r, detR p q r⟩
    have hs : slv p q r = mkT ⟨detH p q r, detV p q r, detM p q r, detR p q r⟩ := by simp [slv, z]
    rw [← hs] at hm
    rw [e4] at hd c0
    (repeat (first | refine WL_nil ?_ | refine zq0 (by first | exact QV_bin rfl rfl c0 | exact qv9 | exact q_callA (hd) | exact q_callA (hc)) ?_ | refine zq1 ?_ | refine zq2 ?_ | refine zq3 ?_ | refine zq4 ?_ | refine zq5 ?_ | refine zq6 ?_ | refine wN rfl ?_))
    refine wdraw 16 (by kernel_rfl) (by kernel_rfl) (by kernel_rfl) rfl ?_
    (repeat (first | refine HW_nil ?_ | (apply hw0 (hd := rfl); (first | exact qv9 | exact q_callA (d1) | exact q_callA (d2) | exact q_callA (d3) | exact q_callA (hm)); (exact gy0)) | (apply hwb (hd := rfl); exact qbx; (exact gy0); rfl) | refine zq7 ?_ | refine zq8 ?_))
    (repeat (first | refine WL_nil ?_ | refine zq0 qv9 ?_ | refine zq1 ?_ | refine zq2 ?_ | refine zq3 ?_ | refine zq4 ?_ | refine zq5 ?_ | refine zq6 ?_ | refine wN rfl ?_))
    refine Exists.intro _ ⟨Weak.refl _, Exists.intro _ ⟨resA_cell rfl rfl rfl (resA_tmp rfl rfl), ?_, rfl⟩⟩
    rfl
theorem implIndex_ok (l : List Th) (t : Th) (hn : l.length ≤ 1048576) : CallOk Tryz.prog 84 [slTh l, t.av] (fun x => x = vi (idxT l t)) := by
  refine callOk Tryz.func84 Tryz.ntmps84 Tryz.results84 rfl rfl rfl fun B w0 M I0 V0 => ?_
  (repeat (first | refine WL_nil ?_ | refine zq0 qv9 ?_ | refine zq1 ?_ | refine zq2 ?_ | refine zq3 ?_ | refine zq4 ?_ | refine zq5 ?_ | refine zq6 ?_ | refine wN rfl ?_))
  refine W_loop (fun n s => ∃ k : Nat, k ≤ l.length ∧ n = l.length - k ∧ hasT (l.take k) t = false ∧ s = ⟨[(0, slTh l), (3, .ptr 3 0), (7, vi l.length), (8, vi k)], [(3, t.row)], []⟩) ⟨_, _, ⟨0, by omega, rfl, rfl, rfl⟩, wkA⟩ ?_
  rintro n s ⟨k, hk, rfl, hall, rfl⟩
  by_cases hlt : k < l.length
  · have hp := tat_lt hlt
    have hq := th_eqv t (tat l k)
    (repeat (first | refine WL_nil ?_ | refine zq0 qv9 ?_ | refine zq1 ?_ | refine zq2 ?_ | refine zq3 ?_ | refine zq4 ?_ | refine zq5 ?_ | refine zq6 ?_ | refine wN rfl ?_))
    (refine W_cond rfl (fun hc => ?_) (fun hc => ?_))
    · cases e1 : thEq t (tat l k)
      · rw [e1] at hq
        (repeat (first | refine WL_nil ?_ | refine zq0 qv9 ?_ | refine zq1 ?_ | refine zq2 ?_ | refine zq3 ?_ | refine zq4 ?_ | refine zq5 ?_ | refine zq6 ?_ | refine wN rfl ?_))
        refine wdraw 6 (by kernel_rfl) (by kernel_rfl) (by kernel_rfl) rfl ?_
        (repeat (first | refine HW_nil ?_ | (apply hw0 (hd := rfl); (first | exact QV_eqA rfl rfl hq | exact qv9 | exact QV_indexAddr rfl rfl rfl rfl (row_at hp)); (exact gy0)) | (apply hwb (hd := rfl); exact qbx; (exact gy0); rfl) | refine zq7 ?_ | refine zq8 ?_))
        (repeat (first | refine WL_nil ?_ | refine zq0 qv9 ?_ | refine zq1 ?_ | refine zq2 ?_ | refine zq3 ?_ | refine zq4 ?_ | refine zq5 ?_ | refine zq6 ?_ | refine wN rfl ?_))
        refine Exists.intro _ (Exists.intro _ ⟨?_, ⟨k + 1, by omega, rfl, by rw [hasT_take hp, hall, thEq_comm, e1]; rfl, rfl⟩, wkA⟩)
        omega
      · rw [e1] at hq
        (repeat (first | refine WL_nil ?_ | refine zq0 qv9 ?_ | refine zq1 ?_ | refine zq2 ?_ | refine zq3 ?_ | refine zq4 ?_ | refine zq5 ?_ | refine zq6 ?_ | refine wN rfl ?_))
        refine wdraw 6 (by kernel_rfl) (by kernel_rfl) (by kernel_rfl) rfl ?_
        (repeat (first | refine HW_nil ?_ | (apply hw0 (hd := rfl); (first | exact QV_eqA rfl rfl hq | exact qv9 | exact QV_indexAddr rfl rfl rfl rfl (row_at hp)); (exact gy0)) | (apply hwb (hd := rfl); exact qbx; (exact gy0); rfl) | refine zq7 ?_ | refine zq8 ?_))
        (repeat (first | refine WL_nil ?_ | refine zq0 qv9 ?_ | refine zq1 ?_ | refine zq2 ?_ | refine zq3 ?_ | refine zq4 ?_ | refine zq5 ?_ | refine zq6 ?_ | refine wN rfl ?_))
        refine Exists.intro _ ⟨Weak.refl _, Exists.intro _ ⟨resA_tmp rfl rfl, ?_, rfl⟩⟩
        exact vi_eq (idxT_at hlt hall (by rw [thEq_comm]; exact e1)).symm
    · simp at hc; omega
  · (repeat (first | refine WL_nil ?_ | refine zq0 qv9 ?_ | refine zq1 ?_ | refine zq2 ?_ | refine zq3 ?_ | refine zq4 ?_ | refine zq5 ?_ | refine zq6 ?_ | refine wN rfl ?_))
    (refine W_cond rfl (fun hc => ?_) (fun hc => ?_))
    · simp at hc; omega
    · have hk' : k = l.length := by omega
      subst hk'
      rw [List.take_length] at hall
      (repeat (first | refine WL_nil ?_ | refine zq0 qv9 ?_ | refine zq1 ?_ | refine zq2 ?_ | refine zq3 ?_ | refine zq4 ?_ | refine zq5 ?_ | refine zq6 ?_ | refine wN rfl ?_))
      refine Exists.intro _ ⟨Weak.refl _, Exists.intro _ ⟨resA_tmp rfl rfl, ?_, rfl⟩⟩
      exact vi_eq (idxT_no hall).symm
theorem implContains_ok (l : List Th) (t : Th) (hn : l.length ≤ 1048576) : CallOk Tryz.prog 53 [slTh l, t.av] (fun x => x = vb (hasT l t)) := by
  have hi := implIndex_ok l t hn
  have c0 : abin .geq .i64 (idxT l t) 0 = some (.bool (hasT l t)) := by
    cases e : hasT l t <;> simp [abin, idxT, e]
  refine callOk Tryz.func53 Tryz.ntmps53 Tryz.results53 rfl rfl rfl fun B w0 M I0 V0 => ?_
  (repeat (first | refine WL_nil ?_ | refine zq0 (by first | exact QV_bin rfl rfl c0 | exact qv9 | exact q_callA (hi)) ?_ | refine zq1 ?_ | refine zq2 ?_ | refine zq3 ?_ | refine zq4 ?_ | refine zq5 ?_ | refine zq6 ?_ | refine wN rfl ?_))
  refine Exists.intro _ ⟨Weak.refl _, Exists.intro _ ⟨resA_tmp rfl rfl, ?_, rfl⟩⟩
  rfl
end Go.Proofs.YtpcahgedkmgllaaGreat
