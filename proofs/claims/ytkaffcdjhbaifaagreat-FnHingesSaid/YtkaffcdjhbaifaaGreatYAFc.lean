/- The program's determinants; FactorsOf, both ways. -/
import Derived.Test.YtkaffcdjhbaifaaGreatYG4
import Derived.Test.YtkaffcdjhbaifaaGreatYG3
import Derived.Test.YtkaffcdjhbaifaaGreatZ10
import Derived.Test.YtkaffcdjhbaifaaGreatZ13
namespace Go.Proofs.YtkaffcdjhbaifaaGreat
open Go.Eng
set_option maxRecDepth 100000
attribute [local irreducible] QV TV WL HW W CallOk Weak

instance tyCol : TyOk Tryz.prog 153 true 3 := ⟨fun _ => by kernel_rfl, fun _ => by kernel_rfl⟩
instance zeCol : ZeroOk Tryz.prog 153 (.agg #[.int .i64 0, .int .i64 0, .int .i64 0]) := ⟨fun _ => by kernel_rfl⟩
instance zcCol : ZcOk Tryz.prog 153 [.v (.int .i64 0), .v (.int .i64 0), .v (.int .i64 0)] := ⟨_, zeCol, rfl⟩
instance arCol : ArOk Tryz.prog 153 3 3 1 := ⟨Tryz.underlying153, by kernel_rfl⟩
theorem determinant_ok (a b c : V3) : CallOk Tryz.prog 101 [a.av, b.av, c.av] (fun r => r = vi (det3W a b c)) := by
  refine callOk Tryz.func101 Tryz.ntmps101 Tryz.results101 rfl rfl rfl fun B w0 I0 => ?_
  (repeat (first | refine WL_nil ?_ | (apply wl0 (hd := rfl); (first | exact qv9 | exact q_indexAr 0 rfl rfl rfl rfl | exact q_indexAr 1 rfl rfl rfl rfl | exact q_indexAr 2 rfl rfl rfl rfl); (exact gy0)) | (apply wlb (hd := rfl); exact qbx; (exact gy0); rfl) | refine wln ⟨_, rfl, rfl⟩ rfl ?_ | refine wlnu ⟨_, rfl, rfl⟩ rfl ?_ | refine wst rfl rfl rfl List.not_mem_nil rfl rfl rfl rfl rfl rfl ?_ | refine W_condT rfl ?_ | refine W_condF rfl ?_ | refine W_region ?_ | refine wN rfl ?_))
  refine Exists.intro _ ⟨Weak.refl _, Exists.intro _ ⟨resA_tmp rfl rfl, ?_, rfl⟩⟩
  rfl
abbrev colA (p q r : Rw) : V3 := ⟨p.a, q.a, r.a⟩
abbrev colB (p q r : Rw) : V3 := ⟨p.b, q.b, r.b⟩
abbrev colC (p q r : Rw) : V3 := ⟨p.c, q.c, r.c⟩
abbrev colD (p q r : Rw) : V3 := ⟨p.d, q.d, r.d⟩
theorem columnsOf_ok (p q r : Rw) : CallOk Tryz.prog 100 [p.av, q.av, r.av] (fun x => x = .tup [(colA p q r).av, (colB p q r).av, (colC p q r).av, (colD p q r).av]) := by
  refine callOk Tryz.func100 Tryz.ntmps100 Tryz.results100 rfl rfl rfl fun B w0 I0 => ?_
  (repeat (first | refine WL_nil ?_ | (apply wl0 (hd := rfl); (first | exact qv9); (exact gy0)) | (apply wlb (hd := rfl); exact qbx; (exact gy0); rfl) | refine wln ⟨_, rfl, rfl⟩ rfl ?_ | refine wlnu ⟨_, rfl, rfl⟩ rfl ?_ | refine wst rfl rfl rfl List.not_mem_nil rfl rfl rfl rfl rfl rfl ?_ | refine W_condT rfl ?_ | refine W_condF rfl ?_ | refine W_region ?_ | refine wN rfl ?_))
  refine wdraw4 28 [(5, r.row), (4, q.row), (3, p.row)] [(9, [vi 0, vi 0, vi 0]), (8, [vi 0, vi 0, vi 0]), (7, [vi 0, vi 0, vi 0]), (6, [vi (colA p q r).x, vi (colA p q r).y, vi (colA p q r).z]), (5, r.row), (4, q.row), (3, p.row)] [(9, [vi 0, vi 0, vi 0]), (8, [vi 0, vi 0, vi 0]), (7, [vi (colB p q r).x, vi (colB p q r).y, vi (colB p q r).z]), (6, [vi (colA p q r).x, vi (colA p q r).y, vi (colA p q r).z]), (5, r.row), (4, q.row), (3, p.row)] [(9, [vi 0, vi 0, vi 0]), (8, [vi (colC p q r).x, vi (colC p q r).y, vi (colC p q r).z]), (7, [vi (colB p q r).x, vi (colB p q r).y, vi (colB p q r).z]), (6, [vi (colA p q r).x, vi (colA p q r).y, vi (colA p q r).z]), (5, r.row), (4, q.row), (3, p.row)] [(9, [vi (colD p q r).x, vi (colD p q r).y, vi (colD p q r).z]), (8, [vi (colC p q r).x, vi (colC p q r).y, vi (colC p q r).z]), (7, [vi (colB p q r).x, vi (colB p q r).y, vi (colB p q r).z]), (6, [vi (colA p q r).x, vi (colA p q r).y, vi (colA p q r).z]), (5, r.row), (4, q.row), (3, p.row)] (by kernel_rfl) (by kernel_rfl) (by kernel_rfl) (by kernel_rfl) rfl (by simp) ?_
  (repeat (first | refine HS_nil ?_ | (apply hs0 (hd := rfl); exact qv0; (exact gy0)) | (apply hs0 (hd := rfl); exact q_buildAr rfl; (exact gy0)) | (apply hs0 (hd := rfl); exact QV_bne Tryz.underlying4 rfl rfl; (exact gy0)) | (apply hs0 (hd := rfl); exact QV_beq Tryz.underlying4 rfl rfl; (exact gy0)) | (apply hs0 (hd := rfl); exact qv1; (exact gy0))))
  refine ⟨svst rfl rfl rfl List.not_mem_nil rfl rfl rfl rfl rfl rfl, svst rfl rfl rfl List.not_mem_nil rfl rfl rfl rfl rfl rfl, svst rfl rfl rfl List.not_mem_nil rfl rfl rfl rfl rfl rfl, svst rfl rfl rfl List.not_mem_nil rfl rfl rfl rfl rfl rfl, ?_⟩
  (repeat (first | refine WL_nil ?_ | (apply wl0 (hd := rfl); (first | exact qv9); (exact gy0)) | (apply wlb (hd := rfl); exact qbx; (exact gy0); rfl) | refine wln ⟨_, rfl, rfl⟩ rfl ?_ | refine wlnu ⟨_, rfl, rfl⟩ rfl ?_ | refine wst rfl rfl rfl List.not_mem_nil rfl rfl rfl rfl rfl rfl ?_ | refine W_condT rfl ?_ | refine W_condF rfl ?_ | refine W_region ?_ | refine wN rfl ?_))
  refine Exists.intro _ ⟨Weak.refl _, Exists.intro _ ⟨resA_cell rfl rfl rfl (resA_cell rfl rfl rfl (resA_cell rfl rfl rfl (resA_cell rfl rfl rfl rfl))), ?_, rfl⟩⟩
  rfl
theorem implDetOfRows_ok (p q r : Rw) : CallOk Tryz.prog 92 [p.av, q.av, r.av] (fun x => x = vi (det0 p q r)) := by
  have h0 := rowsOk_ok [p, q, r] (by simp)
  have h1 := columnsOf_ok p q r
  have h2 := determinant_ok (colA p q r) (colB p q r) (colC p q r)
  rw [det3W_eq, det3_swap] at h2
  refine callOk Tryz.func92 Tryz.ntmps92 Tryz.results92 rfl rfl rfl fun B w0 I0 => ?_
  cases e : [p, q, r].all rowB
  · rw [e] at h0
    (repeat (first | refine WL_nil ?_ | (apply wl0 (hd := rfl); (first | exact qv9 | exact q_callA (h0)); (exact gy0)) | (apply wlb (hd := rfl); exact qbx; (exact gy0); rfl) | refine wln ⟨_, rfl, rfl⟩ rfl ?_ | refine wlnu ⟨_, rfl, rfl⟩ rfl ?_ | (apply wln1 (hd := rfl); exact q_buildSlice 14 rfl rfl rfl rfl; (exact gy0); rfl) | refine wst rfl rfl rfl List.not_mem_nil rfl rfl rfl rfl rfl rfl ?_ | refine W_condT rfl ?_ | refine W_condF rfl ?_ | refine W_region ?_ | refine wN rfl ?_))
    refine Exists.intro _ ⟨Weak.refl _, Exists.intro _ ⟨resA_tmp rfl rfl, ?_, rfl⟩⟩
    exact vi_eq (by simp only [List.all_cons, List.all_nil, Bool.and_true] at e; simp [det0, e])
  · rw [e] at h0
    (repeat (first | refine WL_nil ?_ | (apply wl0 (hd := rfl); (first | exact qv9 | exact q_callA (h0) | exact q_callA (h1) | exact q_callA (h2)); (exact gy0)) | (apply wlb (hd := rfl); exact qbx; (exact gy0); rfl) | refine wln ⟨_, rfl, rfl⟩ rfl ?_ | refine wlnu ⟨_, rfl, rfl⟩ rfl ?_ | (apply wln1 (hd := rfl); exact q_buildSlice 14 rfl rfl rfl rfl; (exact gy0); rfl) | refine wst rfl rfl rfl List.not_mem_nil rfl rfl rfl rfl rfl rfl ?_ | refine W_condT rfl ?_ | refine W_condF rfl ?_ | refine W_region ?_ | refine wN rfl ?_))
    refine Exists.intro _ ⟨Weak.refl _, Exists.intro _ ⟨resA_tmp rfl rfl, ?_, rfl⟩⟩
    simp only [List.all_cons, List.all_nil, Bool.and_true, Bool.and_eq_true] at e
    have hb := detR_bd e.1 e.2.1 e.2.2
    refine vi_eq ?_
    rw [det0, e.1, e.2.1, e.2.2]
    show W64 (detR p q r) = detR p q r
    exact w64 (by omega)
def fz (p q r s : Rw) : List Int := [det0 q r s, -(det0 p r s), det0 p q s, -(det0 p q r)]
theorem det0_bd (p q r : Rw) : -60000 ≤ det0 p q r ∧ det0 p q r ≤ 60000 := by
  unfold det0
  cases e : rowB p && (rowB q && rowB r)
  · simp
  · simp only [Bool.and_eq_true] at e
    exact detR_bd e.1 e.2.1 e.2.2
theorem fz_bd {p q r s : Rw} : ∀ x ∈ fz p q r s, -60000 ≤ x ∧ x ≤ 60000 := by
  intro x hx
  have h1 := det0_bd q r s
  have h2 := det0_bd p r s
  have h3 := det0_bd p q s
  have h4 := det0_bd p q r
  simp only [fz, List.mem_cons, List.not_mem_nil, or_false] at hx
  rcases hx with rfl | rfl | rfl | rfl <;> omega
def sgF : List Int → Int
  | [] => 0
  | x :: l => if x = 0 then sgF l else if x < 0 then -1 else 1
def facG (l : List Int) : Int := sgF l * gcdL l
def facB (p q r s : Rw) : Bool := [p, q, r, s].all rowB && !decide (gcdL (fz p q r s) = 0)
def facL (p q r s : Rw) : List Int := bif facB p q r s then (fz p q r s).map fun x => x.tdiv (facG (fz p q r s)) else []
theorem leA {bl : List (Nat × List AV)} {n T l : Nat} {fs : List Int} (hb : lookB bl n = some ((fs.map iRow) ++ []).flatten) (hl : l = fs.length) : LeS bl [.arr n T 1 l] [slI fs] :=
  .arr hb (by rw [hl, List.length_map]) (fun r hr => by obtain ⟨x, _, rfl⟩ := List.mem_map.1 hr; rfl) (fun x hx => by
    obtain ⟨r, hr, hx⟩ := List.mem_flatten.1 hx
    obtain ⟨y, _, rfl⟩ := List.mem_map.1 hr
    simp only [iRow, List.mem_singleton] at hx
    rw [hx]; rfl) .nil
theorem quo_at {a b : Int} (ha : -60000 ≤ a ∧ a ≤ 60000) : adv .quo .i64 a b = some (.int .i64 (a.tdiv b)) := by
  have h : (a.tdiv b).natAbs ≤ a.natAbs := by rw [Int.natAbs_tdiv]; exact Nat.div_le_self _ _
  simp only [adv]
  rw [i64w (by omega)]
theorem neg_at {a : Int} (ha : -60000 ≤ a ∧ a ≤ 60000) : IntKind.i64.wrap (0 - a) = -a := by
  rw [i64w (by omega)]; omega
theorem iR_len (l : List Int) : ∀ r ∈ l.map iRow, r.length = 1 := fun r hr => by obtain ⟨x, _, rfl⟩ := List.mem_map.1 hr; rfl
theorem iR_D (l : List Int) : ∀ x ∈ (l.map iRow).flatten, toD x = x := fun x hx => by
  obtain ⟨r, hr, hx⟩ := List.mem_flatten.1 hx
  obtain ⟨y, _, rfl⟩ := List.mem_map.1 hr
  simp only [iRow, List.mem_singleton] at hx
  rw [hx]; rfl
set_option maxHeartbeats 8000000 in
theorem implFactorsOf_ok (p q r s : Rw) : CallOk Tryz.prog 75 [p.av, q.av, r.av, s.av] (fun x => x = bif facB p q r s then .own 39 3 1 ((facL p q r s).map iRow) else .v (.slice none 0 0)) := by
  have h0 := rowsOk_ok [p, q, r, s] (by simp)
  have h1 := implDetOfRows_ok q r s
  have h2 := implDetOfRows_ok p r s
  have h3 := implDetOfRows_ok p q s
  have h4 := implDetOfRows_ok p q r
  have b1 := det0_bd q r s
  have b2 := det0_bd p r s
  have b3 := det0_bd p q s
  have b4 := det0_bd p q r
  have hg := commonDivisor_ok (fz p q r s) (by simp [fz]) (fun n hn => by have := fz_bd n hn; omega)
  have hgl := gcdL_le (l := fz p q r s) (m := 60000) (fun n hn => by have := fz_bd n hn; omega)
  have hgz : gcdL (fz p q r s) ≠ 0 → ¬ (det0 q r s = 0 ∧ det0 p r s = 0 ∧ det0 p q s = 0 ∧ det0 p q r = 0) := fun h ⟨z1, z2, z3, z4⟩ => h (by simp [fz, gcdL, z1, z2, z3, z4])
  unfold facL facB
  obtain ⟨G, eG⟩ : ∃ G : Nat, G = gcdL (fz p q r s) := ⟨_, rfl⟩
  obtain ⟨D, eD⟩ : ∃ D : Int, D = facG (fz p q r s) := ⟨_, rfl⟩
  have eD' := eD
  rw [facG, ← eG] at eD'
  rw [← eG] at hg hgl hgz
  rw [← eD, ← eG]
  unfold fz at hg eD' ⊢
  obtain ⟨f0, e0⟩ : ∃ x, x = det0 q r s := ⟨_, rfl⟩
  obtain ⟨f1, e1⟩ : ∃ x, x = det0 p r s := ⟨_, rfl⟩
  obtain ⟨f2, e2⟩ : ∃ x, x = det0 p q s := ⟨_, rfl⟩
  obtain ⟨f3, e3⟩ : ∃ x, x = det0 p q r := ⟨_, rfl⟩
  rw [← e0] at h1 b1 hg hgz eD' ⊢
  rw [← e1] at h2 b2 hg hgz eD' ⊢
  rw [← e2] at h3 b3 hg hgz eD' ⊢
  rw [← e3] at h4 b4 hg hgz eD' ⊢
  clear e0 e1 e2 e3 eD
  refine callOk Tryz.func75 Tryz.ntmps75 Tryz.results75 rfl rfl rfl fun B w0 I0 => ?_
  cases e : [p, q, r, s].all rowB
  · rw [e] at h0
    (repeat (first | refine WL_nil ?_ | (apply wl0 (hd := rfl); (first | exact qv9 | exact q_callA (h0)); (exact gy0)) | (apply wlb (hd := rfl); exact qbx; (exact gy0); rfl) | refine wln ⟨_, rfl, rfl⟩ rfl ?_ | refine wlnu ⟨_, rfl, rfl⟩ rfl ?_ | (apply wln1 (hd := rfl); exact q_buildSlice 18 rfl rfl rfl rfl; (exact gy0); rfl) | refine wst rfl rfl rfl List.not_mem_nil rfl rfl rfl rfl rfl rfl ?_ | refine W_condT rfl ?_ | refine W_condF rfl ?_ | refine W_region ?_ | refine wN rfl ?_))
    refine Exists.intro _ ⟨Weak.refl _, Exists.intro _ ⟨resA_tmp rfl rfl, ?_, rfl⟩⟩
    rfl
  · rw [e] at h0
    have n1 := neg_at b2
    have n3 := neg_at b4
    by_cases z : G = 0
    · subst z
      (repeat (first | refine WL_nil ?_ | (apply wl0 (hd := rfl); (first | exact qv9 | exact q_callA (h0)); (exact gy0)) | (apply wlb (hd := rfl); exact qbx; (exact gy0); rfl) | refine wln ⟨_, rfl, rfl⟩ rfl ?_ | refine wlnu ⟨_, rfl, rfl⟩ rfl ?_ | (apply wln1 (hd := rfl); exact q_buildSlice 18 rfl rfl rfl rfl; (exact gy0); rfl) | refine wst rfl rfl rfl List.not_mem_nil rfl rfl rfl rfl rfl rfl ?_ | refine W_condT rfl ?_ | refine W_condF rfl ?_ | refine W_region ?_ | refine wN rfl ?_))
      refine wdraw 18 (by kernel_rfl) (by kernel_rfl) (by kernel_rfl) rfl ?_
      (repeat (first | refine HW_nil ?_ | (apply hw0 (hd := rfl); (first | exact q_negE rfl n1 | exact q_negE rfl n3 | exact qv9 | exact q_callA (h1) | exact q_callA (h2) | exact q_callA (h3) | exact q_callA (h4)); (exact gy0)) | (apply hwb (hd := rfl); exact qbx; (exact gy0); rfl) | refine hwn ⟨_, rfl, rfl⟩ rfl ?_ | refine hwnu ⟨_, rfl, rfl⟩ rfl ?_))
      (repeat (first | refine WL_nil ?_ | (apply wl0 (hd := rfl); (first | exact q_callSA hg rfl (leA rfl rfl) | exact qv9); (exact gy0)) | (apply wlb (hd := rfl); (first | exact q_box rfl rfl rfl | exact q_alloc | exact q_buildA _ rfl rfl); (exact gy0); rfl) | refine wln ⟨_, rfl, rfl⟩ rfl ?_ | refine wlnu ⟨_, rfl, rfl⟩ rfl ?_ | refine wst rfl rfl rfl List.not_mem_nil rfl rfl rfl rfl rfl rfl ?_ | refine W_condT rfl ?_ | refine W_condF rfl ?_ | refine W_region ?_ | refine wN rfl ?_))
      refine Exists.intro _ ⟨Weak.refl _, Exists.intro _ ⟨resA_tmp rfl rfl, ?_, rfl⟩⟩
      rfl
    · have c0 : abin .eql .i64 (G : Int) 0 = some (.bool false) := by simp [abin]; omega
      (repeat (first | refine WL_nil ?_ | (apply wl0 (hd := rfl); (first | exact qv9 | exact q_callA (h0)); (exact gy0)) | (apply wlb (hd := rfl); exact qbx; (exact gy0); rfl) | refine wln ⟨_, rfl, rfl⟩ rfl ?_ | refine wlnu ⟨_, rfl, rfl⟩ rfl ?_ | (apply wln1 (hd := rfl); exact q_buildSlice 18 rfl rfl rfl rfl; (exact gy0); rfl) | refine wst rfl rfl rfl List.not_mem_nil rfl rfl rfl rfl rfl rfl ?_ | refine W_condT rfl ?_ | refine W_condF rfl ?_ | refine W_region ?_ | refine wN rfl ?_))
      refine wdraw 18 (by kernel_rfl) (by kernel_rfl) (by kernel_rfl) rfl ?_
      (repeat (first | refine HW_nil ?_ | (apply hw0 (hd := rfl); (first | exact q_negE rfl n1 | exact q_negE rfl n3 | exact qv9 | exact q_callA (h1) | exact q_callA (h2) | exact q_callA (h3) | exact q_callA (h4)); (exact gy0)) | (apply hwb (hd := rfl); exact qbx; (exact gy0); rfl) | refine hwn ⟨_, rfl, rfl⟩ rfl ?_ | refine hwnu ⟨_, rfl, rfl⟩ rfl ?_))
      (repeat (first | refine WL_nil ?_ | (apply wl0 (hd := rfl); (first | exact q_callSA hg rfl (leA rfl rfl) | exact QV_bin rfl rfl c0 | exact qv9 | exact QV_lenA rfl); (exact gy0)) | (apply wlb (hd := rfl); (first | exact q_box rfl rfl rfl | exact q_alloc | exact q_buildA _ rfl rfl); (exact gy0); rfl) | refine wln ⟨_, rfl, rfl⟩ rfl ?_ | refine wlnu ⟨_, rfl, rfl⟩ rfl ?_ | refine wst rfl rfl rfl List.not_mem_nil rfl rfl rfl rfl rfl rfl ?_ | refine W_condT rfl ?_ | refine W_condF rfl ?_ | refine W_region ?_ | refine wN rfl ?_))
      have nG := neg_at (a := (G : Int)) (by omega)
      have hD0 : (G : Int) ≠ 0 := by omega
      have hD1 : -(G : Int) ≠ 0 := by omega
      by_cases z0 : f0 = 0
      · have t0 : abin .neq .i64 (f0) 0 = some (.bool false) := by simp only [abin, Option.some.injEq, Value.bool.injEq, bne_eq_false_iff_eq]; exact z0
        by_cases z1 : -f1 = 0
        · have t1 : abin .neq .i64 (-f1) 0 = some (.bool false) := by simp only [abin, Option.some.injEq, Value.bool.injEq, bne_eq_false_iff_eq]; exact z1
          by_cases z2 : f2 = 0
          · have t2 : abin .neq .i64 (f2) 0 = some (.bool false) := by simp only [abin, Option.some.injEq, Value.bool.injEq, bne_eq_false_iff_eq]; exact z2
            by_cases z3 : -f3 = 0
            · exact absurd ⟨z0, by omega, z2, by omega⟩ (hgz z)
            · have t3 : abin .neq .i64 (-f3) 0 = some (.bool true) := by simp only [abin, Option.some.injEq, Value.bool.injEq, bne_iff_ne]; exact z3
              by_cases s3 : -f3 < 0
              · have u3 : abin .lss .i64 (-f3) 0 = some (.bool true) := by simp only [abin, decide_eq_true s3]
                have eD2 : D = -(G : Int) := by rw [eD']; simp only [sgF]; rw [if_pos z0]; rw [if_pos z1]; rw [if_pos z2]; rw [if_neg z3]; rw [if_pos s3]; omega
                subst eD2
                have q0 := quo_at (a := f0) (b := -(G : Int)) (by omega)
                have q1 := quo_at (a := -f1) (b := -(G : Int)) (by omega)
                have q2 := quo_at (a := f2) (b := -(G : Int)) (by omega)
                have q3 := quo_at (a := -f3) (b := -(G : Int)) (by omega)
                refine W_rounds 5 ?_
                (repeat (first | refine WL_nil ?_ | (apply wl0 (hd := rfl); (first | exact QV_bin rfl rfl t0 | exact QV_bin rfl rfl t1 | exact QV_bin rfl rfl t2 | exact QV_bin rfl rfl t3 | exact QV_bin rfl rfl u3 | exact q_negE rfl nG | exact qv9 | exact QV_indexA rfl rfl rfl (by decide) | exact QV_lenA rfl); (exact gy0)) | (apply wlb (hd := rfl); exact qbx; (exact gy0); rfl) | refine wln ⟨_, rfl, rfl⟩ rfl ?_ | refine wlnu ⟨_, rfl, rfl⟩ rfl ?_ | refine wst rfl rfl rfl List.not_mem_nil rfl rfl rfl rfl rfl rfl ?_ | refine W_condT rfl ?_ | refine W_condF rfl ?_ | refine W_region ?_ | refine wN rfl ?_))
                refine W_rounds 5 ?_
                (repeat (first | refine WL_nil ?_ | (apply wl0 (hd := rfl); (first | exact qv9 | exact QV_indexA rfl rfl rfl (by decide) | exact QV_div rfl rfl hD1 q0 | exact QV_div rfl rfl hD1 q1 | exact QV_div rfl rfl hD1 q2 | exact QV_div rfl rfl hD1 q3); (exact gy0)) | (apply wlb (hd := rfl); exact qbx; (exact gy0); rfl) | refine wln ⟨_, rfl, rfl⟩ rfl ?_ | refine wlnu ⟨_, rfl, rfl⟩ rfl ?_ | refine wst rfl rfl rfl List.not_mem_nil rfl rfl rfl rfl rfl rfl ?_ | refine W_condT rfl ?_ | refine W_condF rfl ?_ | refine W_region ?_ | refine wN rfl ?_))
                refine Exists.intro (⟨[(8, .own 39 3 1 (([f0, -f1, f2, -f3].map fun x : Int => x.tdiv (-(G : Int))).map iRow))], [], [39, 18]⟩ : St) ⟨weak_freeze ⟨rfl, fun _ h => h⟩ 39 3 1 (([f0, -f1, f2, -f3].map fun x : Int => x.tdiv (-(G : Int))).map iRow) rfl (iR_len _) (by rw [← (show (4 : Nat) = ((([f0, -f1, f2, -f3].map fun x : Int => x.tdiv (-(G : Int))).map iRow) : List (List AV)).length from rfl)]; exact (show (4 : Nat) ≤ 1048576 by decide)) (iR_D _) (by simp) ⟨.inl ⟨congrArg (AV.arr 39 3 1) (show (4 : Nat) = ((([f0, -f1, f2, -f3].map fun x : Int => x.tdiv (-(G : Int))).map iRow) : List (List AV)).length from rfl), rfl⟩, trivial⟩ (by simp) rfl trivial (by simp) (by simp) rfl rfl rfl (fun _ _ _ h => h), Exists.intro _ ⟨resA_tmp rfl rfl, ?_, rfl⟩⟩
                simp only [decide_eq_false z]
                rfl
              · have u3 : abin .lss .i64 (-f3) 0 = some (.bool false) := by simp only [abin, decide_eq_false s3]
                have eD2 : D = (G : Int) := by rw [eD']; simp only [sgF]; rw [if_pos z0]; rw [if_pos z1]; rw [if_pos z2]; rw [if_neg z3]; rw [if_neg s3]; omega
                subst eD2
                have q0 := quo_at (a := f0) (b := (G : Int)) (by omega)
                have q1 := quo_at (a := -f1) (b := (G : Int)) (by omega)
                have q2 := quo_at (a := f2) (b := (G : Int)) (by omega)
                have q3 := quo_at (a := -f3) (b := (G : Int)) (by omega)
                refine W_rounds 5 ?_
                (repeat (first | refine WL_nil ?_ | (apply wl0 (hd := rfl); (first | exact QV_bin rfl rfl t0 | exact QV_bin rfl rfl t1 | exact QV_bin rfl rfl t2 | exact QV_bin rfl rfl t3 | exact QV_bin rfl rfl u3 | exact qv9 | exact QV_indexA rfl rfl rfl (by decide) | exact QV_lenA rfl); (exact gy0)) | (apply wlb (hd := rfl); exact qbx; (exact gy0); rfl) | refine wln ⟨_, rfl, rfl⟩ rfl ?_ | refine wlnu ⟨_, rfl, rfl⟩ rfl ?_ | refine wst rfl rfl rfl List.not_mem_nil rfl rfl rfl rfl rfl rfl ?_ | refine W_condT rfl ?_ | refine W_condF rfl ?_ | refine W_region ?_ | refine wN rfl ?_))
                refine W_rounds 5 ?_
                (repeat (first | refine WL_nil ?_ | (apply wl0 (hd := rfl); (first | exact qv9 | exact QV_indexA rfl rfl rfl (by decide) | exact QV_div rfl rfl hD0 q0 | exact QV_div rfl rfl hD0 q1 | exact QV_div rfl rfl hD0 q2 | exact QV_div rfl rfl hD0 q3); (exact gy0)) | (apply wlb (hd := rfl); exact qbx; (exact gy0); rfl) | refine wln ⟨_, rfl, rfl⟩ rfl ?_ | refine wlnu ⟨_, rfl, rfl⟩ rfl ?_ | refine wst rfl rfl rfl List.not_mem_nil rfl rfl rfl rfl rfl rfl ?_ | refine W_condT rfl ?_ | refine W_condF rfl ?_ | refine W_region ?_ | refine wN rfl ?_))
                refine Exists.intro (⟨[(8, .own 39 3 1 (([f0, -f1, f2, -f3].map fun x : Int => x.tdiv ((G : Int))).map iRow))], [], [39, 18]⟩ : St) ⟨weak_freeze ⟨rfl, fun _ h => h⟩ 39 3 1 (([f0, -f1, f2, -f3].map fun x : Int => x.tdiv ((G : Int))).map iRow) rfl (iR_len _) (by rw [← (show (4 : Nat) = ((([f0, -f1, f2, -f3].map fun x : Int => x.tdiv ((G : Int))).map iRow) : List (List AV)).length from rfl)]; exact (show (4 : Nat) ≤ 1048576 by decide)) (iR_D _) (by simp) ⟨.inl ⟨congrArg (AV.arr 39 3 1) (show (4 : Nat) = ((([f0, -f1, f2, -f3].map fun x : Int => x.tdiv ((G : Int))).map iRow) : List (List AV)).length from rfl), rfl⟩, trivial⟩ (by simp) rfl trivial (by simp) (by simp) rfl rfl rfl (fun _ _ _ h => h), Exists.intro _ ⟨resA_tmp rfl rfl, ?_, rfl⟩⟩
                simp only [decide_eq_false z]
                rfl
          · have t2 : abin .neq .i64 (f2) 0 = some (.bool true) := by simp only [abin, Option.some.injEq, Value.bool.injEq, bne_iff_ne]; exact z2
            by_cases s2 : f2 < 0
            · have u2 : abin .lss .i64 (f2) 0 = some (.bool true) := by simp only [abin, decide_eq_true s2]
              have eD2 : D = -(G : Int) := by rw [eD']; simp only [sgF]; rw [if_pos z0]; rw [if_pos z1]; rw [if_neg z2]; rw [if_pos s2]; omega
              subst eD2
              have q0 := quo_at (a := f0) (b := -(G : Int)) (by omega)
              have q1 := quo_at (a := -f1) (b := -(G : Int)) (by omega)
              have q2 := quo_at (a := f2) (b := -(G : Int)) (by omega)
              have q3 := quo_at (a := -f3) (b := -(G : Int)) (by omega)
              refine W_rounds 5 ?_
              (repeat (first | refine WL_nil ?_ | (apply wl0 (hd := rfl); (first | exact QV_bin rfl rfl t0 | exact QV_bin rfl rfl t1 | exact QV_bin rfl rfl t2 | exact QV_bin rfl rfl u2 | exact q_negE rfl nG | exact qv9 | exact QV_indexA rfl rfl rfl (by decide) | exact QV_lenA rfl); (exact gy0)) | (apply wlb (hd := rfl); exact qbx; (exact gy0); rfl) | refine wln ⟨_, rfl, rfl⟩ rfl ?_ | refine wlnu ⟨_, rfl, rfl⟩ rfl ?_ | refine wst rfl rfl rfl List.not_mem_nil rfl rfl rfl rfl rfl rfl ?_ | refine W_condT rfl ?_ | refine W_condF rfl ?_ | refine W_region ?_ | refine wN rfl ?_))
              refine W_rounds 5 ?_
              (repeat (first | refine WL_nil ?_ | (apply wl0 (hd := rfl); (first | exact qv9 | exact QV_indexA rfl rfl rfl (by decide) | exact QV_div rfl rfl hD1 q0 | exact QV_div rfl rfl hD1 q1 | exact QV_div rfl rfl hD1 q2 | exact QV_div rfl rfl hD1 q3); (exact gy0)) | (apply wlb (hd := rfl); exact qbx; (exact gy0); rfl) | refine wln ⟨_, rfl, rfl⟩ rfl ?_ | refine wlnu ⟨_, rfl, rfl⟩ rfl ?_ | refine wst rfl rfl rfl List.not_mem_nil rfl rfl rfl rfl rfl rfl ?_ | refine W_condT rfl ?_ | refine W_condF rfl ?_ | refine W_region ?_ | refine wN rfl ?_))
              refine Exists.intro (⟨[(8, .own 39 3 1 (([f0, -f1, f2, -f3].map fun x : Int => x.tdiv (-(G : Int))).map iRow))], [], [39, 18]⟩ : St) ⟨weak_freeze ⟨rfl, fun _ h => h⟩ 39 3 1 (([f0, -f1, f2, -f3].map fun x : Int => x.tdiv (-(G : Int))).map iRow) rfl (iR_len _) (by rw [← (show (4 : Nat) = ((([f0, -f1, f2, -f3].map fun x : Int => x.tdiv (-(G : Int))).map iRow) : List (List AV)).length from rfl)]; exact (show (4 : Nat) ≤ 1048576 by decide)) (iR_D _) (by simp) ⟨.inl ⟨congrArg (AV.arr 39 3 1) (show (4 : Nat) = ((([f0, -f1, f2, -f3].map fun x : Int => x.tdiv (-(G : Int))).map iRow) : List (List AV)).length from rfl), rfl⟩, trivial⟩ (by simp) rfl trivial (by simp) (by simp) rfl rfl rfl (fun _ _ _ h => h), Exists.intro _ ⟨resA_tmp rfl rfl, ?_, rfl⟩⟩
              simp only [decide_eq_false z]
              rfl
            · have u2 : abin .lss .i64 (f2) 0 = some (.bool false) := by simp only [abin, decide_eq_false s2]
              have eD2 : D = (G : Int) := by rw [eD']; simp only [sgF]; rw [if_pos z0]; rw [if_pos z1]; rw [if_neg z2]; rw [if_neg s2]; omega
              subst eD2
              have q0 := quo_at (a := f0) (b := (G : Int)) (by omega)
              have q1 := quo_at (a := -f1) (b := (G : Int)) (by omega)
              have q2 := quo_at (a := f2) (b := (G : Int)) (by omega)
              have q3 := quo_at (a := -f3) (b := (G : Int)) (by omega)
              refine W_rounds 5 ?_
              (repeat (first | refine WL_nil ?_ | (apply wl0 (hd := rfl); (first | exact QV_bin rfl rfl t0 | exact QV_bin rfl rfl t1 | exact QV_bin rfl rfl t2 | exact QV_bin rfl rfl u2 | exact qv9 | exact QV_indexA rfl rfl rfl (by decide) | exact QV_lenA rfl); (exact gy0)) | (apply wlb (hd := rfl); exact qbx; (exact gy0); rfl) | refine wln ⟨_, rfl, rfl⟩ rfl ?_ | refine wlnu ⟨_, rfl, rfl⟩ rfl ?_ | refine wst rfl rfl rfl List.not_mem_nil rfl rfl rfl rfl rfl rfl ?_ | refine W_condT rfl ?_ | refine W_condF rfl ?_ | refine W_region ?_ | refine wN rfl ?_))
              refine W_rounds 5 ?_
              (repeat (first | refine WL_nil ?_ | (apply wl0 (hd := rfl); (first | exact qv9 | exact QV_indexA rfl rfl rfl (by decide) | exact QV_div rfl rfl hD0 q0 | exact QV_div rfl rfl hD0 q1 | exact QV_div rfl rfl hD0 q2 | exact QV_div rfl rfl hD0 q3); (exact gy0)) | (apply wlb (hd := rfl); exact qbx; (exact gy0); rfl) | refine wln ⟨_, rfl, rfl⟩ rfl ?_ | refine wlnu ⟨_, rfl, rfl⟩ rfl ?_ | refine wst rfl rfl rfl List.not_mem_nil rfl rfl rfl rfl rfl rfl ?_ | refine W_condT rfl ?_ | refine W_condF rfl ?_ | refine W_region ?_ | refine wN rfl ?_))
              refine Exists.intro (⟨[(8, .own 39 3 1 (([f0, -f1, f2, -f3].map fun x : Int => x.tdiv ((G : Int))).map iRow))], [], [39, 18]⟩ : St) ⟨weak_freeze ⟨rfl, fun _ h => h⟩ 39 3 1 (([f0, -f1, f2, -f3].map fun x : Int => x.tdiv ((G : Int))).map iRow) rfl (iR_len _) (by rw [← (show (4 : Nat) = ((([f0, -f1, f2, -f3].map fun x : Int => x.tdiv ((G : Int))).map iRow) : List (List AV)).length from rfl)]; exact (show (4 : Nat) ≤ 1048576 by decide)) (iR_D _) (by simp) ⟨.inl ⟨congrArg (AV.arr 39 3 1) (show (4 : Nat) = ((([f0, -f1, f2, -f3].map fun x : Int => x.tdiv ((G : Int))).map iRow) : List (List AV)).length from rfl), rfl⟩, trivial⟩ (by simp) rfl trivial (by simp) (by simp) rfl rfl rfl (fun _ _ _ h => h), Exists.intro _ ⟨resA_tmp rfl rfl, ?_, rfl⟩⟩
              simp only [decide_eq_false z]
              rfl
        · have t1 : abin .neq .i64 (-f1) 0 = some (.bool true) := by simp only [abin, Option.some.injEq, Value.bool.injEq, bne_iff_ne]; exact z1
          by_cases s1 : -f1 < 0
          · have u1 : abin .lss .i64 (-f1) 0 = some (.bool true) := by simp only [abin, decide_eq_true s1]
            have eD2 : D = -(G : Int) := by rw [eD']; simp only [sgF]; rw [if_pos z0]; rw [if_neg z1]; rw [if_pos s1]; omega
            subst eD2
            have q0 := quo_at (a := f0) (b := -(G : Int)) (by omega)
            have q1 := quo_at (a := -f1) (b := -(G : Int)) (by omega)
            have q2 := quo_at (a := f2) (b := -(G : Int)) (by omega)
            have q3 := quo_at (a := -f3) (b := -(G : Int)) (by omega)
            refine W_rounds 5 ?_
            (repeat (first | refine WL_nil ?_ | (apply wl0 (hd := rfl); (first | exact QV_bin rfl rfl t0 | exact QV_bin rfl rfl t1 | exact QV_bin rfl rfl u1 | exact q_negE rfl nG | exact qv9 | exact QV_indexA rfl rfl rfl (by decide) | exact QV_lenA rfl); (exact gy0)) | (apply wlb (hd := rfl); exact qbx; (exact gy0); rfl) | refine wln ⟨_, rfl, rfl⟩ rfl ?_ | refine wlnu ⟨_, rfl, rfl⟩ rfl ?_ | refine wst rfl rfl rfl List.not_mem_nil rfl rfl rfl rfl rfl rfl ?_ | refine W_condT rfl ?_ | refine W_condF rfl ?_ | refine W_region ?_ | refine wN rfl ?_))
            refine W_rounds 5 ?_
            (repeat (first | refine WL_nil ?_ | (apply wl0 (hd := rfl); (first | exact qv9 | exact QV_indexA rfl rfl rfl (by decide) | exact QV_div rfl rfl hD1 q0 | exact QV_div rfl rfl hD1 q1 | exact QV_div rfl rfl hD1 q2 | exact QV_div rfl rfl hD1 q3); (exact gy0)) | (apply wlb (hd := rfl); exact qbx; (exact gy0); rfl) | refine wln ⟨_, rfl, rfl⟩ rfl ?_ | refine wlnu ⟨_, rfl, rfl⟩ rfl ?_ | refine wst rfl rfl rfl List.not_mem_nil rfl rfl rfl rfl rfl rfl ?_ | refine W_condT rfl ?_ | refine W_condF rfl ?_ | refine W_region ?_ | refine wN rfl ?_))
            refine Exists.intro (⟨[(8, .own 39 3 1 (([f0, -f1, f2, -f3].map fun x : Int => x.tdiv (-(G : Int))).map iRow))], [], [39, 18]⟩ : St) ⟨weak_freeze ⟨rfl, fun _ h => h⟩ 39 3 1 (([f0, -f1, f2, -f3].map fun x : Int => x.tdiv (-(G : Int))).map iRow) rfl (iR_len _) (by rw [← (show (4 : Nat) = ((([f0, -f1, f2, -f3].map fun x : Int => x.tdiv (-(G : Int))).map iRow) : List (List AV)).length from rfl)]; exact (show (4 : Nat) ≤ 1048576 by decide)) (iR_D _) (by simp) ⟨.inl ⟨congrArg (AV.arr 39 3 1) (show (4 : Nat) = ((([f0, -f1, f2, -f3].map fun x : Int => x.tdiv (-(G : Int))).map iRow) : List (List AV)).length from rfl), rfl⟩, trivial⟩ (by simp) rfl trivial (by simp) (by simp) rfl rfl rfl (fun _ _ _ h => h), Exists.intro _ ⟨resA_tmp rfl rfl, ?_, rfl⟩⟩
            simp only [decide_eq_false z]
            rfl
          · have u1 : abin .lss .i64 (-f1) 0 = some (.bool false) := by simp only [abin, decide_eq_false s1]
            have eD2 : D = (G : Int) := by rw [eD']; simp only [sgF]; rw [if_pos z0]; rw [if_neg z1]; rw [if_neg s1]; omega
            subst eD2
            have q0 := quo_at (a := f0) (b := (G : Int)) (by omega)
            have q1 := quo_at (a := -f1) (b := (G : Int)) (by omega)
            have q2 := quo_at (a := f2) (b := (G : Int)) (by omega)
            have q3 := quo_at (a := -f3) (b := (G : Int)) (by omega)
            refine W_rounds 5 ?_
            (repeat (first | refine WL_nil ?_ | (apply wl0 (hd := rfl); (first | exact QV_bin rfl rfl t0 | exact QV_bin rfl rfl t1 | exact QV_bin rfl rfl u1 | exact qv9 | exact QV_indexA rfl rfl rfl (by decide) | exact QV_lenA rfl); (exact gy0)) | (apply wlb (hd := rfl); exact qbx; (exact gy0); rfl) | refine wln ⟨_, rfl, rfl⟩ rfl ?_ | refine wlnu ⟨_, rfl, rfl⟩ rfl ?_ | refine wst rfl rfl rfl List.not_mem_nil rfl rfl rfl rfl rfl rfl ?_ | refine W_condT rfl ?_ | refine W_condF rfl ?_ | refine W_region ?_ | refine wN rfl ?_))
            refine W_rounds 5 ?_
            (repeat (first | refine WL_nil ?_ | (apply wl0 (hd := rfl); (first | exact qv9 | exact QV_indexA rfl rfl rfl (by decide) | exact QV_div rfl rfl hD0 q0 | exact QV_div rfl rfl hD0 q1 | exact QV_div rfl rfl hD0 q2 | exact QV_div rfl rfl hD0 q3); (exact gy0)) | (apply wlb (hd := rfl); exact qbx; (exact gy0); rfl) | refine wln ⟨_, rfl, rfl⟩ rfl ?_ | refine wlnu ⟨_, rfl, rfl⟩ rfl ?_ | refine wst rfl rfl rfl List.not_mem_nil rfl rfl rfl rfl rfl rfl ?_ | refine W_condT rfl ?_ | refine W_condF rfl ?_ | refine W_region ?_ | refine wN rfl ?_))
            refine Exists.intro (⟨[(8, .own 39 3 1 (([f0, -f1, f2, -f3].map fun x : Int => x.tdiv ((G : Int))).map iRow))], [], [39, 18]⟩ : St) ⟨weak_freeze ⟨rfl, fun _ h => h⟩ 39 3 1 (([f0, -f1, f2, -f3].map fun x : Int => x.tdiv ((G : Int))).map iRow) rfl (iR_len _) (by rw [← (show (4 : Nat) = ((([f0, -f1, f2, -f3].map fun x : Int => x.tdiv ((G : Int))).map iRow) : List (List AV)).length from rfl)]; exact (show (4 : Nat) ≤ 1048576 by decide)) (iR_D _) (by simp) ⟨.inl ⟨congrArg (AV.arr 39 3 1) (show (4 : Nat) = ((([f0, -f1, f2, -f3].map fun x : Int => x.tdiv ((G : Int))).map iRow) : List (List AV)).length from rfl), rfl⟩, trivial⟩ (by simp) rfl trivial (by simp) (by simp) rfl rfl rfl (fun _ _ _ h => h), Exists.intro _ ⟨resA_tmp rfl rfl, ?_, rfl⟩⟩
            simp only [decide_eq_false z]
            rfl
      · have t0 : abin .neq .i64 (f0) 0 = some (.bool true) := by simp only [abin, Option.some.injEq, Value.bool.injEq, bne_iff_ne]; exact z0
        by_cases s0 : f0 < 0
        · have u0 : abin .lss .i64 (f0) 0 = some (.bool true) := by simp only [abin, decide_eq_true s0]
          have eD2 : D = -(G : Int) := by rw [eD']; simp only [sgF]; rw [if_neg z0]; rw [if_pos s0]; omega
          subst eD2
          have q0 := quo_at (a := f0) (b := -(G : Int)) (by omega)
          have q1 := quo_at (a := -f1) (b := -(G : Int)) (by omega)
          have q2 := quo_at (a := f2) (b := -(G : Int)) (by omega)
          have q3 := quo_at (a := -f3) (b := -(G : Int)) (by omega)
          refine W_rounds 5 ?_
          (repeat (first | refine WL_nil ?_ | (apply wl0 (hd := rfl); (first | exact QV_bin rfl rfl t0 | exact QV_bin rfl rfl u0 | exact q_negE rfl nG | exact qv9 | exact QV_indexA rfl rfl rfl (by decide) | exact QV_lenA rfl); (exact gy0)) | (apply wlb (hd := rfl); exact qbx; (exact gy0); rfl) | refine wln ⟨_, rfl, rfl⟩ rfl ?_ | refine wlnu ⟨_, rfl, rfl⟩ rfl ?_ | refine wst rfl rfl rfl List.not_mem_nil rfl rfl rfl rfl rfl rfl ?_ | refine W_condT rfl ?_ | refine W_condF rfl ?_ | refine W_region ?_ | refine wN rfl ?_))
          refine W_rounds 5 ?_
          (repeat (first | refine WL_nil ?_ | (apply wl0 (hd := rfl); (first | exact qv9 | exact QV_indexA rfl rfl rfl (by decide) | exact QV_div rfl rfl hD1 q0 | exact QV_div rfl rfl hD1 q1 | exact QV_div rfl rfl hD1 q2 | exact QV_div rfl rfl hD1 q3); (exact gy0)) | (apply wlb (hd := rfl); exact qbx; (exact gy0); rfl) | refine wln ⟨_, rfl, rfl⟩ rfl ?_ | refine wlnu ⟨_, rfl, rfl⟩ rfl ?_ | refine wst rfl rfl rfl List.not_mem_nil rfl rfl rfl rfl rfl rfl ?_ | refine W_condT rfl ?_ | refine W_condF rfl ?_ | refine W_region ?_ | refine wN rfl ?_))
          refine Exists.intro (⟨[(8, .own 39 3 1 (([f0, -f1, f2, -f3].map fun x : Int => x.tdiv (-(G : Int))).map iRow))], [], [39, 18]⟩ : St) ⟨weak_freeze ⟨rfl, fun _ h => h⟩ 39 3 1 (([f0, -f1, f2, -f3].map fun x : Int => x.tdiv (-(G : Int))).map iRow) rfl (iR_len _) (by rw [← (show (4 : Nat) = ((([f0, -f1, f2, -f3].map fun x : Int => x.tdiv (-(G : Int))).map iRow) : List (List AV)).length from rfl)]; exact (show (4 : Nat) ≤ 1048576 by decide)) (iR_D _) (by simp) ⟨.inl ⟨congrArg (AV.arr 39 3 1) (show (4 : Nat) = ((([f0, -f1, f2, -f3].map fun x : Int => x.tdiv (-(G : Int))).map iRow) : List (List AV)).length from rfl), rfl⟩, trivial⟩ (by simp) rfl trivial (by simp) (by simp) rfl rfl rfl (fun _ _ _ h => h), Exists.intro _ ⟨resA_tmp rfl rfl, ?_, rfl⟩⟩
          simp only [decide_eq_false z]
          rfl
        · have u0 : abin .lss .i64 (f0) 0 = some (.bool false) := by simp only [abin, decide_eq_false s0]
          have eD2 : D = (G : Int) := by rw [eD']; simp only [sgF]; rw [if_neg z0]; rw [if_neg s0]; omega
          subst eD2
          have q0 := quo_at (a := f0) (b := (G : Int)) (by omega)
          have q1 := quo_at (a := -f1) (b := (G : Int)) (by omega)
          have q2 := quo_at (a := f2) (b := (G : Int)) (by omega)
          have q3 := quo_at (a := -f3) (b := (G : Int)) (by omega)
          refine W_rounds 5 ?_
          (repeat (first | refine WL_nil ?_ | (apply wl0 (hd := rfl); (first | exact QV_bin rfl rfl t0 | exact QV_bin rfl rfl u0 | exact qv9 | exact QV_indexA rfl rfl rfl (by decide) | exact QV_lenA rfl); (exact gy0)) | (apply wlb (hd := rfl); exact qbx; (exact gy0); rfl) | refine wln ⟨_, rfl, rfl⟩ rfl ?_ | refine wlnu ⟨_, rfl, rfl⟩ rfl ?_ | refine wst rfl rfl rfl List.not_mem_nil rfl rfl rfl rfl rfl rfl ?_ | refine W_condT rfl ?_ | refine W_condF rfl ?_ | refine W_region ?_ | refine wN rfl ?_))
          refine W_rounds 5 ?_
          (repeat (first | refine WL_nil ?_ | (apply wl0 (hd := rfl); (first | exact qv9 | exact QV_indexA rfl rfl rfl (by decide) | exact QV_div rfl rfl hD0 q0 | exact QV_div rfl rfl hD0 q1 | exact QV_div rfl rfl hD0 q2 | exact QV_div rfl rfl hD0 q3); (exact gy0)) | (apply wlb (hd := rfl); exact qbx; (exact gy0); rfl) | refine wln ⟨_, rfl, rfl⟩ rfl ?_ | refine wlnu ⟨_, rfl, rfl⟩ rfl ?_ | refine wst rfl rfl rfl List.not_mem_nil rfl rfl rfl rfl rfl rfl ?_ | refine W_condT rfl ?_ | refine W_condF rfl ?_ | refine W_region ?_ | refine wN rfl ?_))
          refine Exists.intro (⟨[(8, .own 39 3 1 (([f0, -f1, f2, -f3].map fun x : Int => x.tdiv ((G : Int))).map iRow))], [], [39, 18]⟩ : St) ⟨weak_freeze ⟨rfl, fun _ h => h⟩ 39 3 1 (([f0, -f1, f2, -f3].map fun x : Int => x.tdiv ((G : Int))).map iRow) rfl (iR_len _) (by rw [← (show (4 : Nat) = ((([f0, -f1, f2, -f3].map fun x : Int => x.tdiv ((G : Int))).map iRow) : List (List AV)).length from rfl)]; exact (show (4 : Nat) ≤ 1048576 by decide)) (iR_D _) (by simp) ⟨.inl ⟨congrArg (AV.arr 39 3 1) (show (4 : Nat) = ((([f0, -f1, f2, -f3].map fun x : Int => x.tdiv ((G : Int))).map iRow) : List (List AV)).length from rfl), rfl⟩, trivial⟩ (by simp) rfl trivial (by simp) (by simp) rfl rfl rfl (fun _ _ _ h => h), Exists.intro _ ⟨resA_tmp rfl rfl, ?_, rfl⟩⟩
          simp only [decide_eq_false z]
          rfl
end Go.Proofs.YtkaffcdjhbaifaaGreat
