/- The program's determinants; FactorsOf, both ways. -/
import Derived.Test.YtpcahgedkmgllaaGreatYASv
import Derived.Test.YtpcahgedkmgllaaGreatYG4
import Derived.Test.YtpcahgedkmgllaaGreatZ8
import Derived.Test.YtpcahgedkmgllaaGreatZ9
import Derived.Test.YtpcahgedkmgllaaGreatZ5
set_option maxHeartbeats 4000000
namespace Go.Proofs.YtpcahgedkmgllaaGreat
open Go.Eng
set_option maxRecDepth 100000
attribute [local irreducible] QV TV WL HW W CallOk Weak

def fz (p q r s : Rw) : List Int := [det0 q r s, -(det0 p r s), det0 p q s, -(det0 p q r)]
theorem det0_bd (p q r : Rw) : -60000 ≤ det0 p q r ∧ det0 p q r ≤ 60000 := by
  unfold det0
  cases e : rowB p && (rowB q && rowB r)
  · simp
  · simp only [Bool.and_eq_true] at e
    exact detR_bd e.1 e.2.1 e.2.2
theorem fz_bd {p q r s : Rw} : ∀ x ∈ fz p q r s, -60000 ≤ x ∧ x ≤ 60000 := by
  intro x hx
  have h1 := det0_bd q r s
  have h2 := det0_bd p r s
  have h3 := det0_bd p q s
  have h4 := det0_bd p q r
  simp only [fz, List.mem_cons, List.not_mem_nil, or_false] at hx
  rcases hx with rfl | rfl | rfl | rfl <;> omega
def sgF : List Int → Int
  | [] => 0
  | x :: l => if x = 0 then sgF l else if x < 0 then -1 else 1
def facG (l : List Int) : Int := sgF l * gcdL l
def facB (p q r s : Rw) : Bool := [p, q, r, s].all rowB && !decide (gcdL (fz p q r s) = 0)
def facL (p q r s : Rw) : List Int := bif facB p q r s then (fz p q r s).map fun x => x.tdiv (facG (fz p q r s)) else []
theorem leA {bl : List (Nat × List AV)} {n T l : Nat} {fs : List Int} (hb : lookB bl n = some ((fs.map iRow) ++ []).flatten) (hl : l = fs.length) : LeS bl [.arr n T 1 l] [slI fs] :=
  .arr hb (by rw [hl, List.length_map]) (fun r hr => by obtain ⟨x, _, rfl⟩ := List.mem_map.1 hr; rfl) (fun x hx => by
    obtain ⟨r, hr, hx⟩ := List.mem_flatten.1 hx
    obtain ⟨y, _, rfl⟩ := List.mem_map.1 hr
    simp only [iRow, List.mem_singleton] at hx
    rw [hx]; rfl) .nil
theorem quo_at {a b : Int} (ha : -60000 ≤ a ∧ a ≤ 60000) : adv .quo .i64 a b = some (.int .i64 (a.tdiv b)) := by
  have h : (a.tdiv b).natAbs ≤ a.natAbs := by rw [Int.natAbs_tdiv]; exact Nat.div_le_self _ _
  simp only [adv]
  rw [i64w (by omega)]
theorem neg_at {a : Int} (ha : -60000 ≤ a ∧ a ≤ 60000) : IntKind.i64.wrap (0 - a) = -a := by
  rw [i64w (by omega)]; omega
theorem iR_len (l : List Int) : ∀ r ∈ l.map iRow, r.length = 1 := fun r hr => by obtain ⟨x, _, rfl⟩ := List.mem_map.1 hr; rfl
theorem iR_D (l : List Int) : ∀ x ∈ (l.map iRow).flatten, toD x = x := fun x hx => by
  obtain ⟨r, hr, hx⟩ := List.mem_flatten.1 hx
  obtain ⟨y, _, rfl⟩ := List.mem_map.1 hr
  simp only [iRow, List.mem_singleton] at hx
  rw [hx]; rfl
set_option maxHeartbeats 8000000 in
theorem implFactorsOf_ok (p q r s : Rw) : CallOk Tryz.prog 59 [p.av, q.av, r.av, s.av] (fun x => x = bif facB p q r s then .own 39 3 1 ((facL p q r s).map iRow) else .v (.slice none 0 0)) := by
  have h0 := rowsOk_ok [p, q, r, s] (by simp)
  have h1 := implDetOfRows_ok q r s
  have h2 := implDetOfRows_ok p r s
  have h3 := implDetOfRows_ok p q s
  have h4 := implDetOfRows_ok p q r
  have b1 := det0_bd q r s
  have b2 := det0_bd p r s
  have b3 := det0_bd p q s
  have b4 := det0_bd p q r
  have hg := commonDivisor_ok (fz p q r s) (by simp [fz]) (fun n hn => by have := fz_bd n hn; omega)
  have hgl := gcdL_le (l := fz p q r s) (m := 60000) (fun n hn => by have := fz_bd n hn; omega)
  have hgz : gcdL (fz p q r s) ≠ 0 → ¬ (det0 q r s = 0 ∧ det0 p r s = 0 ∧ det0 p q s = 0 ∧ det0 p q r = 0) := fun h ⟨z1, z2, z3, z4⟩ => h (by simp [fz, gcdL, z1, z2, z3, z4])
  unfold facL facB
  obtain ⟨G, eG⟩ : ∃ G : Nat, G = gcdL (fz p q r s) := ⟨_, rfl⟩
  obtain ⟨D, eD⟩ : ∃ D : Int, D = facG (fz p q r s) := ⟨_, rfl⟩
  have eD' := eD
  rw [facG, ← eG] at eD'
  rw [← eG] at hg hgl hgz
  rw [← eD, ← eG]
  unfold fz at hg eD' ⊢
  obtain ⟨f0, e0⟩ : ∃ x, x = det0 q r s := ⟨_, rfl⟩
  obtain ⟨f1, e1⟩ : ∃ x, x = det0 p r s := ⟨_, rfl⟩
  obtain ⟨f2, e2⟩ : ∃ x, x = det0 p q s := ⟨_, rfl⟩
  obtain ⟨f3, e3⟩ : ∃ x, x = det0 p q r := ⟨_, rfl⟩
  rw [← e0] at h1 b1 hg hgz eD' ⊢
  rw [← e1] at h2 b2 hg hgz eD' ⊢
  rw [← e2] at h3 b3 hg hgz eD' ⊢
  rw [← e3] at h4 b4 hg hgz eD' ⊢
  clear e0 e1 e2 e3 eD
  refine callOk Tryz.func59 Tryz.ntmps59 Tryz.results59 rfl rfl rfl fun B w0 M I0 V0 => ?_
  cases e : [p, q, r, s].all rowB
  · rw [e] at h0
    (repeat (first | refine WL_nil ?_ | refine zq0 (by first | exact qv9 | exact q_callA (h0)) ?_ | refine zq1 ?_ | refine zq2 ?_ | refine zq3 ?_ | (apply wln1 (hd := rfl); exact q_buildSlice 18 rfl rfl rfl rfl; (exact gy0); rfl) | refine zq4 ?_ | refine zq5 ?_ | refine zq6 ?_ | refine wN rfl ?_))
    refine Exists.intro _ ⟨Weak.refl _, Exists.intro _ ⟨resA_tmp rfl rfl, ?_, rfl⟩⟩
    rfl
  · rw [e] at h0
    have n1 := neg_at b2
    have n3 := neg_at b4
    by_cases z : G = 0
    · subst z
      (repeat (first | refine WL_nil ?_ | refine zq0 (by first | exact qv9 | exact q_callA (h0)) ?_ | refine zq1 ?_ | refine zq2 ?_ | refine zq3 ?_ | (apply wln1 (hd := rfl); exact q_buildSlice 18 rfl rfl rfl rfl; (exact gy0); rfl) | refine zq4 ?_ | refine zq5 ?_ | refine zq6 ?_ | refine wN rfl ?_))
      refine wdraw 18 (by kernel_rfl) (by kernel_rfl) (by kernel_rfl) rfl ?_
      (repeat (first | refine HW_nil ?_ | (apply hw0 (hd := rfl); (first | exact q_negE rfl n1 | exact q_negE rfl n3 | exact qv9 | exact q_callA (h1) | exact q_callA (h2) | exact q_callA (h3) | exact q_callA (h4)); (exact gy0)) | (apply hwb (hd := rfl); exact qbx; (exact gy0); rfl) | refine zq7 ?_ | refine zq8 ?_))
      (repeat (first | refine WL_nil ?_ | refine zq0 (by first | exact q_callSA hg rfl (leA rfl rfl) | exact qv9) ?_ | (apply wlb (hd := rfl); (first | exact q_box rfl rfl rfl | exact q_alloc | exact q_buildA _ rfl rfl); (exact gy0); rfl) | refine zq2 ?_ | refine zq3 ?_ | refine zq4 ?_ | refine zq5 ?_ | refine zq6 ?_ | refine wN rfl ?_))
      refine Exists.intro _ ⟨Weak.refl _, Exists.intro _ ⟨resA_tmp rfl rfl, ?_, rfl⟩⟩
      rfl
    · have c0 : abin .eql .i64 (G : Int) 0 = some (.bool false) := by simp [abin]; omega
      (repeat (first | refine WL_nil ?_ | refine zq0 (by first | exact qv9 | exact q_callA (h0)) ?_ | refine zq1 ?_ | refine zq2 ?_ | refine zq3 ?_ | (apply wln1 (hd := rfl); exact q_buildSlice 18 rfl rfl rfl rfl; (exact gy0); rfl) | refine zq4 ?_ | refine zq5 ?_ | refine zq6 ?_ | refine wN rfl ?_))
      refine wdraw 18 (by kernel_rfl) (by kernel_rfl) (by kernel_rfl) rfl ?_
      (repeat (first | refine HW_nil ?_ | (apply hw0 (hd := rfl); (first | exact q_negE rfl n1 | exact q_negE rfl n3 | exact qv9 | exact q_callA (h1) | exact q_callA (h2) | exact q_callA (h3) | exact q_callA (h4)); (exact gy0)) | (apply hwb (hd := rfl); exact qbx; (exact gy0); rfl) | refine zq7 ?_ | refine zq8 ?_))
      (repeat (first | refine WL_nil ?_ | refine zq0 (by first | exact q_callSA hg rfl (leA rfl rfl) | exact QV_bin rfl rfl c0 | exact qv9 | exact QV_lenA rfl) ?_ | (apply wlb (hd := rfl); (first | exact q_box rfl rfl rfl | exact q_alloc | exact q_buildA _ rfl rfl); (exact gy0); rfl) | refine zq2 ?_ | refine zq3 ?_ | refine zq4 ?_ | refine zq5 ?_ | refine zq6 ?_ | refine wN rfl ?_))
      have nG := neg_at (a := (G : Int)) (by omega)
      have hD0 : (G : Int) ≠ 0 := by omega
      have hD1 : -(G : Int) ≠ 0 := by omega
      by_cases z0 : f0 = 0
      · have t0 : abin .neq .i64 (f0) 0 = some (.bool false) := by simp only [abin, Option.some.injEq, Value.bool.injEq, bne_eq_false_iff_eq]; exact z0
        by_cases z1 : -f1 = 0
        · have t1 : abin .neq .i64 (-f1) 0 = some (.bool false) := by simp only [abin, Option.some.injEq, Value.bool.injEq, bne_eq_false_iff_eq]; exact z1
          by_cases z2 : f2 = 0
          · have t2 : abin .neq .i64 (f2) 0 = some (.bool false) := by simp only [abin, Option.some.injEq, Value.bool.injEq, bne_eq_false_iff_eq]; exact z2
            by_cases z3 : -f3 = 0
            · exact absurd ⟨z0, by omega, z2, by omega⟩ (hgz z)
            · have t3 : abin .neq .i64 (-f3) 0 = some (.bool true) := by simp only [abin, Option.some.injEq, Value.bool.injEq, bne_iff_ne]; exact z3
              by_cases s3 : -f3 < 0
              · have u3 : abin .lss .i64 (-f3) 0 = some (.bool true) := by simp only [abin, decide_eq_true s3]
                have eD2 : D = -(G : Int) := by rw [eD']; simp only [sgF]; rw [if_pos z0]; rw [if_pos z1]; rw [if_pos z2]; rw [if_neg z3]; rw [if_pos s3]; omega
                subst eD2
                have q0 := quo_at (a := f0) (b := -(G : Int)) (by omega)
                have q1 := quo_at (a := -f1) (b := -(G : Int)) (by omega)
                have q2 := quo_at (a := f2) (b := -(G : Int)) (by omega)
                have q3 := quo_at (a := -f3) (b := -(G : Int)) (by omega)
                refine W_rounds 5 ?_
                (repeat (first | refine WL_nil ?_ | refine zq0 (by first | exact QV_bin rfl rfl t0 | exact QV_bin rfl rfl t1 | exact QV_bin rfl rfl t2 | exact QV_bin rfl rfl t3 | exact QV_bin rfl rfl u3 | exact q_negE rfl nG | exact qv9 | exact QV_indexA rfl rfl rfl (by decide) | exact QV_lenA rfl) ?_ | refine zq1 ?_ | refine zq2 ?_ | refine zq3 ?_ | refine zq4 ?_ | refine zq5 ?_ | refine zq6 ?_ | refine wN rfl ?_))
                refine W_rounds 5 ?_
                (repeat (first | refine WL_nil ?_ | refine zq0 (by first | exact qv9 | exact QV_indexA rfl rfl rfl (by decide) | exact QV_div rfl rfl hD1 q0 | exact QV_div rfl rfl hD1 q1 | exact QV_div rfl rfl hD1 q2 | exact QV_div rfl rfl hD1 q3) ?_ | refine zq1 ?_ | refine zq2 ?_ | refine zq3 ?_ | refine zq4 ?_ | refine zq5 ?_ | refine zq6 ?_ | refine wN rfl ?_))
                refine Exists.intro (⟨[(8, .own 39 3 1 (([f0, -f1, f2, -f3].map fun x : Int => x.tdiv (-(G : Int))).map iRow))], [], [39, 18]⟩ : St) ⟨weak_freeze rfl 39 3 1 (([f0, -f1, f2, -f3].map fun x : Int => x.tdiv (-(G : Int))).map iRow) rfl (iR_len _) (by rw [← (show (4 : Nat) = ((([f0, -f1, f2, -f3].map fun x : Int => x.tdiv (-(G : Int))).map iRow) : List (List AV)).length from rfl)]; exact (show (4 : Nat) ≤ 1048576 by decide)) (iR_D _) (by simp) ⟨.inl ⟨congrArg (AV.arr 39 3 1) (show (4 : Nat) = ((([f0, -f1, f2, -f3].map fun x : Int => x.tdiv (-(G : Int))).map iRow) : List (List AV)).length from rfl), rfl⟩, trivial⟩ (by simp) rfl trivial (by simp) (by simp) rfl rfl rfl (fun _ _ _ h => h), Exists.intro _ ⟨resA_tmp rfl rfl, ?_, rfl⟩⟩
                simp only [decide_eq_false z]
                rfl
              · have u3 : abin .lss .i64 (-f3) 0 = some (.bool false) := by simp only [abin, decide_eq_false s3]
                have eD2 : D = (G : Int) := by rw [eD']; simp only [sgF]; rw [if_pos z0]; rw [if_pos z1]; rw [if_pos z2]; rw [if_neg z3]; rw [if_neg s3]; omega
                subst eD2
                have q0 := quo_at (a := f0) (b := (G : Int)) (by omega)
                have q1 := quo_at (a := -f1) (b := (G : Int)) (by omega)
                have q2 := quo_at (a := f2) (b := (G : Int)) (by omega)
                have q3 := quo_at (a := -f3) (b := (G : Int)) (by omega)
                refine W_rounds 5 ?_
                (repeat (first | refine WL_nil ?_ | refine zq0 (by first | exact QV_bin rfl rfl t0 | exact QV_bin rfl rfl t1 | exact QV_bin rfl rfl t2 | exact QV_bin rfl rfl t3 | exact QV_bin rfl rfl u3 | exact qv9 | exact QV_indexA rfl rfl rfl (by decide) | exact QV_lenA rfl) ?_ | refine zq1 ?_ | refine zq2 ?_ | refine zq3 ?_ | refine zq4 ?_ | refine zq5 ?_ | refine zq6 ?_ | refine wN rfl ?_))
                refine W_rounds 5 ?_
                (repeat (first | refine WL_nil ?_ | refine zq0 (by first | exact qv9 | exact QV_indexA rfl rfl rfl (by decide) | exact QV_div rfl rfl hD0 q0 | exact QV_div rfl rfl hD0 q1 | exact QV_div rfl rfl hD0 q2 | exact QV_div rfl rfl hD0 q3) ?_ | refine zq1 ?_ | refine zq2 ?_ | refine zq3 ?_ | refine zq4 ?_ | refine zq5 ?_ | refine zq6 ?_ | refine wN rfl ?_))
                refine Exists.intro (⟨[(8, .own 39 3 1 (([f0, -f1, f2, -f3].map fun x : Int => x.tdiv ((G : Int))).map iRow))], [], [39, 18]⟩ : St) ⟨weak_freeze rfl 39 3 1 (([f0, -f1, f2, -f3].map fun x : Int => x.tdiv ((G : Int))).map iRow) rfl (iR_len _) (by rw [← (show (4 : Nat) = ((([f0, -f1, f2, -f3].map fun x : Int => x.tdiv ((G : Int))).map iRow) : List (List AV)).length from rfl)]; exact (show (4 : Nat) ≤ 1048576 by decide)) (iR_D _) (by simp) ⟨.inl ⟨congrArg (AV.arr 39 3 1) (show (4 : Nat) = ((([f0, -f1, f2, -f3].map fun x : Int => x.tdiv ((G : Int))).map iRow) : List (List AV)).length from rfl), rfl⟩, trivial⟩ (by simp) rfl trivial (by simp) (by simp) rfl rfl rfl (fun _ _ _ h => h), Exists.intro _ ⟨resA_tmp rfl rfl, ?_, rfl⟩⟩
                simp only [decide_eq_false z]
                rfl
          · have t2 : abin .neq .i64 (f2) 0 = some (.bool true) := by simp only [abin, Option.some.injEq, Value.bool.injEq, bne_iff_ne]; exact z2
            by_cases s2 : f2 < 0
            · have u2 : abin .lss .i64 (f2) 0 = some (.bool true) := by simp only [abin, decide_eq_true s2]
              have eD2 : D = -(G : Int) := by rw [eD']; simp only [sgF]; rw [if_pos z0]; rw [if_pos z1]; rw [if_neg z2]; rw [if_pos s2]; omega
              subst eD2
              have q0 := quo_at (a := f0) (b := -(G : Int)) (by omega)
              have q1 := quo_at (a := -f1) (b := -(G : Int)) (by omega)
              have q2 := quo_at (a := f2) (b := -(G : Int)) (by omega)
              have q3 := quo_at (a := -f3) (b := -(G : Int)) (by omega)
              refine W_rounds 5 ?_
              (repeat (first | refine WL_nil ?_ | refine zq0 (by first | exact QV_bin rfl rfl t0 | exact QV_bin rfl rfl t1 | exact QV_bin rfl rfl t2 | exact QV_bin rfl rfl u2 | exact q_negE rfl nG | exact qv9 | exact QV_indexA rfl rfl rfl (by decide) | exact QV_lenA rfl) ?_ | refine zq1 ?_ | refine zq2 ?_ | refine zq3 ?_ | refine zq4 ?_ | refine zq5 ?_ | refine zq6 ?_ | refine wN rfl ?_))
              refine W_rounds 5 ?_
              (repeat (first | refine WL_nil ?_ | refine zq0 (by first | exact qv9 | exact QV_indexA rfl rfl rfl (by decide) | exact QV_div rfl rfl hD1 q0 | exact QV_div rfl rfl hD1 q1 | exact QV_div rfl rfl hD1 q2 | exact QV_div rfl rfl hD1 q3) ?_ | refine zq1 ?_ | refine zq2 ?_ | refine zq3 ?_ | refine zq4 ?_ | refine zq5 ?_ | refine zq6 ?_ | refine wN rfl ?_))
              refine Exists.intro (⟨[(8, .own 39 3 1 (([f0, -f1, f2, -f3].map fun x : Int => x.tdiv (-(G : Int))).map iRow))], [], [39, 18]⟩ : St) ⟨weak_freeze rfl 39 3 1 (([f0, -f1, f2, -f3].map fun x : Int => x.tdiv (-(G : Int))).map iRow) rfl (iR_len _) (by rw [← (show (4 : Nat) = ((([f0, -f1, f2, -f3].map fun x : Int => x.tdiv (-(G : Int))).map iRow) : List (List AV)).length from rfl)]; exact (show (4 : Nat) ≤ 1048576 by decide)) (iR_D _) (by simp) ⟨.inl ⟨congrArg (AV.arr 39 3 1) (show (4 : Nat) = ((([f0, -f1, f2, -f3].map fun x : Int => x.tdiv (-(G : Int))).map iRow) : List (List AV)).length from rfl), rfl⟩, trivial⟩ (by simp) rfl trivial (by simp) (by simp) rfl rfl rfl (fun _ _ _ h => h), Exists.intro _ ⟨resA_tmp rfl rfl, ?_, rfl⟩⟩
              simp only [decide_eq_false z]
              rfl
            · have u2 : abin .lss .i64 (f2) 0 = some (.bool false) := by simp only [abin, decide_eq_false s2]
              have eD2 : D = (G : Int) := by rw [eD']; simp only [sgF]; rw [if_pos z0]; rw [if_pos z1]; rw [if_neg z2]; rw [if_neg s2]; omega
              subst eD2
              have q0 := quo_at (a := f0) (b := (G : Int)) (by omega)
              have q1 := quo_at (a := -f1) (b := (G : Int)) (by omega)
              have q2 := quo_at (a := f2) (b := (G : Int)) (by omega)
              have q3 := quo_at (a := -f3) (b := (G : Int)) (by omega)
              refine W_rounds 5 ?_
              (repeat (first | refine WL_nil ?_ | refine zq0 (by first | exact QV_bin rfl rfl t0 | exact QV_bin rfl rfl t1 | exact QV_bin rfl rfl t2 | exact QV_bin rfl rfl u2 | exact qv9 | exact QV_indexA rfl rfl rfl (by decide) | exact QV_lenA rfl) ?_ | refine zq1 ?_ | refine zq2 ?_ | refine zq3 ?_ | refine zq4 ?_ | refine zq5 ?_ | refine zq6 ?_ | refine wN rfl ?_))
              refine W_rounds 5 ?_
              (repeat (first | refine WL_nil ?_ | refine zq0 (by first | exact qv9 | exact QV_indexA rfl rfl rfl (by decide) | exact QV_div rfl rfl hD0 q0 | exact QV_div rfl rfl hD0 q1 | exact QV_div rfl rfl hD0 q2 | exact QV_div rfl rfl hD0 q3) ?_ | refine zq1 ?_ | refine zq2 ?_ | refine zq3 ?_ | refine zq4 ?_ | refine zq5 ?_ | refine zq6 ?_ | refine wN rfl ?_))
              refine Exists.intro (⟨[(8, .own 39 3 1 (([f0, -f1, f2, -f3].map fun x : Int => x.tdiv ((G : Int))).map iRow))], [], [39, 18]⟩ : St) ⟨weak_freeze rfl 39 3 1 (([f0, -f1, f2, -f3].map fun x : Int => x.tdiv ((G : Int))).map iRow) rfl (iR_len _) (by rw [← (show (4 : Nat) = ((([f0, -f1, f2, -f3].map fun x : Int => x.tdiv ((G : Int))).map iRow) : List (List AV)).length from rfl)]; exact (show (4 : Nat) ≤ 1048576 by decide)) (iR_D _) (by simp) ⟨.inl ⟨congrArg (AV.arr 39 3 1) (show (4 : Nat) = ((([f0, -f1, f2, -f3].map fun x : Int => x.tdiv ((G : Int))).map iRow) : List (List AV)).length from rfl), rfl⟩, trivial⟩ (by simp) rfl trivial (by simp) (by simp) rfl rfl rfl (fun _ _ _ h => h), Exists.intro _ ⟨resA_tmp rfl rfl, ?_, rfl⟩⟩
              simp only [decide_eq_false z]
              rfl
        · have t1 : abin .neq .i64 (-f1) 0 = some (.bool true) := by simp only [abin, Option.some.injEq, Value.bool.injEq, bne_iff_ne]; exact z1
          by_cases s1 : -f1 < 0
          · have u1 : abin .lss .i64 (-f1) 0 = some (.bool true) := by simp only [abin, decide_eq_true s1]
            have eD2 : D = -(G : Int) := by rw [eD']; simp only [sgF]; rw [if_pos z0]; rw [if_neg z1]; rw [if_pos s1]; omega
            subst eD2
            have q0 := quo_at (a := f0) (b := -(G : Int)) (by omega)
            have q1 := quo_at (a := -f1) (b := -(G : Int)) (by omega)
            have q2 := quo_at (a := f2) (b := -(G : Int)) (by omega)
            have q3 := quo_at (a := -f3) (b := -(G : Int)) (by omega)
            refine W_rounds 5 ?_
            (repeat (first | refine WL_nil ?_ | refine zq0 (by first | exact QV_bin rfl rfl t0 | exact QV_bin rfl rfl t1 | exact QV_bin rfl rfl u1 | exact q_negE rfl nG | exact qv9 | exact QV_indexA rfl rfl rfl (by decide) | exact QV_lenA rfl) ?_ | refine zq1 ?_ | refine zq2 ?_ | refine zq3 ?_ | refine zq4 ?_ | refine zq5 ?_ | refine zq6 ?_ | refine wN rfl ?_))
            refine W_rounds 5 ?_
            (repeat (first | refine WL_nil ?_ | refine zq0 (by first | exact qv9 | exact QV_indexA rfl rfl rfl (by decide) | exact QV_div rfl rfl hD1 q0 | exact QV_div rfl rfl hD1 q1 | exact QV_div rfl rfl hD1 q2 | exact QV_div rfl rfl hD1 q3) ?_ | refine zq1 ?_ | refine zq2 ?_ | refine zq3 ?_ | refine zq4 ?_ | refine zq5 ?_ | refine zq6 ?_ | refine wN rfl ?_))
            refine Exists.intro (⟨[(8, .own 39 3 1 (([f0, -f1, f2, -f3].map fun x : Int => x.tdiv (-(G : Int))).map iRow))], [], [39, 18]⟩ : St) ⟨weak_freeze rfl 39 3 1 (([f0, -f1, f2, -f3].map fun x : Int => x.tdiv (-(G : Int))).map iRow) rfl (iR_len _) (by rw [← (show (4 : Nat) = ((([f0, -f1, f2, -f3].map fun x : Int => x.tdiv (-(G : Int))).map iRow) : List (List AV)).length from rfl)]; exact (show (4 : Nat) ≤ 1048576 by decide)) (iR_D _) (by simp) ⟨.inl ⟨congrArg (AV.arr 39 3 1) (show (4 : Nat) = ((([f0, -f1, f2, -f3].map fun x : Int => x.tdiv (-(G : Int))).map iRow) : List (List AV)).length from rfl), rfl⟩, trivial⟩ (by simp) rfl trivial (by simp) (by simp) rfl rfl rfl (fun _ _ _ h => h), Exists.intro _ ⟨resA_tmp rfl rfl, ?_, rfl⟩⟩
            simp only [decide_eq_false z]
            rfl
          · have u1 : abin .lss .i64 (-f1) 0 = some (.bool false) := by simp only [abin, decide_eq_false s1]
            have eD2 : D = (G : Int) := by rw [eD']; simp only [sgF]; rw [if_pos z0]; rw [if_neg z1]; rw [if_neg s1]; omega
            subst eD2
            have q0 := quo_at (a := f0) (b := (G : Int)) (by omega)
            have q1 := quo_at (a := -f1) (b := (G : Int)) (by omega)
            have q2 := quo_at (a := f2) (b := (G : Int)) (by omega)
            have q3 := quo_at (a := -f3) (b := (G : Int)) (by omega)
            refine W_rounds 5 ?_
            (repeat (first | refine WL_nil ?_ | refine zq0 (by first | exact QV_bin rfl rfl t0 | exact QV_bin rfl rfl t1 | exact QV_bin rfl rfl u1 | exact qv9 | exact QV_indexA rfl rfl rfl (by decide) | exact QV_lenA rfl) ?_ | refine zq1 ?_ | refine zq2 ?_ | refine zq3 ?_ | refine zq4 ?_ | refine zq5 ?_ | refine zq6 ?_ | refine wN rfl ?_))
            refine W_rounds 5 ?_
            (repeat (first | refine WL_nil ?_ | refine zq0 (by first | exact qv9 | exact QV_indexA rfl rfl rfl (by decide) | exact QV_div rfl rfl hD0 q0 | exact QV_div rfl rfl hD0 q1 | exact QV_div rfl rfl hD0 q2 | exact QV_div rfl rfl hD0 q3) ?_ | refine zq1 ?_ | refine zq2 ?_ | refine zq3 ?_ | refine zq4 ?_ | refine zq5 ?_ | refine zq6 ?_ | refine wN rfl ?_))
            refine Exists.intro (⟨[(8, .own 39 3 1 (([f0, -f1, f2, -f3].map fun x : Int => x.tdiv ((G : Int))).map iRow))], [], [39, 18]⟩ : St) ⟨weak_freeze rfl 39 3 1 (([f0, -f1, f2, -f3].map fun x : Int => x.tdiv ((G : Int))).map iRow) rfl (iR_len _) (by rw [← (show (4 : Nat) = ((([f0, -f1, f2, -f3].map fun x : Int => x.tdiv ((G : Int))).map iRow) : List (List AV)).length from rfl)]; exact (show (4 : Nat) ≤ 1048576 by decide)) (iR_D _) (by simp) ⟨.inl ⟨congrArg (AV.arr 39 3 1) (show (4 : Nat) = ((([f0, -f1, f2, -f3].map fun x : Int => x.tdiv ((G : Int))).map iRow) : List (List AV)).length from rfl), rfl⟩, trivial⟩ (by simp) rfl trivial (by simp) (by simp) rfl rfl rfl (fun _ _ _ h => h), Exists.intro _ ⟨resA_tmp rfl rfl, ?_, rfl⟩⟩
            simp only [decide_eq_false z]
            rfl
      · have t0 : abin .neq .i64 (f0) 0 = some (.bool true) := by simp only [abin, Option.some.injEq, Value.bool.injEq, bne_iff_ne]; exact z0
        by_cases s0 : f0 < 0
        · have u0 : abin .lss .i64 (f0) 0 = some (.bool true) := by simp only [abin, decide_eq_true s0]
          have eD2 : D = -(G : Int) := by rw [eD']; simp only [sgF]; rw [if_neg z0]; rw [if_pos s0]; omega
          subst eD2
          have q0 := quo_at (a := f0) (b := -(G : Int)) (by omega)
          have q1 := quo_at (a := -f1) (b := -(G : Int)) (by omega)
          have q2 := quo_at (a := f2) (b := -(G : Int)) (by omega)
          have q3 := quo_at (a := -f3) (b := -(G : Int)) (by omega)
          refine W_rounds 5 ?_
          (repeat (first | refine WL_nil ?_ | refine zq0 (by first | exact QV_bin rfl rfl t0 | exact QV_bin rfl rfl u0 | exact q_negE rfl nG | exact qv9 | exact QV_indexA rfl rfl rfl (by decide) | exact QV_lenA rfl) ?_ | refine zq1 ?_ | refine zq2 ?_ | refine zq3 ?_ | refine zq4 ?_ | refine zq5 ?_ | refine zq6 ?_ | refine wN rfl ?_))
          refine W_rounds 5 ?_
          (repeat (first | refine WL_nil ?_ | refine zq0 (by first | exact qv9 | exact QV_indexA rfl rfl rfl (by decide) | exact QV_div rfl rfl hD1 q0 | exact QV_div rfl rfl hD1 q1 | exact QV_div rfl rfl hD1 q2 | exact QV_div rfl rfl hD1 q3) ?_ | refine zq1 ?_ | refine zq2 ?_ | refine zq3 ?_ | refine zq4 ?_ | refine zq5 ?_ | refine zq6 ?_ | refine wN rfl ?_))
          refine Exists.intro (⟨[(8, .own 39 3 1 (([f0, -f1, f2, -f3].map fun x : Int => x.tdiv (-(G : Int))).map iRow))], [], [39, 18]⟩ : St) ⟨weak_freeze rfl 39 3 1 (([f0, -f1, f2, -f3].map fun x : Int => x.tdiv (-(G : Int))).map iRow) rfl (iR_len _) (by rw [← (show (4 : Nat) = ((([f0, -f1, f2, -f3].map fun x : Int => x.tdiv (-(G : Int))).map iRow) : List (List AV)).length from rfl)]; exact (show (4 : Nat) ≤ 1048576 by decide)) (iR_D _) (by simp) ⟨.inl ⟨congrArg (AV.arr 39 3 1) (show (4 : Nat) = ((([f0, -f1, f2, -f3].map fun x : Int => x.tdiv (-(G : Int))).map iRow) : List (List AV)).length from rfl), rfl⟩, trivial⟩ (by simp) rfl trivial (by simp) (by simp) rfl rfl rfl (fun _ _ _ h => h), Exists.intro _ ⟨resA_tmp rfl rfl, ?_, rfl⟩⟩
          simp only [decide_eq_false z]
          rfl
        · have u0 : abin .lss .i64 (f0) 0 = some (.bool false) := by simp only [abin, decide_eq_false s0]
          have eD2 : D = (G : Int) := by rw [eD']; simp only [sgF]; rw [if_neg z0]; rw [if_neg s0]; omega
          subst eD2
          have q0 := quo_at (a := f0) (b := (G : Int)) (by omega)
          have q1 := quo_at (a := -f1) (b := (G : Int)) (by omega)
          have q2 := quo_at (a := f2) (b := (G : Int)) (by omega)
          have q3 := quo_at (a := -f3) (b := (G : Int)) (by omega)
          refine W_rounds 5 ?_
          (repeat (first | refine WL_nil ?_ | refine zq0 (by first | exact QV_bin rfl rfl t0 | exact QV_bin rfl rfl u0 | exact qv9 | exact QV_indexA rfl rfl rfl (by decide) | exact QV_lenA rfl) ?_ | refine zq1 ?_ | refine zq2 ?_ | refine zq3 ?_ | refine zq4 ?_ | refine zq5 ?_ | refine zq6 ?_ | refine wN rfl ?_))
          refine W_rounds 5 ?_
          (repeat (first | refine WL_nil ?_ | refine zq0 (by first | exact qv9 | exact QV_indexA rfl rfl rfl (by decide) | exact QV_div rfl rfl hD0 q0 | exact QV_div rfl rfl hD0 q1 | exact QV_div rfl rfl hD0 q2 | exact QV_div rfl rfl hD0 q3) ?_ | refine zq1 ?_ | refine zq2 ?_ | refine zq3 ?_ | refine zq4 ?_ | refine zq5 ?_ | refine zq6 ?_ | refine wN rfl ?_))
          refine Exists.intro (⟨[(8, .own 39 3 1 (([f0, -f1, f2, -f3].map fun x : Int => x.tdiv ((G : Int))).map iRow))], [], [39, 18]⟩ : St) ⟨weak_freeze rfl 39 3 1 (([f0, -f1, f2, -f3].map fun x : Int => x.tdiv ((G : Int))).map iRow) rfl (iR_len _) (by rw [← (show (4 : Nat) = ((([f0, -f1, f2, -f3].map fun x : Int => x.tdiv ((G : Int))).map iRow) : List (List AV)).length from rfl)]; exact (show (4 : Nat) ≤ 1048576 by decide)) (iR_D _) (by simp) ⟨.inl ⟨congrArg (AV.arr 39 3 1) (show (4 : Nat) = ((([f0, -f1, f2, -f3].map fun x : Int => x.tdiv ((G : Int))).map iRow) : List (List AV)).length from rfl), rfl⟩, trivial⟩ (by simp) rfl trivial (by simp) (by simp) rfl rfl rfl (fun _ _ _ h => h), Exists.intro _ ⟨resA_tmp rfl rfl, ?_, rfl⟩⟩
          simp only [decide_eq_false z]
          rfl
end Go.Proofs.YtpcahgedkmgllaaGreat

namespace Go.Proofs.YtpcahgedkmgllaaGreat
open Go.Eng
set_option maxRecDepth 100000
attribute [local irreducible] QV TV WL HW W CallOk Weak

def ascAt (lo hi : Int) (l : List Int) (k : Nat) : Bool := inR (iat l k) lo hi && !(decide (0 < k) && decide (iat l k ≤ iat l (k - 1)))
def ascB (lo hi : Int) (l : List Int) : Bool := (List.range l.length).all (ascAt lo hi l)
theorem ascending_ok (l : List Int) (lo hi : Int) (hn : l.length ≤ 1048576) : CallOk Tryz.prog 43 [slI l, vi lo, vi hi] (fun r => r = vb (ascB lo hi l)) := by
  unfold ascB
  refine callOk Tryz.func43 Tryz.ntmps43 Tryz.results43 rfl rfl rfl fun B w0 M I0 V0 => ?_
  (repeat (first | refine WL_nil ?_ | refine zq0 qv9 ?_ | refine zq1 ?_ | refine zq2 ?_ | refine zq3 ?_ | refine zq4 ?_ | refine zq5 ?_ | refine zq6 ?_ | refine wN rfl ?_))
  refine W_loop (fun n s => ∃ k : Nat, k ≤ l.length ∧ n = l.length - k ∧ (List.range k).all (ascAt lo hi l) = true ∧ s = ⟨[(0, slI l), (1, vi lo), (2, vi hi), (9, slI l), (10, vi l.length), (11, vi k)], [], []⟩) ⟨_, _, ⟨0, by omega, rfl, rfl, rfl⟩, wkA⟩ ?_
  rintro n s ⟨k, hk, rfl, hall, rfl⟩
  by_cases hlt : k < l.length
  · have hp := iat_lt hlt
    have hw := within_ok (iat l k) lo hi
    (repeat (first | refine WL_nil ?_ | refine zq0 qv9 ?_ | refine zq1 ?_ | refine zq2 ?_ | refine zq3 ?_ | refine zq4 ?_ | refine zq5 ?_ | refine zq6 ?_ | refine wN rfl ?_))
    (refine W_cond rfl (fun hc => ?_) (fun hc => ?_))
    · cases e : inR (iat l k) lo hi
      · rw [e] at hw
        (repeat (first | refine WL_nil ?_ | refine zq0 (by first | exact qv9 | exact q_callA (hw) | exact QV_indexAddr rfl rfl rfl rfl (row_at hp)) ?_ | refine zq1 ?_ | refine zq2 ?_ | refine zq3 ?_ | refine zq4 ?_ | refine zq5 ?_ | refine zq6 ?_ | refine wN rfl ?_))
        refine Exists.intro _ ⟨Weak.refl _, Exists.intro _ ⟨resA_tmp rfl rfl, ?_, rfl⟩⟩
        exact vb_eq (all_range_false hlt (by simp [ascAt, e])).symm
      · rw [e] at hw
        cases k with
        | zero =>
          (repeat (first | refine WL_nil ?_ | refine zq0 (by first | exact qv9 | exact q_callA (hw) | exact QV_indexAddr rfl rfl rfl rfl (row_at hp)) ?_ | refine zq1 ?_ | refine zq2 ?_ | refine zq3 ?_ | refine zq4 ?_ | refine zq5 ?_ | refine zq6 ?_ | refine wN rfl ?_))
          refine Exists.intro _ (Exists.intro _ ⟨?_, ⟨1, by omega, rfl, by simp [ascAt, e, List.range_succ], rfl⟩, wkA⟩)
          omega
        | succ j =>
          have hq := iat_lt (show j < l.length by omega)
          have g1 : abin .gtr .i64 ((j + 1 : Nat) : Int) 0 = some (.bool true) := by simp only [abin]; rw [decide_eq_true (by omega)]
          by_cases c : iat l (j + 1) ≤ iat l j
          · have g2 : abin .geq .i64 (iat l j) (iat l (j + 1)) = some (.bool true) := by simp [abin]; omega
            (repeat (first | refine WL_nil ?_ | refine zq0 (by first | exact QV_bin rfl rfl g1 | exact QV_bin rfl rfl g2 | exact qv9 | exact q_callA (hw) | exact QV_indexAddr rfl rfl rfl rfl (row_at hp) | exact QV_indexAddr rfl rfl rfl (pred_at j) (row_at hq)) ?_ | refine zq1 ?_ | refine zq2 ?_ | refine zq3 ?_ | refine zq4 ?_ | refine zq5 ?_ | refine zq6 ?_ | refine wN rfl ?_))
            refine Exists.intro _ ⟨Weak.refl _, Exists.intro _ ⟨resA_tmp rfl rfl, ?_, rfl⟩⟩
            exact vb_eq (all_range_false hlt (by simp [ascAt, c])).symm
          · have g2 : abin .geq .i64 (iat l j) (iat l (j + 1)) = some (.bool false) := by simp [abin]; omega
            (repeat (first | refine WL_nil ?_ | refine zq0 (by first | exact QV_bin rfl rfl g1 | exact QV_bin rfl rfl g2 | exact qv9 | exact q_callA (hw) | exact QV_indexAddr rfl rfl rfl rfl (row_at hp) | exact QV_indexAddr rfl rfl rfl (pred_at j) (row_at hq)) ?_ | refine zq1 ?_ | refine zq2 ?_ | refine zq3 ?_ | refine zq4 ?_ | refine zq5 ?_ | refine zq6 ?_ | refine wN rfl ?_))
            refine Exists.intro _ (Exists.intro _ ⟨?_, ⟨j + 2, by omega, rfl, by rw [all_range_succ, hall]; simp [ascAt, e]; omega, rfl⟩, wkA⟩)
            omega
    · simp at hc; omega
  · (repeat (first | refine WL_nil ?_ | refine zq0 qv9 ?_ | refine zq1 ?_ | refine zq2 ?_ | refine zq3 ?_ | refine zq4 ?_ | refine zq5 ?_ | refine zq6 ?_ | refine wN rfl ?_))
    (refine W_cond rfl (fun hc => ?_) (fun hc => ?_))
    · simp at hc; omega
    · have hk' : k = l.length := by omega
      subst hk'
      (repeat (first | refine WL_nil ?_ | refine zq0 qv9 ?_ | refine zq1 ?_ | refine zq2 ?_ | refine zq3 ?_ | refine zq4 ?_ | refine zq5 ?_ | refine zq6 ?_ | refine wN rfl ?_))
      refine Exists.intro _ ⟨Weak.refl _, Exists.intro _ ⟨resA_tmp rfl rfl, ?_, rfl⟩⟩
      rw [hall]
      rfl
def pfAt (n : Nat) (ks fs : List Int) (k : Nat) : Bool := ascAt 0 (n - 1) ks k && inR (iat fs k) 1 1000000
def pfHd (rs : List Rw) (ks fs : List Int) : Bool := !decide (40 < rs.length) && (inR ks.length 1 4 && decide (fs.length = ks.length))
def pfB (rs : List Rw) (ks fs : List Int) : Bool := pfHd rs ks fs && (rs.all rowB && (List.range ks.length).all (pfAt rs.length ks fs))
theorem pf_split (n : Nat) (ks fs : List Int) : (List.range ks.length).all (pfAt n ks fs) = (ascB 0 (n - 1) ks && (List.range ks.length).all fun k => inR (iat fs k) 1 1000000) := by
  unfold ascB
  generalize ks.length = m
  induction m with
  | zero => rfl
  | succ m ih =>
    rw [all_range_succ, all_range_succ, all_range_succ, ih]
    simp only [pfAt]
    cases (List.range m).all (ascAt 0 (n - 1) ks) <;> cases ascAt 0 (n - 1) ks m <;> cases inR (iat fs m) 1 1000000 <;> cases (List.range m).all (fun k => inR (iat fs k) 1 1000000) <;> rfl
set_option maxHeartbeats 4000000 in
theorem implProofOk_ok (rs : List Rw) (ks fs : List Int) (hr : rs.length ≤ 1048576) (hn : ks.length ≤ 1048576) (hf : fs.length ≤ 1048576) : CallOk Tryz.prog 25 [slRw rs, .agg [slI ks, slI fs]] (fun r => r = vb (pfB rs ks fs)) := by
  have hw := within_ok ks.length 1 4
  have hro := rowsOk_ok rs hr
  have has := ascending_ok ks 0 (rs.length - 1) hn
  unfold pfB
  rw [pf_split]
  refine callOk Tryz.func25 Tryz.ntmps25 Tryz.results25 rfl rfl rfl fun B w0 M I0 V0 => ?_
  by_cases c1 : 40 < rs.length
  · have g1 : abin .gtr .i64 (rs.length : Int) 40 = some (.bool true) := by simp [abin]; omega
    (repeat (first | refine WL_nil ?_ | refine zq0 (by first | exact QV_bin rfl rfl g1 | exact qv9) ?_ | refine zq1 ?_ | refine zq2 ?_ | refine zq3 ?_ | refine zq4 ?_ | refine zq5 ?_ | refine zq6 ?_ | refine wN rfl ?_))
    refine Exists.intro _ ⟨Weak.refl _, Exists.intro _ ⟨resA_tmp rfl rfl, ?_, rfl⟩⟩
    exact vb_eq (by simp [pfHd, c1])
  · have g1 : abin .gtr .i64 (rs.length : Int) 40 = some (.bool false) := by simp [abin]; omega
    cases e1 : rs.all rowB
    · rw [e1] at hro
      (repeat (first | refine WL_nil ?_ | refine zq0 (by first | exact QV_bin rfl rfl g1 | exact qv9 | exact q_callA (hro)) ?_ | refine zq1 ?_ | refine zq2 ?_ | refine zq3 ?_ | refine zq4 ?_ | refine zq5 ?_ | refine zq6 ?_ | refine wN rfl ?_))
      refine Exists.intro _ ⟨Weak.refl _, Exists.intro _ ⟨resA_tmp rfl rfl, ?_, rfl⟩⟩
      exact vb_eq (by simp)
    · rw [e1] at hro
      cases c2 : inR ks.length 1 4
      · rw [c2] at hw
        (repeat (first | refine WL_nil ?_ | refine zq0 (by first | exact QV_bin rfl rfl g1 | exact qv9 | exact q_callA (hro) | exact q_callA (hw)) ?_ | refine zq1 ?_ | refine zq2 ?_ | refine zq3 ?_ | refine zq4 ?_ | refine zq5 ?_ | refine zq6 ?_ | refine wN rfl ?_))
        refine Exists.intro _ ⟨Weak.refl _, Exists.intro _ ⟨resA_tmp rfl rfl, ?_, rfl⟩⟩
        exact vb_eq (by simp [pfHd, c2])
      · rw [c2] at hw
        cases a1 : ascB 0 (rs.length - 1) ks
        · rw [a1] at has
          (repeat (first | refine WL_nil ?_ | refine zq0 (by first | exact QV_bin rfl rfl g1 | exact qv9 | exact q_callA (hro) | exact q_callA (hw) | exact q_callA (has)) ?_ | refine zq1 ?_ | refine zq2 ?_ | refine zq3 ?_ | refine zq4 ?_ | refine zq5 ?_ | refine zq6 ?_ | refine wN rfl ?_))
          refine Exists.intro _ ⟨Weak.refl _, Exists.intro _ ⟨resA_tmp rfl rfl, ?_, rfl⟩⟩
          exact vb_eq (by simp)
        · rw [a1] at has
          by_cases c3 : fs.length = ks.length
          · have g3 : abin .neq .i64 (fs.length : Int) (ks.length : Int) = some (.bool false) := by simp [abin]; omega
            have hhd : pfHd rs ks fs = true := by simp [pfHd, c1, c2, c3]
            rw [hhd, Bool.true_and, Bool.true_and, Bool.true_and]
            (repeat (first | refine WL_nil ?_ | refine zq0 (by first | exact QV_bin rfl rfl g1 | exact QV_bin rfl rfl g3 | exact qv9 | exact q_callA (hro) | exact q_callA (hw) | exact q_callA (has)) ?_ | refine zq1 ?_ | refine zq2 ?_ | refine zq3 ?_ | refine zq4 ?_ | refine zq5 ?_ | refine zq6 ?_ | refine wN rfl ?_))
            refine W_loop (fun n s => ∃ k : Nat, k ≤ fs.length ∧ n = fs.length - k ∧ (List.range k).all (fun k => inR (iat fs k) 1 1000000) = true ∧ s = ⟨[(41, slI fs), (42, vi fs.length), (43, vi k)], [], []⟩) ⟨_, _, ⟨0, by omega, rfl, rfl, rfl⟩, wkA⟩ ?_
            rintro n s ⟨k, hk, rfl, hall, rfl⟩
            by_cases hlt : k < fs.length
            · have hp := iat_lt hlt
              have hw2 := within_ok (iat fs k) 1 1000000
              (repeat (first | refine WL_nil ?_ | refine zq0 qv9 ?_ | refine zq1 ?_ | refine zq2 ?_ | refine zq3 ?_ | refine zq4 ?_ | refine zq5 ?_ | refine zq6 ?_ | refine wN rfl ?_))
              (refine W_cond rfl (fun hc => ?_) (fun hc => ?_))
              · cases e2 : inR (iat fs k) 1 1000000
                · rw [e2] at hw2
                  (repeat (first | refine WL_nil ?_ | refine zq0 (by first | exact qv9 | exact q_callA (hw2) | exact QV_indexAddr rfl rfl rfl rfl (row_at hp)) ?_ | refine zq1 ?_ | refine zq2 ?_ | refine zq3 ?_ | refine zq4 ?_ | refine zq5 ?_ | refine zq6 ?_ | refine wN rfl ?_))
                  refine Exists.intro _ ⟨Weak.refl _, Exists.intro _ ⟨resA_tmp rfl rfl, ?_, rfl⟩⟩
                  exact vb_eq (all_range_false (by omega) e2).symm
                · rw [e2] at hw2
                  (repeat (first | refine WL_nil ?_ | refine zq0 (by first | exact qv9 | exact q_callA (hw2) | exact QV_indexAddr rfl rfl rfl rfl (row_at hp)) ?_ | refine zq1 ?_ | refine zq2 ?_ | refine zq3 ?_ | refine zq4 ?_ | refine zq5 ?_ | refine zq6 ?_ | refine wN rfl ?_))
                  refine Exists.intro _ (Exists.intro _ ⟨?_, ⟨k + 1, by omega, rfl, by rw [all_range_succ, hall, e2]; rfl, rfl⟩, wkA⟩)
                  omega
              · simp at hc; omega
            · (repeat (first | refine WL_nil ?_ | refine zq0 qv9 ?_ | refine zq1 ?_ | refine zq2 ?_ | refine zq3 ?_ | refine zq4 ?_ | refine zq5 ?_ | refine zq6 ?_ | refine wN rfl ?_))
              (refine W_cond rfl (fun hc => ?_) (fun hc => ?_))
              · simp at hc; omega
              · have hk' : k = fs.length := by omega
                subst hk'
                (repeat (first | refine WL_nil ?_ | refine zq0 qv9 ?_ | refine zq1 ?_ | refine zq2 ?_ | refine zq3 ?_ | refine zq4 ?_ | refine zq5 ?_ | refine zq6 ?_ | refine wN rfl ?_))
                refine Exists.intro _ ⟨Weak.refl _, Exists.intro _ ⟨resA_tmp rfl rfl, ?_, rfl⟩⟩
                rw [← c3, hall]
                rfl
          · have g3 : abin .neq .i64 (fs.length : Int) (ks.length : Int) = some (.bool true) := by simp [abin]; omega
            (repeat (first | refine WL_nil ?_ | refine zq0 (by first | exact QV_bin rfl rfl g1 | exact QV_bin rfl rfl g3 | exact qv9 | exact q_callA (hro) | exact q_callA (hw) | exact q_callA (has)) ?_ | refine zq1 ?_ | refine zq2 ?_ | refine zq3 ?_ | refine zq4 ?_ | refine zq5 ?_ | refine zq6 ?_ | refine wN rfl ?_))
            refine Exists.intro _ ⟨Weak.refl _, Exists.intro _ ⟨resA_tmp rfl rfl, ?_, rfl⟩⟩
            exact vb_eq (by simp [pfHd, c3])
end Go.Proofs.YtpcahgedkmgllaaGreat

namespace Go.Proofs.YtpcahgedkmgllaaGreat
open Go.Eng
set_option maxRecDepth 100000
attribute [local irreducible] QV TV WL HW W CallOk CallOkA Weak

def sumR (rs : List Rw) (ks fs : List Int) (g : Rw → Int) : Nat → Int
  | 0 => 0
  | k + 1 => sumR rs ks fs g k + iat fs k * g (wat rs (iat ks k).toNat)
def sumP (rs : List Rw) (ks fs : List Int) (g : Rw → Int) : Int := bif pfB rs ks fs then sumR rs ks fs g ks.length else 0
def ispB (rs : List Rw) (ks fs : List Int) : Bool := pfB rs ks fs && (decide (sumP rs ks fs Rw.a = 0) && (decide (sumP rs ks fs Rw.b = 0) && (decide (sumP rs ks fs Rw.c = 0) && decide (sumP rs ks fs Rw.d < 0))))
theorem pf_at {rs : List Rw} {ks fs : List Int} (h : pfB rs ks fs = true) {k : Nat} (hk : k < ks.length) : (0 ≤ iat ks k ∧ iat ks k < rs.length) ∧ (1 ≤ iat fs k ∧ iat fs k ≤ 1000000) ∧ fs.length = ks.length := by
  simp only [pfB, pfHd, Bool.and_eq_true, decide_eq_true_eq] at h
  have h1 := List.all_eq_true.1 h.2.2 k (List.mem_range.2 hk)
  simp only [pfAt, ascAt, Bool.and_eq_true] at h1
  have h2 := inR_true.1 h1.1.1
  have h3 := inR_true.1 h1.2
  exact ⟨by omega, h3, h.1.2.2⟩
theorem pf_len {rs : List Rw} {ks fs : List Int} (h : pfB rs ks fs = true) : 1 ≤ ks.length ∧ ks.length ≤ 4 ∧ rs.all rowB = true := by
  simp only [pfB, pfHd, Bool.and_eq_true, decide_eq_true_eq] at h
  have := inR_true.1 h.1.2.1
  exact ⟨by omega, by omega, h.2.1⟩
theorem wat_ok {rs : List Rw} (h : rs.all rowB = true) {i : Nat} (hi : i < rs.length) : rowB (wat rs i) = true := List.all_eq_true.1 h _ (List.mem_of_getElem? (wat_lt hi))
theorem term_bd {rs : List Rw} {ks fs : List Int} (h : pfB rs ks fs = true) {k : Nat} (hk : k < ks.length) {g : Rw → Int} {m : Int} (hg : ∀ r, rowB r = true → -m ≤ g r ∧ g r ≤ m) : -(1000000 * m) ≤ iat fs k * g (wat rs (iat ks k).toNat) ∧ iat fs k * g (wat rs (iat ks k).toNat) ≤ 1000000 * m := by
  obtain ⟨h1, h2, _⟩ := pf_at h hk
  have h3 := hg _ (wat_ok (pf_len h).2.2 (i := (iat ks k).toNat) (by omega))
  exact mul_bd (a := iat fs k) (m := 1000000) (by omega) h3
theorem row_a (r : Rw) (h : rowB r = true) : -1000000000 ≤ r.a ∧ r.a ≤ 1000000000 := by rw [rowB_true] at h; omega
theorem row_b (r : Rw) (h : rowB r = true) : -1000000000 ≤ r.b ∧ r.b ≤ 1000000000 := by rw [rowB_true] at h; omega
theorem row_c (r : Rw) (h : rowB r = true) : -1000000000 ≤ r.c ∧ r.c ≤ 1000000000 := by rw [rowB_true] at h; omega
theorem row_d (r : Rw) (h : rowB r = true) : -1000000000 ≤ r.d ∧ r.d ≤ 1000000000 := by rw [rowB_true] at h; omega
abbrev sumAv (rs : List Rw) (ks fs : List Int) : AV := .tup [vi (sumP rs ks fs Rw.a), vi (sumP rs ks fs Rw.b), vi (sumP rs ks fs Rw.c), vi (sumP rs ks fs Rw.d)]
set_option maxHeartbeats 2000000 in
theorem implIsProof_of (rs : List Rw) (ks fs : List Int) (hr : rs.length ≤ 1048576) (hn : ks.length ≤ 1048576) (hf : fs.length ≤ 1048576) (hsum : CallOkA Tryz.prog 24 [slRw rs, .agg [slI ks, slI fs]] (fun r => r = sumAv rs ks fs)) : CallOkA Tryz.prog 12 [slRw rs, .agg [slI ks, slI fs]] (fun r => r = vb (ispB rs ks fs)) := by
  have hpf := implProofOk_ok rs ks fs hr hn hf
  unfold ispB
  unfold sumAv at hsum
  obtain ⟨a, ea⟩ : ∃ a, a = sumP rs ks fs Rw.a := ⟨_, rfl⟩
  obtain ⟨b, eb⟩ : ∃ a, a = sumP rs ks fs Rw.b := ⟨_, rfl⟩
  obtain ⟨c, ec⟩ : ∃ a, a = sumP rs ks fs Rw.c := ⟨_, rfl⟩
  obtain ⟨d, ed⟩ : ∃ a, a = sumP rs ks fs Rw.d := ⟨_, rfl⟩
  rw [← ea, ← eb, ← ec, ← ed] at hsum ⊢
  refine callOkX Tryz.func12 Tryz.ntmps12 Tryz.results12 rfl rfl rfl fun B w0 M I0 V0 hal => ?_
  cases e : pfB rs ks fs
  · rw [e] at hpf
    (repeat (first | refine WL_nil ?_ | refine zq0 (by first | exact qv9 | exact q_callAX hal (hsum) | exact q_callA (hpf)) ?_ | refine zq1 ?_ | refine zq2 ?_ | refine zq3 ?_ | refine zq4 ?_ | refine zq5 ?_ | refine zq6 ?_ | refine wN rfl ?_))
    refine Exists.intro _ ⟨Weak.refl _, Exists.intro _ ⟨resA_tmp rfl rfl, ?_, rfl⟩⟩
    rfl
  · rw [e] at hpf
    by_cases za : a = 0
    · have ta : abin .eql .i64 a 0 = some (.bool true) := by simp [abin, za]
      by_cases zb : b = 0
      · have tb : abin .eql .i64 b 0 = some (.bool true) := by simp [abin, zb]
        by_cases zc : c = 0
        · have tc : abin .eql .i64 c 0 = some (.bool true) := by simp [abin, zc]
          have td : abin .lss .i64 d 0 = some (.bool (decide (d < 0))) := rfl
          (repeat (first | refine WL_nil ?_ | refine zq0 (by first | exact QV_bin rfl rfl ta | exact QV_bin rfl rfl tb | exact QV_bin rfl rfl tc | exact QV_bin rfl rfl td | exact qv9 | exact q_callAX hal (hsum) | exact q_callA (hpf)) ?_ | refine zq1 ?_ | refine zq2 ?_ | refine zq3 ?_ | refine zq4 ?_ | refine zq5 ?_ | refine zq6 ?_ | refine wN rfl ?_))
          refine Exists.intro _ ⟨Weak.refl _, Exists.intro _ ⟨resA_tmp rfl rfl, ?_, rfl⟩⟩
          exact vb_eq (by simp [za, zb, zc])
        · have tc : abin .eql .i64 c 0 = some (.bool false) := by simp [abin, zc]
          (repeat (first | refine WL_nil ?_ | refine zq0 (by first | exact QV_bin rfl rfl ta | exact QV_bin rfl rfl tb | exact QV_bin rfl rfl tc | exact qv9 | exact q_callAX hal (hsum) | exact q_callA (hpf)) ?_ | refine zq1 ?_ | refine zq2 ?_ | refine zq3 ?_ | refine zq4 ?_ | refine zq5 ?_ | refine zq6 ?_ | refine wN rfl ?_))
          refine Exists.intro _ ⟨Weak.refl _, Exists.intro _ ⟨resA_tmp rfl rfl, ?_, rfl⟩⟩
          exact vb_eq (by simp [zc])
      · have tb : abin .eql .i64 b 0 = some (.bool false) := by simp [abin, zb]
        (repeat (first | refine WL_nil ?_ | refine zq0 (by first | exact QV_bin rfl rfl ta | exact QV_bin rfl rfl tb | exact qv9 | exact q_callAX hal (hsum) | exact q_callA (hpf)) ?_ | refine zq1 ?_ | refine zq2 ?_ | refine zq3 ?_ | refine zq4 ?_ | refine zq5 ?_ | refine zq6 ?_ | refine wN rfl ?_))
        refine Exists.intro _ ⟨Weak.refl _, Exists.intro _ ⟨resA_tmp rfl rfl, ?_, rfl⟩⟩
        exact vb_eq (by simp [zb])
    · have ta : abin .eql .i64 a 0 = some (.bool false) := by simp [abin, za]
      (repeat (first | refine WL_nil ?_ | refine zq0 (by first | exact QV_bin rfl rfl ta | exact qv9 | exact q_callAX hal (hsum) | exact q_callA (hpf)) ?_ | refine zq1 ?_ | refine zq2 ?_ | refine zq3 ?_ | refine zq4 ?_ | refine zq5 ?_ | refine zq6 ?_ | refine wN rfl ?_))
      refine Exists.intro _ ⟨Weak.refl _, Exists.intro _ ⟨resA_tmp rfl rfl, ?_, rfl⟩⟩
      exact vb_eq (by simp [za])
end Go.Proofs.YtpcahgedkmgllaaGreat

namespace Go.Proofs.YtpcahgedkmgllaaGreat
open Go.Eng
set_option maxRecDepth 100000
attribute [local irreducible] QV TV WL HW W CallOk Weak

def selR (l f : List Int) (k : Nat) : List Int := ((List.range k).filter fun j => decide (0 < iat f j)).map fun j => iat l j
def selF (f : List Int) (k : Nat) : List Int := ((List.range k).filter fun j => decide (0 < iat f j)).map fun j => iat f j
theorem sel_in {l f : List Int} {k : Nat} (h : 0 < iat f k) : selR l f (k + 1) = selR l f k ++ [iat l k] ∧ selF f (k + 1) = selF f k ++ [iat f k] := by
  simp [selR, selF, List.range_succ, List.filter_append, h]
theorem sel_out {l f : List Int} {k : Nat} (h : ¬ 0 < iat f k) : selR l f (k + 1) = selR l f k ∧ selF f (k + 1) = selF f k := by
  simp [selR, selF, List.range_succ, List.filter_append, h]
theorem sel_len (l f : List Int) (k : Nat) : (selR l f k).length ≤ k ∧ (selF f k).length ≤ k := by
  have := List.length_filter_le (fun j => decide (0 < iat f j)) (List.range k)
  simp [selR, selF] at this ⊢
  exact this
def fourF (rs : List Rw) (i k m x : Nat) : List Int := facL (wat rs i) (wat rs k) (wat rs m) (wat rs x)
def fourI (i k m x : Nat) : List Int := [(i : Int), k, m, x]
def four (rs : List Rw) (i k m x : Nat) : Option (List Int × List Int) :=
  bif (fourF rs i k m x).all (fun f => decide (0 ≤ f)) && ispB rs (selR (fourI i k m x) (fourF rs i k m x) (fourF rs i k m x).length) (selF (fourF rs i k m x) (fourF rs i k m x).length) then some (selR (fourI i k m x) (fourF rs i k m x) (fourF rs i k m x).length, selF (fourF rs i k m x) (fourF rs i k m x).length) else none
theorem facL_len (p q r s : Rw) : (facL p q r s).length ≤ 4 := by
  unfold facL
  cases facB p q r s
  · simp
  · simp [fz]
abbrev fourO : Option (List Int × List Int) → AV
  | some (ks, fs) => .tup [.agg [.own 20 3 1 (ks.map iRow), .own 21 3 1 (fs.map iRow)], vb true]
  | none => .tup [.agg [.v (.slice none 0 0), .v (.slice none 0 0)], vb false]
theorem implFactorsOf_sl (p q r s : Rw) : CallOk Tryz.prog 59 [p.av, q.av, r.av, s.av] (fun x => x = slI (facL p q r s)) := by
  have h := implFactorsOf_ok p q r s
  cases e : facB p q r s
  · have hL : facL p q r s = [] := by simp [facL, e]
    rw [e] at h
    rw [hL]
    exact callOk_nilSl h
  · rw [e] at h
    exact callOk_dat h rfl
end Go.Proofs.YtpcahgedkmgllaaGreat

namespace Go.Proofs.YtpcahgedkmgllaaGreat
open Go.Eng
set_option maxRecDepth 100000
attribute [local irreducible] QV TV WL HW W CallOk Weak

abbrev PfO := Option (List Int × List Int)
def pf4 (rs : List Rw) (i k m : Nat) : Nat → PfO
  | 0 => none
  | c + 1 => (pf4 rs i k m c).or (four rs i k m (m + 1 + c))
def pf3 (rs : List Rw) (i k : Nat) : Nat → PfO
  | 0 => none
  | c + 1 => (pf3 rs i k c).or (pf4 rs i k (k + 1 + c) (rs.length - (k + 1 + c + 1)))
def pf2 (rs : List Rw) (i : Nat) : Nat → PfO
  | 0 => none
  | c + 1 => (pf2 rs i c).or (pf3 rs i (i + 1 + c) (rs.length - (i + 1 + c + 1)))
def pf1 (rs : List Rw) : Nat → PfO
  | 0 => none
  | c + 1 => (pf1 rs c).or (pf2 rs c (rs.length - (c + 1)))
def pfind (rs : List Rw) : PfO := bif decide (rs.length ≤ 20) then pf1 rs rs.length else none
abbrev fourD : PfO → AV
  | some (ks, fs) => .tup [.agg [slI ks, slI fs], vb true]
  | none => .tup [.agg [.v (.slice none 0 0), .v (.slice none 0 0)], vb false]
end Go.Proofs.YtpcahgedkmgllaaGreat

namespace Go.Proofs.YtpcahgedkmgllaaGreat
open Go.Eng
set_option maxRecDepth 100000
attribute [local irreducible] QV TV WL HW W CallOk Weak

theorem or_some {α : Type} {a b : Option α} {p : α} (h : a.or b = some p) : a = some p ∨ b = some p := by
  cases a with
  | none => exact .inr (by simpa using h)
  | some x => exact .inl (by simpa using h)
theorem four_isp {rs : List Rw} {i k m x : Nat} {ks fs : List Int} (h : four rs i k m x = some (ks, fs)) : ispB rs ks fs = true := by
  unfold four at h
  generalize hc : ((fourF rs i k m x).all (fun f => decide (0 ≤ f)) && ispB rs (selR (fourI i k m x) (fourF rs i k m x) (fourF rs i k m x).length) (selF (fourF rs i k m x) (fourF rs i k m x).length)) = c at h
  cases c
  · cases h
  · simp only [cond_true, Option.some.injEq, Prod.mk.injEq] at h
    simp only [Bool.and_eq_true] at hc
    rw [h.1, h.2] at hc
    exact hc.2
theorem pf4_isp {rs : List Rw} {i k m : Nat} {ks fs : List Int} : ∀ {c : Nat}, pf4 rs i k m c = some (ks, fs) → ispB rs ks fs = true
  | 0, h => by cases h
  | c + 1, h => (or_some h).elim pf4_isp four_isp
theorem pf3_isp {rs : List Rw} {i k : Nat} {ks fs : List Int} : ∀ {c : Nat}, pf3 rs i k c = some (ks, fs) → ispB rs ks fs = true
  | 0, h => by cases h
  | c + 1, h => (or_some h).elim pf3_isp pf4_isp
theorem pf2_isp {rs : List Rw} {i : Nat} {ks fs : List Int} : ∀ {c : Nat}, pf2 rs i c = some (ks, fs) → ispB rs ks fs = true
  | 0, h => by cases h
  | c + 1, h => (or_some h).elim pf2_isp pf3_isp
theorem pf1_isp {rs : List Rw} {ks fs : List Int} : ∀ {c : Nat}, pf1 rs c = some (ks, fs) → ispB rs ks fs = true
  | 0, h => by cases h
  | c + 1, h => (or_some h).elim pf1_isp pf2_isp
theorem pfind_isp {rs : List Rw} {ks fs : List Int} (h : pfind rs = some (ks, fs)) : ispB rs ks fs = true := by
  unfold pfind at h
  by_cases hc : rs.length ≤ 20
  · rw [decide_eq_true hc, cond_true] at h; exact pf1_isp h
  · rw [decide_eq_false hc] at h; cases h
theorem pfind_or (rs : List Rw) : pfind rs = none ∨ ∃ p, pfind rs = some p := by
  cases h : pfind rs with
  | none => exact .inl rfl
  | some p => exact .inr ⟨p, rfl⟩
theorem pfind_len {rs : List Rw} {ks fs : List Int} (h : pfind rs = some (ks, fs)) : 0 < ks.length ∧ ks.length ≤ 4 ∧ 0 < fs.length ∧ fs.length ≤ 4 := by
  have h1 := pfind_isp h
  simp only [ispB, Bool.and_eq_true] at h1
  have h2 := pf_len h1.1
  have h3 := (pf_at h1.1 (k := 0) (by omega)).2.2
  omega
end Go.Proofs.YtpcahgedkmgllaaGreat

namespace Go.Proofs.YtpcahgedkmgllaaGreat
open Go.Eng
set_option maxRecDepth 100000
attribute [local irreducible] QV TV WL HW W CallOk CallOkA Weak

set_option maxHeartbeats 4000000 in
theorem implProofOfFour_of (rs : List Rw) (i k m x : Nat) (hr : rs.length ≤ 1048576) (h1 : i < k) (h2 : k < m) (h3 : m < x) (h4 : x < rs.length) (hsum : ∀ ks fs : List Int, ks.length ≤ 4 → fs.length ≤ 4 → CallOkA Tryz.prog 24 [slRw rs, .agg [slI ks, slI fs]] (fun r => r = sumAv rs ks fs)) : CallOkA Tryz.prog 42 [slRw rs, slI (fourI i k m x)] (fun r => r = fourO (four rs i k m x)) := by
  have hasc := ascending_ok (fourI i k m x) 0 (rs.length - 1) (by simp [fourI])
  have hasc1 : ascB 0 (rs.length - 1) (fourI i k m x) = true := by
    have q0 : inR (i : Int) 0 (rs.length - 1) = true := inR_true.2 (by omega)
    have q1 : inR (k : Int) 0 (rs.length - 1) = true := inR_true.2 (by omega)
    have q2 : inR (m : Int) 0 (rs.length - 1) = true := inR_true.2 (by omega)
    have q3 : inR (x : Int) 0 (rs.length - 1) = true := inR_true.2 (by omega)
    simp only [ascB, fourI, List.length_cons, List.length_nil, Nat.reduceAdd, show List.range 4 = [0, 1, 2, 3] from rfl, List.all_cons, List.all_nil, ascAt, iat, List.getD_cons_zero, List.getD_cons_succ, Nat.reduceSub, q0, q1, q2, q3]
    simp
    omega
  rw [hasc1] at hasc
  have a1 := wat_lt (show i < rs.length by omega)
  have a2 := wat_lt (show k < rs.length by omega)
  have a3 := wat_lt (show m < rs.length by omega)
  have a4 := wat_lt (show x < rs.length by omega)
  have hf := implFactorsOf_sl (wat rs i) (wat rs k) (wat rs m) (wat rs x)
  have hfl := facL_len (wat rs i) (wat rs k) (wat rs m) (wat rs x)
  unfold four fourF
  obtain ⟨f, ef⟩ : ∃ f, f = facL (wat rs i) (wat rs k) (wat rs m) (wat rs x) := ⟨_, rfl⟩
  rw [← ef] at hf hfl ⊢
  have i0 : (fourI i k m x)[0]? = some (i : Int) := rfl
  have i1 : (fourI i k m x)[1]? = some (k : Int) := rfl
  have i2 : (fourI i k m x)[2]? = some (m : Int) := rfl
  have i3 : (fourI i k m x)[3]? = some (x : Int) := rfl
  refine callOkX Tryz.func42 Tryz.ntmps42 Tryz.results42 rfl rfl rfl fun B w0 M I0 V0 hal => ?_
  (repeat (first | refine WL_nil ?_ | refine zq0 (by first | exact qv9 | exact q_callA (hasc)) ?_ | refine zq1 ?_ | refine zq2 ?_ | refine zq3 ?_ | refine zq4 ?_ | refine zq5 ?_ | refine zq6 ?_ | refine wN rfl ?_))
  refine wdraw 27 (by kernel_rfl) (by kernel_rfl) (by kernel_rfl) rfl ?_
  (repeat (first | refine HW_nil ?_ | (apply hw0 (hd := rfl); (first | exact qv9 | exact q_callA (hf) | exact QV_indexAddr rfl rfl rfl rfl (row_at i0) | exact QV_indexAddr rfl rfl rfl rfl (row_at i1) | exact QV_indexAddr rfl rfl rfl rfl (row_at i2) | exact QV_indexAddr rfl rfl rfl rfl (row_at i3) | exact QV_indexAddr rfl rfl rfl rfl (row_at a1) | exact QV_indexAddr rfl rfl rfl rfl (row_at a2) | exact QV_indexAddr rfl rfl rfl rfl (row_at a3) | exact QV_indexAddr rfl rfl rfl rfl (row_at a4)); (exact gy0)) | (apply hwb (hd := rfl); exact qbx; (exact gy0); rfl) | refine zq7 ?_ | refine zq8 ?_))
  (repeat (first | refine WL_nil ?_ | refine zq0 qv9 ?_ | refine zq1 ?_ | refine zq2 ?_ | refine zq3 ?_ | refine zq4 ?_ | refine zq5 ?_ | refine zq6 ?_ | refine wN rfl ?_))
  refine W_loop (fun n s => ∃ (j : Nat) (R F : List (List AV)), j ≤ f.length ∧ n = f.length - j ∧ (f.take j).all (fun z => decide (0 ≤ z)) = true ∧ R = (selR (fourI i k m x) f j).map iRow ∧ F = (selF f j).map iRow ∧ s = ⟨[(0, slRw rs), (1, slI (fourI i k m x)), (4, .ptr 4 0), (6, .ptr 6 0), (45, slI f), (46, vi f.length), (47, vi j)], [(6, [.own 20 3 1 R, .own 21 3 1 F]), (4, [.v (.slice none 0 0), .v (.slice none 0 0)])], [20, 21]⟩) ⟨_, _, ⟨0, [], [], by omega, rfl, rfl, rfl, rfl, rfl⟩, wkO⟩ ?_
  rintro n s ⟨j, R, F, hj, rfl, hall, hR, hF, rfl⟩
  by_cases hlt : j < f.length
  · have hp := iat_lt hlt
    have hq := iat_lt (show j < (fourI i k m x).length by show j < 4; omega)
    have hsl := sel_len (fourI i k m x) f j
    by_cases n1 : iat f j < 0
    · have c1 : abin .lss .i64 (iat f j) 0 = some (.bool true) := by simp only [abin, decide_eq_true n1]
      (repeat (first | refine WL_nil ?_ | refine zq0 qv9 ?_ | refine zq1 ?_ | refine zq2 ?_ | refine zq3 ?_ | refine zq4 ?_ | refine zq5 ?_ | refine zq6 ?_ | refine wN rfl ?_))
      (refine W_cond rfl (fun hc => ?_) (fun hc => ?_))
      · (repeat (first | refine WL_nil ?_ | refine zq0 (by first | exact QV_bin rfl rfl c1 | exact qv9 | exact QV_indexAddr rfl rfl rfl rfl (row_at hp)) ?_ | refine zq1 ?_ | refine zq2 ?_ | refine zq3 ?_ | refine zq4 ?_ | refine zq5 ?_ | refine zq6 ?_ | refine wN rfl ?_))
        refine Exists.intro _ ⟨Weak.refl _, Exists.intro _ ⟨resA_cell rfl rfl rfl (resA_tmp rfl rfl), ?_, rfl⟩⟩
        rw [all_at_false hp (by simp; omega)]
        rfl
      · simp at hc; omega
    · have c1 : abin .lss .i64 (iat f j) 0 = some (.bool false) := by simp only [abin, decide_eq_false n1]
      by_cases n2 : 0 < iat f j
      · have c2 : abin .gtr .i64 (iat f j) 0 = some (.bool true) := by simp only [abin]; rw [decide_eq_true (by omega)]
        have hr1 : R.length + [iRow (iat (fourI i k m x) j)].length ≤ 1048576 := by rw [hR]; simp; omega
        have hr2 : F.length + [iRow (iat f j)].length ≤ 1048576 := by rw [hF]; simp; omega
        obtain ⟨s1, s2⟩ := sel_in (l := fourI i k m x) n2
        (repeat (first | refine WL_nil ?_ | refine zq0 qv9 ?_ | refine zq1 ?_ | refine zq2 ?_ | refine zq3 ?_ | refine zq4 ?_ | refine zq5 ?_ | refine zq6 ?_ | refine wN rfl ?_))
        (refine W_cond rfl (fun hc => ?_) (fun hc => ?_))
        · (repeat (first | refine WL_nil ?_ | refine zq0 (by first | exact QV_bin rfl rfl c1 | exact QV_bin rfl rfl c2 | exact qv9 | exact QV_indexAddr rfl rfl rfl rfl (row_at hp)) ?_ | refine zq1 ?_ | refine zq2 ?_ | refine zq3 ?_ | refine zq4 ?_ | refine zq5 ?_ | refine zq6 ?_ | refine wN rfl ?_))
          refine wdraw 7 (by kernel_rfl) (by kernel_rfl) (by kernel_rfl) rfl ?_
          (repeat (first | refine HW_nil ?_ | (apply hw0 (hd := rfl); (first | exact qv9 | exact QV_indexAddr rfl rfl rfl rfl (row_at hq)); (exact gy0)) | (apply hwb (hd := rfl); exact qbx; (exact gy0); rfl) | refine zq7 ?_ | refine zq8 ?_ | (apply hwn1 (hd := rfl); exact q_buildSlice 29 rfl rfl rfl rfl; (exact gy0); rfl)))
          (repeat (first | refine WL_nil ?_ | refine zq0 qv9 ?_ | refine zq1 ?_ | refine zq2 ?_ | refine zq3 ?_ | refine zq4 ?_ | refine wapp (rows2 := [iRow (iat (fourI i k m x) j)]) rfl rfl rfl (by simp [isCell, Value.oneCell', iRow]) (by simp [iRow]) hr1 rfl rfl rfl rfl ?_ | refine zq5 ?_ | refine zq6 ?_ | refine wN rfl ?_))
          (repeat (first | refine WL_nil ?_ | refine zq0 qv9 ?_ | refine zq1 ?_ | refine zq2 ?_ | refine zq3 ?_ | (apply wln1 (hd := rfl); exact q_buildSlice 30 rfl rfl rfl rfl; (exact gy0); rfl) | refine zq4 ?_ | refine wapp (rows2 := [iRow (iat f j)]) rfl rfl rfl (by simp [isCell, Value.oneCell', iRow]) (by simp [iRow]) hr2 rfl rfl rfl rfl ?_ | refine zq5 ?_ | refine zq6 ?_ | refine wN rfl ?_))
          refine Exists.intro _ (Exists.intro _ ⟨?_, ⟨j + 1, R ++ [iRow (iat (fourI i k m x) j)], F ++ [iRow (iat f j)], by omega, rfl, by rw [all_take_succ hp, hall]; simp; omega, by rw [hR, s1]; simp, by rw [hF, s2]; simp, rfl⟩, wkA⟩)
          omega
        · simp at hc; omega
      · have c2 : abin .gtr .i64 (iat f j) 0 = some (.bool false) := by simp only [abin]; rw [decide_eq_false (by omega)]
        obtain ⟨s1, s2⟩ := sel_out (l := fourI i k m x) n2
        (repeat (first | refine WL_nil ?_ | refine zq0 qv9 ?_ | refine zq1 ?_ | refine zq2 ?_ | refine zq3 ?_ | refine zq4 ?_ | refine zq5 ?_ | refine zq6 ?_ | refine wN rfl ?_))
        (refine W_cond rfl (fun hc => ?_) (fun hc => ?_))
        · (repeat (first | refine WL_nil ?_ | refine zq0 (by first | exact QV_bin rfl rfl c1 | exact QV_bin rfl rfl c2 | exact qv9 | exact QV_indexAddr rfl rfl rfl rfl (row_at hp)) ?_ | refine zq1 ?_ | refine zq2 ?_ | refine zq3 ?_ | refine zq4 ?_ | refine zq5 ?_ | refine zq6 ?_ | refine wN rfl ?_))
          refine Exists.intro _ (Exists.intro _ ⟨?_, ⟨j + 1, R, F, by omega, rfl, by rw [all_take_succ hp, hall]; simp; omega, by rw [hR, s1], by rw [hF, s2], rfl⟩, wkA⟩)
          omega
        · simp at hc; omega
  · (repeat (first | refine WL_nil ?_ | refine zq0 qv9 ?_ | refine zq1 ?_ | refine zq2 ?_ | refine zq3 ?_ | refine zq4 ?_ | refine zq5 ?_ | refine zq6 ?_ | refine wN rfl ?_))
    (refine W_cond rfl (fun hc => ?_) (fun hc => ?_))
    · simp at hc; omega
    · have hj' : j = f.length := by omega
      subst hj'
      rw [List.take_length] at hall
      have hsl := sel_len (fourI i k m x) f f.length
      have hip := implIsProof_of rs (selR (fourI i k m x) f f.length) (selF f f.length) hr (by omega) (by omega) (hsum _ _ (by omega) (by omega))
      subst hR hF
      rw [hall, Bool.true_and]
      cases e : ispB rs (selR (fourI i k m x) f f.length) (selF f f.length)
      · rw [e] at hip
        (repeat (first | refine WL_nil ?_ | refine zq0 (by first | exact qv9 | exact q_callAX hal (hip)) ?_ | refine zq1 ?_ | refine zq2 ?_ | refine zq3 ?_ | refine zq4 ?_ | refine zq5 ?_ | refine zq6 ?_ | refine wN rfl ?_))
        refine Exists.intro _ ⟨Weak.refl _, Exists.intro _ ⟨resA_cell rfl rfl rfl (resA_tmp rfl rfl), ?_, rfl⟩⟩
        rfl
      · rw [e] at hip
        (repeat (first | refine WL_nil ?_ | refine zq0 (by first | exact qv9 | exact q_callAX hal (hip)) ?_ | refine zq1 ?_ | refine zq2 ?_ | refine zq3 ?_ | refine zq4 ?_ | refine zq5 ?_ | refine zq6 ?_ | refine wN rfl ?_))
        refine Exists.intro _ ⟨Weak.refl _, Exists.intro _ ⟨resA_cell rfl rfl rfl (resA_tmp rfl rfl), ?_, rfl⟩⟩
        rfl
end Go.Proofs.YtpcahgedkmgllaaGreat
