/- factorsUpTo, l18Range; GreatestFactor, LeastFactor, both ways. -/
import Derived.Test.YtkieepmkcaipaaaGreatYAJl
import Derived.Test.YtkieepmkcaipaaaGreatZ9
import Derived.Test.YtkieepmkcaipaaaGreatYG5
import Derived.Test.YtkieepmkcaipaaaGreatYG8
namespace Go.Proofs.YtkieepmkcaipaaaGreat
open Go.Eng
set_option maxRecDepth 100000
attribute [local irreducible] QV TV WL HW W CallOk CallOkA Weak
attribute [local irreducible] CallOkE CallOkEA

def stdL (js : List Jt) (ls ms : List Ld) : Nat → List Int
  | 0 => []
  | k + 1 => bif satB js ls ms k then stdL js ls ms k ++ [(k : Int)] else stdL js ls ms k
def lowR (js : List Jt) (ls ms : List Ld) : Nat → Int
  | 0 => -1
  | k + 1 => bif satB js ls ms k then (if lowR js ls ms k < 0 then (k : Int) else lowR js ls ms k) else lowR js ls ms k
def highR (js : List Jt) (ls ms : List Ld) : Nat → Int
  | 0 => -2
  | k + 1 => bif satB js ls ms k then (k : Int) else highR js ls ms k
def facN (most : Int) : Nat := if inR most 0 60 then most.toNat + 1 else 0
theorem facN_le (most : Int) : facN most ≤ 61 := by
  unfold facN
  split
  · rename_i h; rw [inR_true] at h; omega
  · omega
theorem stdL_len (js : List Jt) (ls ms : List Ld) : ∀ k, (stdL js ls ms k).length ≤ k
  | 0 => Nat.le_refl _
  | k + 1 => by
    have := stdL_len js ls ms k
    simp only [stdL]
    cases satB js ls ms k <;> simp <;> omega
abbrev oI (n : Nat) (l : List Int) : AV := .own n 3 1 (l.map iRow)
theorem i_app {l : List Int} {n : Int} : l.map iRow ++ [[vi n]] = (l ++ [n]).map iRow := by simp
theorem stands1_ok (js : List Jt) (ls ms : List Ld) (k : Int) (hj : js.length ≤ 1048576) (hl : ls.length ≤ 1048576) (hm : ms.length ≤ 1048576) : CallOkEA Tryz.prog 130 [vi k, .eptr [slJt js], .eptr [slLd ls], .eptr [slLd ms]] (fun r => r = vb (satB js ls ms k)) := by
  have h1 := implStandsAt_ok js ls ms k hj hl hm
  refine callOkEX Tryz.func130 Tryz.ntmps130 Tryz.results130 rfl rfl rfl fun B w0 M I0 V0 hal => ?_
  (repeat (first | refine WL_nil ?_ | (apply wl0 (hd := rfl); (first | exact qv9 | exact q_callAX hal (h1)); (exact gy0)) | (apply wlb (hd := rfl); exact qbx; (exact gy0); rfl) | refine wln ⟨_, rfl, rfl⟩ rfl ?_ | refine wlnu ⟨_, rfl, rfl⟩ rfl ?_ | refine wst rfl rfl rfl List.not_mem_nil rfl rfl rfl rfl rfl rfl ?_ | refine W_condT rfl ?_ | refine W_condF rfl ?_ | refine W_region ?_ | refine wN rfl ?_))
  refine Exists.intro _ ⟨Weak.refl _, Exists.intro _ ⟨resA_tmp rfl rfl, ?_, rfl⟩⟩
  rfl
theorem factorsUpTo_own (js : List Jt) (ls ms : List Ld) (most : Int) (hj : js.length ≤ 1048576) (hl : ls.length ≤ 1048576) (hm : ms.length ≤ 1048576) : CallOkA Tryz.prog 81 [.agg [slJt js], slLd ls, slLd ms, vi most] (fun r => r = oI 10 (stdL js ls ms (facN most))) := by
  have w1 := within_ok most 0 60
  refine callOkX Tryz.func81 Tryz.ntmps81 Tryz.results81 rfl rfl rfl fun B w0 M I0 V0 hal => ?_
  cases e1 : inR most 0 60
  · rw [e1] at w1
    rw [show facN most = 0 by simp [facN, e1]]
    (repeat (first | refine WL_nil ?_ | (apply wl0 (hd := rfl); (first | exact qv9 | exact q_callA (w1)); (exact gy0)) | (apply wlb (hd := rfl); exact qbx; (exact gy0); rfl) | refine wln ⟨_, rfl, rfl⟩ rfl ?_ | refine wlnu ⟨_, rfl, rfl⟩ rfl ?_ | refine wst rfl rfl rfl List.not_mem_nil rfl rfl rfl rfl rfl rfl ?_ | refine W_condT rfl ?_ | refine W_condF rfl ?_ | refine W_region ?_ | refine wN rfl ?_))
    refine Exists.intro (⟨[(8, oI 10 [])], [], [10]⟩ : St) ⟨wkO, Exists.intro _ ⟨resA_tmp rfl rfl, ?_, rfl⟩⟩
    rfl
  · rw [e1] at w1
    have hb := inR_true.1 e1
    obtain ⟨m, rfl⟩ : ∃ m : Nat, most = m := ⟨most.toNat, by omega⟩
    rw [show facN m = m + 1 by simp [facN, e1]]
    have a0 : abin .add .i64 (m : Int) 1 = some (.int .i64 ((m + 1 : Nat) : Int)) := by simp only [abin]; rw [i64w (by omega)]; rfl
    (repeat (first | refine WL_nil ?_ | (apply wl0 (hd := rfl); (first | exact QV_bin rfl rfl a0 | exact qv9 | exact q_callA (w1)); (exact gy0)) | (apply wlb (hd := rfl); exact qbx; (exact gy0); rfl) | refine wln ⟨_, rfl, rfl⟩ rfl ?_ | refine wlnu ⟨_, rfl, rfl⟩ rfl ?_ | refine wst rfl rfl rfl List.not_mem_nil rfl rfl rfl rfl rfl rfl ?_ | refine W_condT rfl ?_ | refine W_condF rfl ?_ | refine W_region ?_ | refine wN rfl ?_))
    refine W_loop (fun n s => ∃ k : Nat, k ≤ m + 1 ∧ n = m + 1 - k ∧ s = ⟨[(9, .fn (.func 130) [] [.ptr 4 0, .ptr 5 0, .ptr 6 0]), (10, oI 10 (stdL js ls ms k)), (17, vi (m + 1 : Nat)), (18, vi k)], [(6, [slLd ms]), (5, [slLd ls]), (4, [slJt js])], [10]⟩) ⟨_, _, ⟨0, by omega, rfl, rfl⟩, wkO⟩ ?_
    rintro n s ⟨k, hk, rfl, rfl⟩
    by_cases hlt : k < m + 1
    · have c1 : abin .lss .i64 (k : Int) ((m + 1 : Nat) : Int) = some (.bool true) := by simp [abin]; omega
      have hcl := stands1_ok js ls ms k hj hl hm
      have hlen := stdL_len js ls ms k
      cases z : satB js ls ms k
      · rw [z] at hcl
        (repeat (first | refine WL_nil ?_ | (apply wl0 (hd := rfl); (first | exact QV_bin rfl rfl c1 | exact qv9 | exact QV_callEX hal hcl rfl (LeE.v (LeE.ptr rfl rfl (LeE.ptr rfl rfl (LeE.ptr rfl rfl LeE.nil)))) rfl); (exact gy0)) | (apply wlb (hd := rfl); exact qbx; (exact gy0); rfl) | refine wln ⟨_, rfl, rfl⟩ rfl ?_ | refine wlnu ⟨_, rfl, rfl⟩ rfl ?_ | refine wst rfl rfl rfl List.not_mem_nil rfl rfl rfl rfl rfl rfl ?_ | refine W_condT rfl ?_ | refine W_condF rfl ?_ | refine W_region ?_ | refine wN rfl ?_))
        rw [← (show stdL js ls ms (k + 1) = stdL js ls ms k by simp [stdL, z])]
        refine Exists.intro _ (Exists.intro _ ⟨?_, ⟨k + 1, by omega, rfl, rfl⟩, wkA⟩)
        omega
      · rw [z] at hcl
        have ha : ((stdL js ls ms k).map iRow).length + [[vi (k : Int)]].length ≤ 1048576 := by simp; omega
        (repeat (first | refine WL_nil ?_ | (apply wl0 (hd := rfl); (first | exact QV_bin rfl rfl c1 | exact qv9 | exact QV_callEX hal hcl rfl (LeE.v (LeE.ptr rfl rfl (LeE.ptr rfl rfl (LeE.ptr rfl rfl LeE.nil)))) rfl); (exact gy0)) | (apply wlb (hd := rfl); exact qbx; (exact gy0); rfl) | refine wln ⟨_, rfl, rfl⟩ rfl ?_ | refine wlnu ⟨_, rfl, rfl⟩ rfl ?_ | (apply wln1 (hd := rfl); exact q_buildSlice 26 rfl rfl rfl rfl; (exact gy0); rfl) | refine wst rfl rfl rfl List.not_mem_nil rfl rfl rfl rfl rfl rfl ?_ | refine wappE rfl rfl rfl (one_cell _) (one_len _) ha rfl rfl i_app rfl rfl ?_ | refine W_condT rfl ?_ | refine W_condF rfl ?_ | refine W_region ?_ | refine wN rfl ?_))
        rw [← (show stdL js ls ms (k + 1) = stdL js ls ms k ++ [(k : Int)] by simp [stdL, z])]
        refine Exists.intro _ (Exists.intro _ ⟨?_, ⟨k + 1, by omega, rfl, rfl⟩, wkA⟩)
        omega
    · have c1 : abin .lss .i64 (k : Int) ((m + 1 : Nat) : Int) = some (.bool false) := by simp [abin]; omega
      have hk' : k = m + 1 := by omega
      subst hk'
      (repeat (first | refine WL_nil ?_ | (apply wl0 (hd := rfl); (first | exact QV_bin rfl rfl c1 | exact qv9); (exact gy0)) | (apply wlb (hd := rfl); exact qbx; (exact gy0); rfl) | refine wln ⟨_, rfl, rfl⟩ rfl ?_ | refine wlnu ⟨_, rfl, rfl⟩ rfl ?_ | refine wst rfl rfl rfl List.not_mem_nil rfl rfl rfl rfl rfl rfl ?_ | refine W_condT rfl ?_ | refine W_condF rfl ?_ | refine W_region ?_ | refine wN rfl ?_))
      refine Exists.intro _ ⟨Weak.refl _, Exists.intro _ ⟨resA_tmp rfl rfl, ?_, rfl⟩⟩
      rfl
theorem factorsUpTo_ok (js : List Jt) (ls ms : List Ld) (most : Int) (hj : js.length ≤ 1048576) (hl : ls.length ≤ 1048576) (hm : ms.length ≤ 1048576) : CallOkA Tryz.prog 81 [.agg [slJt js], slLd ls, slLd ms, vi most] (fun r => r = slI (stdL js ls ms (facN most))) := callOkA_dat (factorsUpTo_own js ls ms most hj hl hm) rfl
theorem std_head (js : List Jt) (ls ms : List Ld) : ∀ k, (stdL js ls ms k = [] ∧ lowR js ls ms k = -1 ∧ highR js ls ms k = -2) ∨ (0 < (stdL js ls ms k).length ∧ 0 ≤ lowR js ls ms k ∧ (stdL js ls ms k)[0]? = some (lowR js ls ms k) ∧ 0 ≤ highR js ls ms k ∧ (stdL js ls ms k)[(stdL js ls ms k).length - 1]? = some (highR js ls ms k))
  | 0 => .inl ⟨rfl, rfl, rfl⟩
  | k + 1 => by
    have ih := std_head js ls ms k
    cases z : satB js ls ms k
    · rw [show stdL js ls ms (k + 1) = stdL js ls ms k by simp [stdL, z], show lowR js ls ms (k + 1) = lowR js ls ms k by simp [lowR, z], show highR js ls ms (k + 1) = highR js ls ms k by simp [highR, z]]
      exact ih
    · rw [show stdL js ls ms (k + 1) = stdL js ls ms k ++ [(k : Int)] by simp [stdL, z], show highR js ls ms (k + 1) = (k : Int) by simp [highR, z]]
      refine .inr ?_
      rcases ih with ⟨h1, h2, h3⟩ | ⟨h1, h2, h3, h4, h5⟩
      · rw [show lowR js ls ms (k + 1) = (k : Int) by simp [lowR, z, h2], h1]
        simp
      · rw [show lowR js ls ms (k + 1) = lowR js ls ms k by simp [lowR, z]; omega]
        refine ⟨by simp, h2, by rw [List.getElem?_append_left h1]; exact h3, by omega, ?_⟩
        simp
theorem implFactorWidth_ok (js : List Jt) (ls ms : List Ld) (most : Int) (hj : js.length ≤ 1048576) (hl : ls.length ≤ 1048576) (hm : ms.length ≤ 1048576) : CallOkA Tryz.prog 28 [.agg [slJt js], slLd ls, slLd ms, vi most] (fun r => r = vi (stdL js ls ms (facN most)).length) := by
  have h1 := factorsUpTo_ok js ls ms most hj hl hm
  refine callOkX Tryz.func28 Tryz.ntmps28 Tryz.results28 rfl rfl rfl fun B w0 M I0 V0 hal => ?_
  (repeat (first | refine WL_nil ?_ | (apply wl0 (hd := rfl); (first | exact qv9 | exact q_callAX hal (h1)); (exact gy0)) | (apply wlb (hd := rfl); exact qbx; (exact gy0); rfl) | refine wln ⟨_, rfl, rfl⟩ rfl ?_ | refine wlnu ⟨_, rfl, rfl⟩ rfl ?_ | refine wst rfl rfl rfl List.not_mem_nil rfl rfl rfl rfl rfl rfl ?_ | refine W_condT rfl ?_ | refine W_condF rfl ?_ | refine W_region ?_ | refine wN rfl ?_))
  refine Exists.intro _ ⟨Weak.refl _, Exists.intro _ ⟨resA_tmp rfl rfl, ?_, rfl⟩⟩
  exact vi_eq (by simp)
theorem implLeastFactor_ok (js : List Jt) (ls ms : List Ld) (most : Int) (hj : js.length ≤ 1048576) (hl : ls.length ≤ 1048576) (hm : ms.length ≤ 1048576) : CallOkA Tryz.prog 26 [.agg [slJt js], slLd ls, slLd ms, vi most] (fun r => r = vi (lowR js ls ms (facN most))) := by
  have h1 := factorsUpTo_ok js ls ms most hj hl hm
  refine callOkX Tryz.func26 Tryz.ntmps26 Tryz.results26 rfl rfl rfl fun B w0 M I0 V0 hal => ?_
  rcases std_head js ls ms (facN most) with ⟨e1, e2, e3⟩ | ⟨e0, e1, e2, e3, e4⟩
  · rw [e1] at h1
    rw [e2]
    (repeat (first | refine WL_nil ?_ | (apply wl0 (hd := rfl); (first | exact qv9 | exact q_callAX hal (h1)); (exact gy0)) | (apply wlb (hd := rfl); exact qbx; (exact gy0); rfl) | refine wln ⟨_, rfl, rfl⟩ rfl ?_ | refine wlnu ⟨_, rfl, rfl⟩ rfl ?_ | refine wst rfl rfl rfl List.not_mem_nil rfl rfl rfl rfl rfl rfl ?_ | refine W_condT rfl ?_ | refine W_condF rfl ?_ | refine W_region ?_ | refine wN rfl ?_))
    refine Exists.intro _ ⟨Weak.refl _, Exists.intro _ ⟨resA_tmp rfl rfl, ?_, rfl⟩⟩
    rfl
  · have c0 : abin .eql .i64 ((stdL js ls ms (facN most)).length : Int) 0 = some (.bool false) := by
      simp [abin]
      intro h9
      rw [h9] at e0
      simp at e0
    (repeat (first | refine WL_nil ?_ | (apply wl0 (hd := rfl); (first | exact QV_bin rfl rfl c0 | exact qv9 | exact q_callAX hal (h1) | exact QV_indexAddr rfl rfl rfl rfl (row_at e2)); (exact gy0)) | (apply wlb (hd := rfl); exact qbx; (exact gy0); rfl) | refine wln ⟨_, rfl, rfl⟩ rfl ?_ | refine wlnu ⟨_, rfl, rfl⟩ rfl ?_ | refine wst rfl rfl rfl List.not_mem_nil rfl rfl rfl rfl rfl rfl ?_ | refine W_condT rfl ?_ | refine W_condF rfl ?_ | refine W_region ?_ | refine wN rfl ?_))
    refine Exists.intro _ ⟨Weak.refl _, Exists.intro _ ⟨resA_tmp rfl rfl, ?_, rfl⟩⟩
    rfl
theorem implGreatestFactor_ok (js : List Jt) (ls ms : List Ld) (most : Int) (hj : js.length ≤ 1048576) (hl : ls.length ≤ 1048576) (hm : ms.length ≤ 1048576) : CallOkA Tryz.prog 27 [.agg [slJt js], slLd ls, slLd ms, vi most] (fun r => r = vi (max (highR js ls ms (facN most)) (-1))) := by
  have h1 := factorsUpTo_ok js ls ms most hj hl hm
  have hlen := stdL_len js ls ms (facN most)
  have hN := facN_le most
  refine callOkX Tryz.func27 Tryz.ntmps27 Tryz.results27 rfl rfl rfl fun B w0 M I0 V0 hal => ?_
  rcases std_head js ls ms (facN most) with ⟨e1, e2, e3⟩ | ⟨e0, e1, e2, e3, e4⟩
  · rw [e1] at h1
    rw [e3]
    (repeat (first | refine WL_nil ?_ | (apply wl0 (hd := rfl); (first | exact qv9 | exact q_callAX hal (h1)); (exact gy0)) | (apply wlb (hd := rfl); exact qbx; (exact gy0); rfl) | refine wln ⟨_, rfl, rfl⟩ rfl ?_ | refine wlnu ⟨_, rfl, rfl⟩ rfl ?_ | refine wst rfl rfl rfl List.not_mem_nil rfl rfl rfl rfl rfl rfl ?_ | refine W_condT rfl ?_ | refine W_condF rfl ?_ | refine W_region ?_ | refine wN rfl ?_))
    refine Exists.intro _ ⟨Weak.refl _, Exists.intro _ ⟨resA_tmp rfl rfl, ?_, rfl⟩⟩
    rfl
  · have c0 : abin .eql .i64 ((stdL js ls ms (facN most)).length : Int) 0 = some (.bool false) := by
      simp [abin]
      intro h9
      rw [h9] at e0
      simp at e0
    have s1 : abin .sub .i64 ((stdL js ls ms (facN most)).length : Int) 1 = some (.int .i64 (((stdL js ls ms (facN most)).length - 1 : Nat) : Int)) := by simp only [abin]; rw [i64w (by omega)]; congr; omega
    (repeat (first | refine WL_nil ?_ | (apply wl0 (hd := rfl); (first | exact QV_bin rfl rfl c0 | exact QV_bin rfl rfl s1 | exact qv9 | exact q_callAX hal (h1) | exact QV_indexAddr rfl rfl rfl rfl (row_at e4)); (exact gy0)) | (apply wlb (hd := rfl); exact qbx; (exact gy0); rfl) | refine wln ⟨_, rfl, rfl⟩ rfl ?_ | refine wlnu ⟨_, rfl, rfl⟩ rfl ?_ | refine wst rfl rfl rfl List.not_mem_nil rfl rfl rfl rfl rfl rfl ?_ | refine W_condT rfl ?_ | refine W_condF rfl ?_ | refine W_region ?_ | refine wN rfl ?_))
    refine Exists.intro _ ⟨Weak.refl _, Exists.intro _ ⟨resA_tmp rfl rfl, ?_, rfl⟩⟩
    exact vi_eq (by omega)
end Go.Proofs.YtkieepmkcaipaaaGreat

namespace Go.Proofs.YtkieepmkcaipaaaGreat
open Go.Eng

def Feas (l : List Rw) : Prop := ∃ h v m e : Int, 0 < e ∧ ∀ r ∈ l, r.a * h + r.b * v + r.c * m ≤ r.d * e
theorem feas_corner {l : List Rw} (hok : l.all rowB = true) (h : corL l ≠ []) : Feas l := by
  obtain ⟨t, l', e⟩ := List.exists_cons_of_ne_nil h
  obtain ⟨⟨h1, h2⟩, _⟩ := corL_P (l := l) (t := t) (by rw [e]; simp)
  have hd := (thIn_true (thOk_in h1)).1
  exact ⟨t.h, t.v, t.m, t.d, by omega, fun r hr => (holB_of h1 (List.all_eq_true.1 hok r hr)).1 (List.all_eq_true.1 h2 r hr)⟩
theorem feas_con {l : List Rw} (h : Feas l) : ¬ ∃ p ∈ l, ∃ q ∈ l, ∃ r ∈ l, ∃ s ∈ l, Con p q r s := by
  rintro ⟨p, hp, q, hq, r, hr, s, hs, hc⟩
  obtain ⟨H, V, M, E, hE, hall⟩ := h
  have p1 := hall p hp
  have p2 := hall q hq
  have p3 := hall r hr
  have p4 := hall s hs
  have ca := can_a p q r s
  have cb := can_b p q r s
  have cc := can_c p q r s
  have key : sum4 p q r s * E = detR q r s * (p.d * E - (p.a * H + p.b * V + p.c * M)) - detR p r s * (q.d * E - (q.a * H + q.b * V + q.c * M)) + detR p q s * (r.d * E - (r.a * H + r.b * V + r.c * M)) - detR p q r * (s.d * E - (s.a * H + s.b * V + s.c * M)) := by
    have e0 : (detR q r s * p.a - detR p r s * q.a + detR p q s * r.a - detR p q r * s.a) * H + (detR q r s * p.b - detR p r s * q.b + detR p q s * r.b - detR p q r * s.b) * V + (detR q r s * p.c - detR p r s * q.c + detR p q s * r.c - detR p q r * s.c) * M = 0 := by rw [ca, cb, cc]; simp
    simp only [sum4]
    grind
  rcases hc with ⟨d1, d2, d3, d4, hs4⟩ | ⟨d1, d2, d3, d4, hs4⟩
  · have m1 := Int.mul_nonneg d1 (show 0 ≤ p.d * E - (p.a * H + p.b * V + p.c * M) by omega)
    have m2 := Int.mul_nonpos_of_nonpos_of_nonneg d2 (show 0 ≤ q.d * E - (q.a * H + q.b * V + q.c * M) by omega)
    have m3 := Int.mul_nonneg d3 (show 0 ≤ r.d * E - (r.a * H + r.b * V + r.c * M) by omega)
    have m4 := Int.mul_nonpos_of_nonpos_of_nonneg d4 (show 0 ≤ s.d * E - (s.a * H + s.b * V + s.c * M) by omega)
    have := Int.mul_neg_of_neg_of_pos hs4 hE
    omega
  · have m1 := Int.mul_nonpos_of_nonpos_of_nonneg d1 (show 0 ≤ p.d * E - (p.a * H + p.b * V + p.c * M) by omega)
    have m2 := Int.mul_nonneg d2 (show 0 ≤ q.d * E - (q.a * H + q.b * V + q.c * M) by omega)
    have m3 := Int.mul_nonpos_of_nonpos_of_nonneg d3 (show 0 ≤ r.d * E - (r.a * H + r.b * V + r.c * M) by omega)
    have m4 := Int.mul_nonneg d4 (show 0 ≤ s.d * E - (s.a * H + s.b * V + s.c * M) by omega)
    have := Int.mul_pos hs4 hE
    omega
theorem feas_stands {js : List Jt} {ls : List Ld} (h : loadsB js ls = true) (hf : Feas (rowsAll js ls)) : corL (rowsA js ls) ≠ [] := by
  have h8 := arch_len (loads_arch h)
  have hl := rowsAll_len js ls
  rw [rowsA_go h]
  rcases farkas (fun t ht => rowsAll_dir ht) (rows_span h) with h1 | h1
  · exact corL_sat (by omega) (fun r hr => rowsAll_sm h hr) (by simp [rowsAll]) h1
  · exact absurd h1 (feas_con hf)
theorem stands_feas {js : List Jt} {ls : List Ld} (h : stnB js ls = true) : loadsB js ls = true ∧ Feas (rowsAll js ls) := by
  have hne : corL (rowsA js ls) ≠ [] := by
    intro e
    rw [stnB, thrL, e] at h
    simp at h
  cases hb : loadsB js ls
  · rw [rowsA_no hb] at hne
    refine absurd ?_ hne
    simp only [corL, List.all_nil, Bool.true_and, List.length_nil]
    cases inR 0 3 20 <;> simp [cI]
  · rw [rowsA_go hb] at hne
    exact ⟨rfl, feas_corner (List.all_eq_true.2 fun r hr => smR_ok (rowsAll_sm hb hr)) hne⟩

theorem sumW_csum {f : Nat → Int} {B : Int} (h0 : 0 ≤ B) : ∀ {k : Nat}, (∀ i, i < k → -B ≤ f i ∧ f i ≤ B) → k * B ≤ 9223372036854775807 → sumW f k = csum f k
  | 0, _, _ => rfl
  | k + 1, hf, hk => by
    have e : ((k + 1 : Nat) : Int) * B = k * B + B := by rw [Int.natCast_add, Int.add_mul]; simp
    rw [e] at hk
    have ih := sumW_csum h0 (k := k) (fun i hi => hf i (by omega)) (by omega)
    have hb := sumW_bd h0 (k := k) (fun i hi => hf i (by omega)) (by omega)
    have hfk := hf k (by omega)
    simp only [sumW, csum]
    rw [w64 (by omega), ih]
theorem csum_lin {f g h : Nat → Int} {a b c : Int} (hf : ∀ i, a * f i + b * g i = c * h i) : ∀ k, a * csum f k + b * csum g k = c * csum h k
  | 0 => by simp [csum]
  | k + 1 => by
    have ih := csum_lin hf k
    have hk := hf k
    simp only [csum, Int.mul_add]
    omega
theorem conS_app (f : Ld → Int) (ls ms : List Ld) (k : Nat) : conS f (ls ++ ms) k = conS f ls k + conS f ms k := by simp [conS]
theorem conS_w (n : Int) (k : Nat) : ∀ ms : List Ld, conS Ld.w (ms.map (sclN n)) k = n * conS Ld.w ms k
  | [] => by simp [conS]
  | m :: ms => by
    have ih := conS_w n k ms
    have e : ∀ (f : Ld → Int) (l : Ld) (ls : List Ld), conS f (l :: ls) k = (if l.s = (k : Int) then f l else 0) + conS f ls k := fun f l ls => by simp [conS]
    rw [List.map_cons, e, e, ih, Int.mul_add]
    have hs : (sclN n m).s = m.s := rfl
    have hw : (sclN n m).w = n * m.w := rfl
    rw [hs, hw]
    split <;> simp
theorem conS_m (n : Int) (k : Nat) : ∀ ms : List Ld, conS momL (ms.map (sclN n)) k = n * conS momL ms k
  | [] => by simp [conS]
  | m :: ms => by
    have ih := conS_m n k ms
    have e : ∀ (f : Ld → Int) (l : Ld) (ls : List Ld), conS f (l :: ls) k = (if l.s = (k : Int) then f l else 0) + conS f ls k := fun f l ls => by simp [conS]
    rw [List.map_cons, e, e, ih, Int.mul_add]
    have hs : (sclN n m).s = m.s := rfl
    have hw : momL (sclN n m) = n * momL m := Int.mul_assoc _ _ _
    rw [hs, hw]
    split <;> simp
theorem lin_n {a b n1 n2 n3 : Int} : (n3 - n2) * (a + n1 * b) + (n2 - n1) * (a + n3 * b) = (n3 - n1) * (a + n2 * b) := by grind
theorem lw_csum {js : List Jt} {ls : List Ld} (h : loadsB js ls = true) {k : Nat} (hk : k ≤ 7) : lwA js ls k = csum (addW js ls) k := by
  have h6 := loads_six h
  refine sumW_csum (B := 189600) (by omega) (fun i _ => ?_) (by omega)
  have h1 := weight_bd (qd js i)
  have h2 := conS_bd (f := Ld.w) (B := 10000) (by omega) i (ls := ls) (fun l hl => by have := load_in h l hl; omega)
  have h3 : (ls.length : Int) * 10000 ≤ 60000 := by omega
  simp only [addW]
  omega
theorem lm_csum {js : List Jt} {ls : List Ld} (h : loadsB js ls = true) {k : Nat} (hk : k ≤ 7) : lmA js ls k = csum (addM js ls) k := by
  have h6 := loads_six h
  refine sumW_csum (B := 8784000) (by omega) (fun i _ => ?_) (by omega)
  have h1 := mom_bd (qd js i)
  have h2 := conS_bd (f := momL) (B := 600000) (by omega) i (ls := ls) (fun l hl => by
    have h3 := load_in h l hl
    have := mul_bd (a := l.w) (b := l.x) (m := 10000) (n := 60) (by omega) (by omega)
    simp only [momL]
    omega)
  have h3 : (ls.length : Int) * 600000 ≤ 3600000 := by omega
  simp only [addM]
  omega
theorem rowI_d {js : List Jt} {ls : List Ld} (h : loadsB js ls = true) {k : Nat} (hk : k < js.length) : (rowI js ls k).d = lmA js ls k - (jat js k).i.x * lwA js ls k := by
  have ha := loads_arch h
  have h8 := arch_len ha
  have hj := joint_in ha hk
  rw [ptOk_true, ptOk_true] at hj
  have h1 := lw_bd h (k := k) (by omega)
  have h2 := lm_bd h (k := k) (by omega)
  have h3 := mul_bd (a := (jat js k).i.x) (b := lwA js ls k) (m := 60) (n := 1327200) (by omega) (by omega)
  unfold rowI
  simp only
  rw [w64 (n := (jat js k).i.x * lwA js ls k) (by omega), w64 (by omega)]
theorem rowO_d {js : List Jt} {ls : List Ld} (h : loadsB js ls = true) {k : Nat} (hk : k < js.length) : (rowO js ls k).d = (jat js k).o.x * lwA js ls k - lmA js ls k := by
  have ha := loads_arch h
  have h8 := arch_len ha
  have hj := joint_in ha hk
  rw [ptOk_true, ptOk_true] at hj
  have h1 := lw_bd h (k := k) (by omega)
  have h2 := lm_bd h (k := k) (by omega)
  have h3 := mul_bd (a := (jat js k).o.x) (b := lwA js ls k) (m := 60) (n := 1327200) (by omega) (by omega)
  unfold rowO
  simp only
  rw [w64 (n := (jat js k).o.x * lwA js ls k) (by omega), w64 (by omega)]
theorem join_loads {js : List Jt} {ls ms : List Ld} {n1 n2 n3 : Int} (h12 : n1 ≤ n2) (h23 : n2 ≤ n3) (j1 : joinB ls ms n1 = true) (j3 : joinB ls ms n3 = true) (b3 : loadsB js (joinL ls ms n3) = true) : joinB ls ms n2 = true ∧ loadsB js (joinL ls ms n2) = true := by
  simp only [joinB, Bool.and_eq_true, decide_eq_true_eq] at j1 j3 ⊢
  obtain ⟨a1, a2, a3⟩ := scl_at j1.1
  obtain ⟨c1, c2, c3⟩ := scl_at j3.1
  rw [inR_true] at a1 c1
  have hw : ∀ m ∈ ms, inR m.w 0 10000 = true ∧ 0 ≤ n2 * m.w ∧ n2 * m.w ≤ 10000 := by
    intro m hm
    obtain ⟨k, hk⟩ := List.mem_iff_getElem?.1 hm
    have hl := (List.getElem?_eq_some_iff.1 hk).1
    have e : lat ms k = m := by have := lat_lt hl; rw [this] at hk; exact Option.some.inj hk
    have := c3 k hl
    rw [e, inR_true] at this
    refine ⟨inR_true.2 this.1, Int.mul_nonneg (by omega) this.1.1, ?_⟩
    have := Int.mul_le_mul_of_nonneg_right h23 this.1.1
    omega
  refine ⟨⟨?_, j3.2⟩, ?_⟩
  · simp only [sclB, Bool.and_eq_true, decide_eq_true_eq, List.all_eq_true, inR_true, sclOk]
    exact ⟨by omega, c2, fun m hm => ⟨inR_true.1 (hw m hm).1, (hw m hm).2.2⟩⟩
  · simp only [loadsB, Bool.and_eq_true, decide_eq_true_eq, List.all_eq_true, joinL, List.length_append, List.length_map] at b3 ⊢
    refine ⟨b3.1, b3.2.1, fun l hl => ?_⟩
    rcases List.mem_append.1 hl with h | h
    · exact b3.2.2 l (List.mem_append.2 (.inl h))
    · obtain ⟨m, hm, rfl⟩ := List.mem_map.1 h
      have := b3.2.2 (sclN n3 m) (List.mem_append.2 (.inr (List.mem_map.2 ⟨m, hm, rfl⟩)))
      simp only [ldOk, sclN, Bool.and_eq_true, inR_true] at this ⊢
      have := (hw m hm).2
      omega
theorem lw_lin {js : List Jt} {ls ms : List Ld} {n1 n2 n3 : Int} (b1 : loadsB js (joinL ls ms n1) = true) (b2 : loadsB js (joinL ls ms n2) = true) (b3 : loadsB js (joinL ls ms n3) = true) {k : Nat} (hk : k ≤ 7) :
    (n3 - n2) * lwA js (joinL ls ms n1) k + (n2 - n1) * lwA js (joinL ls ms n3) k = (n3 - n1) * lwA js (joinL ls ms n2) k := by
  rw [lw_csum b1 hk, lw_csum b2 hk, lw_csum b3 hk]
  refine csum_lin (fun i => ?_) k
  simp only [addW, joinL, conS_app, conS_w, ← Int.add_assoc]
  exact lin_n
theorem lm_lin {js : List Jt} {ls ms : List Ld} {n1 n2 n3 : Int} (b1 : loadsB js (joinL ls ms n1) = true) (b2 : loadsB js (joinL ls ms n2) = true) (b3 : loadsB js (joinL ls ms n3) = true) {k : Nat} (hk : k ≤ 7) :
    (n3 - n2) * lmA js (joinL ls ms n1) k + (n2 - n1) * lmA js (joinL ls ms n3) k = (n3 - n1) * lmA js (joinL ls ms n2) k := by
  rw [lm_csum b1 hk, lm_csum b2 hk, lm_csum b3 hk]
  refine csum_lin (fun i => ?_) k
  simp only [addM, joinL, conS_app, conS_m, ← Int.add_assoc]
  exact lin_n
theorem row_mid {a b c d1 d2 d3 p q g H1 V1 M1 E1 H3 V3 M3 E3 : Int} (hp : 0 ≤ p) (hq : 0 ≤ q) (h1 : 0 < E1) (h3 : 0 < E3) (hd : p * d1 + q * d3 = g * d2) (r1 : a * H1 + b * V1 + c * M1 ≤ d1 * E1) (r3 : a * H3 + b * V3 + c * M3 ≤ d3 * E3) :
    a * (p * E3 * H1 + q * E1 * H3) + b * (p * E3 * V1 + q * E1 * V3) + c * (p * E3 * M1 + q * E1 * M3) ≤ d2 * (g * (E1 * E3)) := by
  have m1 := Int.mul_le_mul_of_nonneg_left r1 (Int.mul_nonneg hp (Int.le_of_lt h3))
  have m3 := Int.mul_le_mul_of_nonneg_left r3 (Int.mul_nonneg hq (Int.le_of_lt h1))
  have e1 : a * (p * E3 * H1 + q * E1 * H3) + b * (p * E3 * V1 + q * E1 * V3) + c * (p * E3 * M1 + q * E1 * M3) = p * E3 * (a * H1 + b * V1 + c * M1) + q * E1 * (a * H3 + b * V3 + c * M3) := by grind
  have e2 : d2 * (g * (E1 * E3)) = p * E3 * (d1 * E1) + q * E1 * (d3 * E3) := by
    have : d2 * (g * (E1 * E3)) = (g * d2) * (E1 * E3) := by grind
    rw [this, ← hd]
    grind
  rw [e1, e2]
  omega
theorem sat_mid {js : List Jt} {ls ms : List Ld} {n1 n2 n3 : Int} (h12 : n1 ≤ n2) (h23 : n2 ≤ n3) (s1 : satB js ls ms n1 = true) (s3 : satB js ls ms n3 = true) : satB js ls ms n2 = true := by
  by_cases e : n1 = n3
  · have : n2 = n1 := by omega
    rw [this]; exact s1
  simp only [satB, Bool.and_eq_true] at s1 s3 ⊢
  obtain ⟨b1, H1, V1, M1, E1, hE1, f1⟩ := stands_feas s1.2
  obtain ⟨b3, H3, V3, M3, E3, hE3, f3⟩ := stands_feas s3.2
  obtain ⟨j2, b2⟩ := join_loads h12 h23 s1.1 s3.1 b3
  refine ⟨j2, ?_⟩
  have h8 := arch_len (loads_arch b2)
  have hin : ∀ (l : List Ld) (k : Nat), k < js.length → rowI js l k ∈ rowsAll js l ∧ rowO js l k ∈ rowsAll js l := fun l k hk => by
    have hl := rowsAll_len js l
    have := rowsAll_I (js := js) (ls := l) hk
    exact ⟨this.1 ▸ rows_at (by omega), this.2 ▸ rows_at (by omega)⟩
  have hne : corL (rowsA js (joinL ls ms n2)) ≠ [] := by
    refine feas_stands b2 ⟨(n3 - n2) * E3 * H1 + (n2 - n1) * E1 * H3, (n3 - n2) * E3 * V1 + (n2 - n1) * E1 * V3, (n3 - n2) * E3 * M1 + (n2 - n1) * E1 * M3, (n3 - n1) * (E1 * E3), Int.mul_pos (by omega) (Int.mul_pos hE1 hE3), fun r hr => ?_⟩
    rcases rowsAll_mem hr with ⟨k, hk, rfl | rfl⟩ | rfl
    · have r1 := f1 _ (hin (joinL ls ms n1) k hk).1
      have r3 := f3 _ (hin (joinL ls ms n3) k hk).1
      have x1 := lw_lin b1 b2 b3 (k := k) (by omega)
      have x2 := lm_lin b1 b2 b3 (k := k) (by omega)
      refine row_mid (d1 := (rowI js (joinL ls ms n1) k).d) (d3 := (rowI js (joinL ls ms n3) k).d) (by omega) (by omega) hE1 hE3 ?_ r1 r3
      rw [rowI_d b1 hk, rowI_d b2 hk, rowI_d b3 hk]
      grind
    · have r1 := f1 _ (hin (joinL ls ms n1) k hk).2
      have r3 := f3 _ (hin (joinL ls ms n3) k hk).2
      have x1 := lw_lin b1 b2 b3 (k := k) (by omega)
      have x2 := lm_lin b1 b2 b3 (k := k) (by omega)
      refine row_mid (d1 := (rowO js (joinL ls ms n1) k).d) (d3 := (rowO js (joinL ls ms n3) k).d) (by omega) (by omega) hE1 hE3 ?_ r1 r3
      rw [rowO_d b1 hk, rowO_d b2 hk, rowO_d b3 hk]
      grind
    · have r1 := f1 rowE (by simp [rowsAll])
      have r3 := f3 rowE (by simp [rowsAll])
      exact row_mid (d1 := rowE.d) (d3 := rowE.d) (by omega) (by omega) hE1 hE3 (by simp [rowE]) r1 r3
  rw [stnB, thrL]
  obtain ⟨t, l, e⟩ := List.exists_cons_of_ne_nil hne
  rw [e]
  rfl
theorem std_side (js : List Jt) (ls ms : List Ld) : ∀ k : Nat, ((stdL js ls ms k).length = 0 ∧ lowR js ls ms k = -1 ∧ highR js ls ms k = -2) ∨
    (∃ lo hi : Nat, lowR js ls ms k = lo ∧ highR js ls ms k = hi ∧ lo ≤ hi ∧ hi < k ∧ satB js ls ms lo = true ∧ satB js ls ms hi = true ∧ (∀ j : Nat, j < k → satB js ls ms j = true → lo ≤ j ∧ j ≤ hi) ∧ (stdL js ls ms k).length = hi - lo + 1)
  | 0 => .inl ⟨rfl, rfl, rfl⟩
  | k + 1 => by
    have ih := std_side js ls ms k
    have none_sat : (stdL js ls ms k).length = 0 → ∀ j : Nat, j < k → satB js ls ms j = false := by
      intro h0 j hj
      have key : ∀ m, j < m → satB js ls ms j = true → 0 < (stdL js ls ms m).length := by
        intro m hm hs
        induction m with
        | zero => omega
        | succ m ih =>
          by_cases e : j = m
          · subst e; simp [stdL, hs]
          · have := ih (by omega)
            simp only [stdL]
            cases satB js ls ms m <;> simp <;> omega
      cases e : satB js ls ms j
      · rfl
      · have := key k hj e; omega
    cases z : satB js ls ms k
    · rw [show stdL js ls ms (k + 1) = stdL js ls ms k by simp [stdL, z], show lowR js ls ms (k + 1) = lowR js ls ms k by simp [lowR, z], show highR js ls ms (k + 1) = highR js ls ms k by simp [highR, z]]
      refine ih.imp id ?_
      rintro ⟨lo, hi, h1, h2, h3, h4, h5, h6, h7, h8⟩
      refine ⟨lo, hi, h1, h2, h3, by omega, h5, h6, fun j hj hs => ?_, h8⟩
      by_cases e : j = k
      · subst e; rw [z] at hs; cases hs
      · exact h7 j (by omega) hs
    · rw [show stdL js ls ms (k + 1) = stdL js ls ms k ++ [(k : Int)] by simp [stdL, z], show highR js ls ms (k + 1) = (k : Int) by simp [highR, z]]
      refine .inr ?_
      rcases ih with ⟨h1, h2, h3⟩ | ⟨lo, hi, h1, h2, h3, h4, h5, h6, h7, h8⟩
      · refine ⟨k, k, by simp [lowR, z, h2], rfl, Nat.le_refl _, by omega, z, z, fun j hj hs => ?_, by simp [h1]⟩
        by_cases e : j = k
        · omega
        · have := none_sat h1 j (by omega); rw [this] at hs; cases hs
      · have hk : hi = k - 1 := by
          refine Classical.byContradiction fun hne => ?_
          have := sat_mid (js := js) (ls := ls) (ms := ms) (n1 := hi) (n2 := (k - 1 : Nat)) (n3 := k) (by omega) (by omega) h6 z
          have := h7 (k - 1) (by omega) this
          omega
        refine ⟨lo, k, by simp [lowR, z, h1]; omega, rfl, by omega, by omega, h5, z, fun j hj hs => ?_, by simp; omega⟩
        by_cases e : j = k
        · omega
        · have := h7 j (by omega) hs; omega
end Go.Proofs.YtkieepmkcaipaaaGreat
