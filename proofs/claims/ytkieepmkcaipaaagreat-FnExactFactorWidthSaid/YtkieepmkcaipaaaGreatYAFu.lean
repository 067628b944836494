/- factorsUpTo, l18Range; GreatestFactor, LeastFactor, both ways. -/
import Derived.Test.YtkieepmkcaipaaaGreatYAJl
import Derived.Test.YtkieepmkcaipaaaGreatZ9
namespace Go.Proofs.YtkieepmkcaipaaaGreat
open Go.Eng
set_option maxRecDepth 100000
attribute [local irreducible] QV TV WL HW W CallOk CallOkA Weak
attribute [local irreducible] CallOkE CallOkEA

def stdL (js : List Jt) (ls ms : List Ld) : Nat → List Int
  | 0 => []
  | k + 1 => bif satB js ls ms k then stdL js ls ms k ++ [(k : Int)] else stdL js ls ms k
def lowR (js : List Jt) (ls ms : List Ld) : Nat → Int
  | 0 => -1
  | k + 1 => bif satB js ls ms k then (if lowR js ls ms k < 0 then (k : Int) else lowR js ls ms k) else lowR js ls ms k
def highR (js : List Jt) (ls ms : List Ld) : Nat → Int
  | 0 => -2
  | k + 1 => bif satB js ls ms k then (k : Int) else highR js ls ms k
def facN (most : Int) : Nat := if inR most 0 60 then most.toNat + 1 else 0
theorem facN_le (most : Int) : facN most ≤ 61 := by
  unfold facN
  split
  · rename_i h; rw [inR_true] at h; omega
  · omega
theorem stdL_len (js : List Jt) (ls ms : List Ld) : ∀ k, (stdL js ls ms k).length ≤ k
  | 0 => Nat.le_refl _
  | k + 1 => by
    have := stdL_len js ls ms k
    simp only [stdL]
    cases satB js ls ms k <;> simp <;> omega
theorem lowR_bd (js : List Jt) (ls ms : List Ld) : ∀ k : Nat, -1 ≤ lowR js ls ms k ∧ lowR js ls ms k < k
  | 0 => by simp [lowR]
  | k + 1 => by
    have := lowR_bd js ls ms k
    simp only [lowR]
    cases satB js ls ms k
    · simp only [cond_false]; omega
    · simp only [cond_true]; split <;> omega
theorem highR_bd (js : List Jt) (ls ms : List Ld) : ∀ k : Nat, -2 ≤ highR js ls ms k ∧ highR js ls ms k < k
  | 0 => by simp [highR]
  | k + 1 => by
    have := highR_bd js ls ms k
    simp only [highR]
    cases satB js ls ms k
    · simp only [cond_false]; omega
    · simp only [cond_true]; omega
abbrev oI (n : Nat) (l : List Int) : AV := .own n 3 1 (l.map iRow)
theorem i_app {l : List Int} {n : Int} : l.map iRow ++ [[vi n]] = (l ++ [n]).map iRow := by simp
theorem stands1_ok (js : List Jt) (ls ms : List Ld) (k : Int) (hj : js.length ≤ 1048576) (hl : ls.length ≤ 1048576) (hm : ms.length ≤ 1048576) : CallOkEA Tryz.prog 130 [vi k, .eptr [slJt js], .eptr [slLd ls], .eptr [slLd ms]] (fun r => r = vb (satB js ls ms k)) := by
  have h1 := implStandsAt_ok js ls ms k hj hl hm
  refine callOkEX Tryz.func130 Tryz.ntmps130 Tryz.results130 rfl rfl rfl fun B w0 M I0 V0 hal => ?_
  (repeat (first | refine WL_nil ?_ | (apply wl0 (hd := rfl); (first | exact qv0 | exact QV_bne Tryz.underlying4 rfl rfl | exact QV_beq Tryz.underlying4 rfl rfl | exact qv1 | exact q_callAX hal (h1)); (exact gy0)) | (apply wlb (hd := rfl); (first | exact q_box rfl rfl rfl | exact q_alloc); (exact gy0); rfl) | refine wln ⟨_, rfl, rfl⟩ rfl ?_ | refine wlnu ⟨_, rfl, rfl⟩ rfl ?_ | refine wst rfl rfl rfl List.not_mem_nil rfl rfl rfl rfl rfl rfl ?_ | refine W_seq ?_ | refine W_condT rfl ?_ | refine W_condF rfl ?_ | refine W_region ?_ | refine W_skip ?_ | refine W_ret ?_ | refine W_block ?_ | refine W_exit ?_))
  refine Exists.intro _ ⟨Weak.refl _, Exists.intro _ ⟨resA_tmp rfl rfl, ?_, rfl⟩⟩
  rfl
theorem factorsUpTo_own (js : List Jt) (ls ms : List Ld) (most : Int) (hj : js.length ≤ 1048576) (hl : ls.length ≤ 1048576) (hm : ms.length ≤ 1048576) : CallOkA Tryz.prog 81 [.agg [slJt js], slLd ls, slLd ms, vi most] (fun r => r = oI 10 (stdL js ls ms (facN most))) := by
  have w1 := within_ok most 0 60
  refine callOkX Tryz.func81 Tryz.ntmps81 Tryz.results81 rfl rfl rfl fun B w0 M I0 V0 hal => ?_
  cases e1 : inR most 0 60
  · rw [e1] at w1
    rw [show facN most = 0 by simp [facN, e1]]
    (repeat (first | refine WL_nil ?_ | (apply wl0 (hd := rfl); (first | exact qv0 | exact QV_bne Tryz.underlying4 rfl rfl | exact QV_beq Tryz.underlying4 rfl rfl | exact qv1 | exact q_callA (w1)); (exact gy0)) | (apply wlb (hd := rfl); (first | exact q_box rfl rfl rfl | exact q_alloc); (exact gy0); rfl) | refine wln ⟨_, rfl, rfl⟩ rfl ?_ | refine wlnu ⟨_, rfl, rfl⟩ rfl ?_ | refine wst rfl rfl rfl List.not_mem_nil rfl rfl rfl rfl rfl rfl ?_ | refine W_seq ?_ | refine W_condT rfl ?_ | refine W_condF rfl ?_ | refine W_region ?_ | refine W_skip ?_ | refine W_ret ?_ | refine W_block ?_ | refine W_exit ?_))
    refine Exists.intro (⟨[(8, oI 10 [])], [], [10]⟩ : St) ⟨wkO, Exists.intro _ ⟨resA_tmp rfl rfl, ?_, rfl⟩⟩
    rfl
  · rw [e1] at w1
    have hb := inR_true.1 e1
    obtain ⟨m, rfl⟩ : ∃ m : Nat, most = m := ⟨most.toNat, by omega⟩
    rw [show facN m = m + 1 by simp [facN, e1]]
    have a0 : abin .add .i64 (m : Int) 1 = some (.int .i64 ((m + 1 : Nat) : Int)) := by simp only [abin]; rw [i64w (by omega)]; rfl
    (repeat (first | refine WL_nil ?_ | (apply wl0 (hd := rfl); (first | exact QV_bin rfl rfl a0 | exact qv0 | exact QV_bne Tryz.underlying4 rfl rfl | exact QV_beq Tryz.underlying4 rfl rfl | exact qv1 | exact q_callA (w1)); (exact gy0)) | (apply wlb (hd := rfl); (first | exact q_box rfl rfl rfl | exact q_alloc); (exact gy0); rfl) | refine wln ⟨_, rfl, rfl⟩ rfl ?_ | refine wlnu ⟨_, rfl, rfl⟩ rfl ?_ | refine wst rfl rfl rfl List.not_mem_nil rfl rfl rfl rfl rfl rfl ?_ | refine W_seq ?_ | refine W_condT rfl ?_ | refine W_condF rfl ?_ | refine W_region ?_ | refine W_skip ?_ | refine W_ret ?_ | refine W_block ?_ | refine W_exit ?_))
    refine W_loop (fun n s => ∃ k : Nat, k ≤ m + 1 ∧ n = m + 1 - k ∧ s = ⟨[(9, .fn (.func 130) [] [.ptr 4 0, .ptr 5 0, .ptr 6 0]), (10, oI 10 (stdL js ls ms k)), (17, vi (m + 1 : Nat)), (18, vi k)], [(6, [slLd ms]), (5, [slLd ls]), (4, [slJt js])], [10]⟩) ⟨_, _, ⟨0, by omega, rfl, rfl⟩, wkO⟩ ?_
    rintro n s ⟨k, hk, rfl, rfl⟩
    by_cases hlt : k < m + 1
    · have c1 : abin .lss .i64 (k : Int) ((m + 1 : Nat) : Int) = some (.bool true) := by simp [abin]; omega
      have hcl := stands1_ok js ls ms k hj hl hm
      have hlen := stdL_len js ls ms k
      cases z : satB js ls ms k
      · rw [z] at hcl
        (repeat (first | refine WL_nil ?_ | (apply wl0 (hd := rfl); (first | exact QV_bin rfl rfl c1 | exact qv0 | exact QV_bne Tryz.underlying4 rfl rfl | exact QV_beq Tryz.underlying4 rfl rfl | exact qv1 | exact QV_callEX hal hcl rfl (LeE.v (LeE.ptr rfl rfl (LeE.ptr rfl rfl (LeE.ptr rfl rfl LeE.nil)))) rfl); (exact gy0)) | (apply wlb (hd := rfl); (first | exact q_box rfl rfl rfl | exact q_alloc); (exact gy0); rfl) | refine wln ⟨_, rfl, rfl⟩ rfl ?_ | refine wlnu ⟨_, rfl, rfl⟩ rfl ?_ | refine wst rfl rfl rfl List.not_mem_nil rfl rfl rfl rfl rfl rfl ?_ | refine W_seq ?_ | refine W_condT rfl ?_ | refine W_condF rfl ?_ | refine W_region ?_ | refine W_skip ?_ | refine W_ret ?_ | refine W_block ?_ | refine W_exit ?_))
        rw [← (show stdL js ls ms (k + 1) = stdL js ls ms k by simp [stdL, z])]
        refine Exists.intro _ (Exists.intro _ ⟨?_, ⟨k + 1, by omega, rfl, rfl⟩, wkA⟩)
        omega
      · rw [z] at hcl
        have ha : ((stdL js ls ms k).map iRow).length + [[vi (k : Int)]].length ≤ 1048576 := by simp; omega
        (repeat (first | refine WL_nil ?_ | (apply wl0 (hd := rfl); (first | exact QV_bin rfl rfl c1 | exact qv0 | exact QV_bne Tryz.underlying4 rfl rfl | exact QV_beq Tryz.underlying4 rfl rfl | exact qv1 | exact QV_callEX hal hcl rfl (LeE.v (LeE.ptr rfl rfl (LeE.ptr rfl rfl (LeE.ptr rfl rfl LeE.nil)))) rfl); (exact gy0)) | (apply wlb (hd := rfl); (first | exact q_box rfl rfl rfl | exact q_alloc); (exact gy0); rfl) | refine wln ⟨_, rfl, rfl⟩ rfl ?_ | refine wlnu ⟨_, rfl, rfl⟩ rfl ?_ | (apply wln1 (hd := rfl); exact q_buildSlice 26 rfl rfl rfl rfl; (exact gy0); rfl) | refine wst rfl rfl rfl List.not_mem_nil rfl rfl rfl rfl rfl rfl ?_ | refine wappE rfl rfl rfl (one_cell _) (one_len _) ha rfl rfl i_app rfl rfl ?_ | refine W_seq ?_ | refine W_condT rfl ?_ | refine W_condF rfl ?_ | refine W_region ?_ | refine W_skip ?_ | refine W_ret ?_ | refine W_block ?_ | refine W_exit ?_))
        rw [← (show stdL js ls ms (k + 1) = stdL js ls ms k ++ [(k : Int)] by simp [stdL, z])]
        refine Exists.intro _ (Exists.intro _ ⟨?_, ⟨k + 1, by omega, rfl, rfl⟩, wkA⟩)
        omega
    · have c1 : abin .lss .i64 (k : Int) ((m + 1 : Nat) : Int) = some (.bool false) := by simp [abin]; omega
      have hk' : k = m + 1 := by omega
      subst hk'
      (repeat (first | refine WL_nil ?_ | (apply wl0 (hd := rfl); (first | exact QV_bin rfl rfl c1 | exact qv0 | exact QV_bne Tryz.underlying4 rfl rfl | exact QV_beq Tryz.underlying4 rfl rfl | exact qv1); (exact gy0)) | (apply wlb (hd := rfl); (first | exact q_box rfl rfl rfl | exact q_alloc); (exact gy0); rfl) | refine wln ⟨_, rfl, rfl⟩ rfl ?_ | refine wlnu ⟨_, rfl, rfl⟩ rfl ?_ | refine wst rfl rfl rfl List.not_mem_nil rfl rfl rfl rfl rfl rfl ?_ | refine W_seq ?_ | refine W_condT rfl ?_ | refine W_condF rfl ?_ | refine W_region ?_ | refine W_skip ?_ | refine W_ret ?_ | refine W_block ?_ | refine W_exit ?_))
      refine Exists.intro _ ⟨Weak.refl _, Exists.intro _ ⟨resA_tmp rfl rfl, ?_, rfl⟩⟩
      rfl
theorem factorsUpTo_ok (js : List Jt) (ls ms : List Ld) (most : Int) (hj : js.length ≤ 1048576) (hl : ls.length ≤ 1048576) (hm : ms.length ≤ 1048576) : CallOkA Tryz.prog 81 [.agg [slJt js], slLd ls, slLd ms, vi most] (fun r => r = slI (stdL js ls ms (facN most))) := callOkA_dat (factorsUpTo_own js ls ms most hj hl hm) rfl
theorem l18Range_ok (js : List Jt) (ls ms : List Ld) (most : Int) (hj : js.length ≤ 1048576) (hl : ls.length ≤ 1048576) (hm : ms.length ≤ 1048576) : CallOk Tryz.prog 93 [.agg [slJt js], slLd ls, slLd ms, vi most] (fun r => r = .tup [vi (lowR js ls ms (facN most)), vi (highR js ls ms (facN most))]) := by
  have hN := facN_le most
  refine callOk Tryz.func93 Tryz.ntmps93 Tryz.results93 rfl rfl rfl fun B w0 M I0 V0 => ?_
  (repeat (first | refine WL_nil ?_ | (apply wl0 (hd := rfl); (first | exact qv0 | exact QV_bne Tryz.underlying4 rfl rfl | exact QV_beq Tryz.underlying4 rfl rfl | exact qv1); (exact gy0)) | (apply wlb (hd := rfl); (first | exact q_box rfl rfl rfl | exact q_alloc); (exact gy0); rfl) | refine wln ⟨_, rfl, rfl⟩ rfl ?_ | refine wlnu ⟨_, rfl, rfl⟩ rfl ?_ | refine wst rfl rfl rfl List.not_mem_nil rfl rfl rfl rfl rfl rfl ?_ | refine W_seq ?_ | refine W_condT rfl ?_ | refine W_condF rfl ?_ | refine W_region ?_ | refine W_skip ?_ | refine W_ret ?_ | refine W_block ?_ | refine W_exit ?_))
  refine W_loop (fun n s => ∃ k : Nat, k ≤ facN most ∧ n = facN most - k ∧ s = ⟨[(1, slLd ls), (2, slLd ms), (3, vi most), (4, .ptr 4 0), (10, vi (lowR js ls ms k)), (11, vi (highR js ls ms k)), (12, vi k)], [(4, [slJt js])], []⟩) ⟨_, _, ⟨0, by omega, rfl, rfl⟩, wkA⟩ ?_
  rintro n s ⟨k, hk, rfl, rfl⟩
  by_cases hlt : k < facN most
  · have e1 : inR most 0 60 = true := by
      unfold facN at hlt
      split at hlt
      · assumption
      · omega
    have hb := inR_true.1 e1
    have hf : facN most = most.toNat + 1 := by simp [facN, e1]
    have c1 : abin .leq .i64 (k : Int) most = some (.bool true) := by simp [abin]; omega
    have c2 : abin .leq .i64 most 60 = some (.bool true) := by simp [abin]; omega
    have hs := standsAt_ok js ls ms k hj hl hm
    have hL := lowR_bd js ls ms k
    cases z : satB js ls ms k
    · rw [z] at hs
      (repeat (first | refine WL_nil ?_ | (apply wl0 (hd := rfl); (first | exact QV_bin rfl rfl c1 | exact QV_bin rfl rfl c2 | exact qv0 | exact QV_bne Tryz.underlying4 rfl rfl | exact QV_beq Tryz.underlying4 rfl rfl | exact qv1 | exact q_callA (hs)); (exact gy0)) | (apply wlb (hd := rfl); (first | exact q_box rfl rfl rfl | exact q_alloc); (exact gy0); rfl) | refine wln ⟨_, rfl, rfl⟩ rfl ?_ | refine wlnu ⟨_, rfl, rfl⟩ rfl ?_ | refine wst rfl rfl rfl List.not_mem_nil rfl rfl rfl rfl rfl rfl ?_ | refine W_seq ?_ | refine W_condT rfl ?_ | refine W_condF rfl ?_ | refine W_region ?_ | refine W_skip ?_ | refine W_ret ?_ | refine W_block ?_ | refine W_exit ?_))
      rw [← (show lowR js ls ms (k + 1) = lowR js ls ms k by simp [lowR, z]), ← (show highR js ls ms (k + 1) = highR js ls ms k by simp [highR, z])]
      refine Exists.intro _ (Exists.intro _ ⟨?_, ⟨k + 1, by omega, rfl, rfl⟩, wkA⟩)
      omega
    · rw [z] at hs
      have eH : highR js ls ms (k + 1) = (k : Int) := by simp [highR, z]
      by_cases hn : lowR js ls ms k < 0
      · have c3 : abin .lss .i64 (lowR js ls ms k) 0 = some (.bool true) := by simp [abin]; omega
        have eL : lowR js ls ms (k + 1) = (k : Int) := by simp [lowR, z, hn]
        have eS : (⟨[(1, slLd ls), (2, slLd ms), (3, vi most), (4, .ptr 4 0), (10, vi (lowR js ls ms (k + 1))), (11, vi (highR js ls ms (k + 1))), (12, vi (k + 1 : Nat))], [(4, [slJt js])], []⟩ : St) = ⟨[(1, slLd ls), (2, slLd ms), (3, vi most), (4, .ptr 4 0), (10, vi k), (11, vi k), (12, vi (k + 1 : Nat))], [(4, [slJt js])], []⟩ := by rw [eL, eH]
        (repeat (first | refine WL_nil ?_ | (apply wl0 (hd := rfl); (first | exact QV_bin rfl rfl c1 | exact QV_bin rfl rfl c2 | exact QV_bin rfl rfl c3 | exact qv0 | exact QV_bne Tryz.underlying4 rfl rfl | exact QV_beq Tryz.underlying4 rfl rfl | exact qv1 | exact q_callA (hs)); (exact gy0)) | (apply wlb (hd := rfl); (first | exact q_box rfl rfl rfl | exact q_alloc); (exact gy0); rfl) | refine wln ⟨_, rfl, rfl⟩ rfl ?_ | refine wlnu ⟨_, rfl, rfl⟩ rfl ?_ | refine wst rfl rfl rfl List.not_mem_nil rfl rfl rfl rfl rfl rfl ?_ | refine W_seq ?_ | refine W_condT rfl ?_ | refine W_condF rfl ?_ | refine W_region ?_ | refine W_skip ?_ | refine W_ret ?_ | refine W_block ?_ | refine W_exit ?_))
        refine Exists.intro _ (Exists.intro _ ⟨?_, ⟨k + 1, by omega, rfl, rfl⟩, by rw [eS]; exact wkA⟩)
        omega
      · have c3 : abin .lss .i64 (lowR js ls ms k) 0 = some (.bool false) := by simp [abin]; omega
        have eL : lowR js ls ms (k + 1) = lowR js ls ms k := by simp [lowR, z, hn]
        have eS : (⟨[(1, slLd ls), (2, slLd ms), (3, vi most), (4, .ptr 4 0), (10, vi (lowR js ls ms (k + 1))), (11, vi (highR js ls ms (k + 1))), (12, vi (k + 1 : Nat))], [(4, [slJt js])], []⟩ : St) = ⟨[(1, slLd ls), (2, slLd ms), (3, vi most), (4, .ptr 4 0), (10, vi (lowR js ls ms k)), (11, vi k), (12, vi (k + 1 : Nat))], [(4, [slJt js])], []⟩ := by rw [eL, eH]
        (repeat (first | refine WL_nil ?_ | (apply wl0 (hd := rfl); (first | exact QV_bin rfl rfl c1 | exact QV_bin rfl rfl c2 | exact QV_bin rfl rfl c3 | exact qv0 | exact QV_bne Tryz.underlying4 rfl rfl | exact QV_beq Tryz.underlying4 rfl rfl | exact qv1 | exact q_callA (hs)); (exact gy0)) | (apply wlb (hd := rfl); (first | exact q_box rfl rfl rfl | exact q_alloc); (exact gy0); rfl) | refine wln ⟨_, rfl, rfl⟩ rfl ?_ | refine wlnu ⟨_, rfl, rfl⟩ rfl ?_ | refine wst rfl rfl rfl List.not_mem_nil rfl rfl rfl rfl rfl rfl ?_ | refine W_seq ?_ | refine W_condT rfl ?_ | refine W_condF rfl ?_ | refine W_region ?_ | refine W_skip ?_ | refine W_ret ?_ | refine W_block ?_ | refine W_exit ?_))
        refine Exists.intro _ (Exists.intro _ ⟨?_, ⟨k + 1, by omega, rfl, rfl⟩, by rw [eS]; exact wkA⟩)
        omega
  · have hk' : k = facN most := by omega
    have fin : (∃ c1 : abin .leq .i64 (k : Int) most = some (.bool true), abin .leq .i64 most 60 = some (.bool false)) ∨ abin .leq .i64 (k : Int) most = some (.bool false) := by
      cases e1 : inR most 0 60
      · rw [show facN most = 0 by simp [facN, e1]] at hk'
        by_cases h0 : 0 ≤ most
        · have h60 : ¬ most ≤ 60 := fun h => by rw [inR_true.2 ⟨h0, h⟩] at e1; cases e1
          exact .inl ⟨by simp [abin]; omega, by simp [abin]; omega⟩
        · exact .inr (by simp [abin]; omega)
      · have hb := inR_true.1 e1
        rw [show facN most = most.toNat + 1 by simp [facN, e1]] at hk'
        exact .inr (by simp [abin]; omega)
    rw [← hk']
    rcases fin with ⟨c1, c2⟩ | c1
    · (repeat (first | refine WL_nil ?_ | (apply wl0 (hd := rfl); (first | exact QV_bin rfl rfl c1 | exact QV_bin rfl rfl c2 | exact qv0 | exact QV_bne Tryz.underlying4 rfl rfl | exact QV_beq Tryz.underlying4 rfl rfl | exact qv1); (exact gy0)) | (apply wlb (hd := rfl); (first | exact q_box rfl rfl rfl | exact q_alloc); (exact gy0); rfl) | refine wln ⟨_, rfl, rfl⟩ rfl ?_ | refine wlnu ⟨_, rfl, rfl⟩ rfl ?_ | refine wst rfl rfl rfl List.not_mem_nil rfl rfl rfl rfl rfl rfl ?_ | refine W_seq ?_ | refine W_condT rfl ?_ | refine W_condF rfl ?_ | refine W_region ?_ | refine W_skip ?_ | refine W_ret ?_ | refine W_block ?_ | refine W_exit ?_))
      refine Exists.intro _ ⟨Weak.refl _, Exists.intro _ ⟨resA_tmp rfl (resA_tmp rfl rfl), ?_, rfl⟩⟩
      rfl
    · (repeat (first | refine WL_nil ?_ | (apply wl0 (hd := rfl); (first | exact QV_bin rfl rfl c1 | exact qv0 | exact QV_bne Tryz.underlying4 rfl rfl | exact QV_beq Tryz.underlying4 rfl rfl | exact qv1); (exact gy0)) | (apply wlb (hd := rfl); (first | exact q_box rfl rfl rfl | exact q_alloc); (exact gy0); rfl) | refine wln ⟨_, rfl, rfl⟩ rfl ?_ | refine wlnu ⟨_, rfl, rfl⟩ rfl ?_ | refine wst rfl rfl rfl List.not_mem_nil rfl rfl rfl rfl rfl rfl ?_ | refine W_seq ?_ | refine W_condT rfl ?_ | refine W_condF rfl ?_ | refine W_region ?_ | refine W_skip ?_ | refine W_ret ?_ | refine W_block ?_ | refine W_exit ?_))
      refine Exists.intro _ ⟨Weak.refl _, Exists.intro _ ⟨resA_tmp rfl (resA_tmp rfl rfl), ?_, rfl⟩⟩
      rfl

theorem std_head (js : List Jt) (ls ms : List Ld) : ∀ k, (stdL js ls ms k = [] ∧ lowR js ls ms k = -1 ∧ highR js ls ms k = -2) ∨ (0 < (stdL js ls ms k).length ∧ 0 ≤ lowR js ls ms k ∧ (stdL js ls ms k)[0]? = some (lowR js ls ms k) ∧ 0 ≤ highR js ls ms k ∧ (stdL js ls ms k)[(stdL js ls ms k).length - 1]? = some (highR js ls ms k))
  | 0 => .inl ⟨rfl, rfl, rfl⟩
  | k + 1 => by
    have ih := std_head js ls ms k
    cases z : satB js ls ms k
    · rw [show stdL js ls ms (k + 1) = stdL js ls ms k by simp [stdL, z], show lowR js ls ms (k + 1) = lowR js ls ms k by simp [lowR, z], show highR js ls ms (k + 1) = highR js ls ms k by simp [highR, z]]
      exact ih
    · rw [show stdL js ls ms (k + 1) = stdL js ls ms k ++ [(k : Int)] by simp [stdL, z], show highR js ls ms (k + 1) = (k : Int) by simp [highR, z]]
      refine .inr ?_
      rcases ih with ⟨h1, h2, h3⟩ | ⟨h1, h2, h3, h4, h5⟩
      · rw [show lowR js ls ms (k + 1) = (k : Int) by simp [lowR, z, h2], h1]
        simp
      · rw [show lowR js ls ms (k + 1) = lowR js ls ms k by simp [lowR, z]; omega]
        refine ⟨by simp, h2, by rw [List.getElem?_append_left h1]; exact h3, by omega, ?_⟩
        simp
theorem greatestFactor_ok (js : List Jt) (ls ms : List Ld) (most : Int) (hj : js.length ≤ 1048576) (hl : ls.length ≤ 1048576) (hm : ms.length ≤ 1048576) : CallOk Tryz.prog 52 [.agg [slJt js], slLd ls, slLd ms, vi most] (fun r => r = vi (max (highR js ls ms (facN most)) (-1))) := by
  have h1 := l18Range_ok js ls ms most hj hl hm
  refine callOk Tryz.func52 Tryz.ntmps52 Tryz.results52 rfl rfl rfl fun B w0 M I0 V0 => ?_
  (repeat (first | refine WL_nil ?_ | (apply wl0 (hd := rfl); (first | exact qv0 | exact QV_bne Tryz.underlying4 rfl rfl | exact QV_beq Tryz.underlying4 rfl rfl | exact qv1 | exact q_callA (h1) | exact QV_max rfl rfl); (exact gy0)) | (apply wlb (hd := rfl); (first | exact q_box rfl rfl rfl | exact q_alloc); (exact gy0); rfl) | refine wln ⟨_, rfl, rfl⟩ rfl ?_ | refine wlnu ⟨_, rfl, rfl⟩ rfl ?_ | refine wst rfl rfl rfl List.not_mem_nil rfl rfl rfl rfl rfl rfl ?_ | refine W_seq ?_ | refine W_condT rfl ?_ | refine W_condF rfl ?_ | refine W_region ?_ | refine W_skip ?_ | refine W_ret ?_ | refine W_block ?_ | refine W_exit ?_))
  refine Exists.intro _ ⟨Weak.refl _, Exists.intro _ ⟨resA_tmp rfl rfl, ?_, rfl⟩⟩
  rfl
theorem leastFactor_ok (js : List Jt) (ls ms : List Ld) (most : Int) (hj : js.length ≤ 1048576) (hl : ls.length ≤ 1048576) (hm : ms.length ≤ 1048576) : CallOk Tryz.prog 53 [.agg [slJt js], slLd ls, slLd ms, vi most] (fun r => r = vi (lowR js ls ms (facN most))) := by
  have h1 := l18Range_ok js ls ms most hj hl hm
  refine callOk Tryz.func53 Tryz.ntmps53 Tryz.results53 rfl rfl rfl fun B w0 M I0 V0 => ?_
  (repeat (first | refine WL_nil ?_ | (apply wl0 (hd := rfl); (first | exact qv0 | exact QV_bne Tryz.underlying4 rfl rfl | exact QV_beq Tryz.underlying4 rfl rfl | exact qv1 | exact q_callA (h1)); (exact gy0)) | (apply wlb (hd := rfl); (first | exact q_box rfl rfl rfl | exact q_alloc); (exact gy0); rfl) | refine wln ⟨_, rfl, rfl⟩ rfl ?_ | refine wlnu ⟨_, rfl, rfl⟩ rfl ?_ | refine wst rfl rfl rfl List.not_mem_nil rfl rfl rfl rfl rfl rfl ?_ | refine W_seq ?_ | refine W_condT rfl ?_ | refine W_condF rfl ?_ | refine W_region ?_ | refine W_skip ?_ | refine W_ret ?_ | refine W_block ?_ | refine W_exit ?_))
  refine Exists.intro _ ⟨Weak.refl _, Exists.intro _ ⟨resA_tmp rfl rfl, ?_, rfl⟩⟩
  rfl
theorem factorWidth_ok (js : List Jt) (ls ms : List Ld) (most : Int) (hj : js.length ≤ 1048576) (hl : ls.length ≤ 1048576) (hm : ms.length ≤ 1048576) : CallOk Tryz.prog 44 [.agg [slJt js], slLd ls, slLd ms, vi most] (fun r => r = vi (highR js ls ms (facN most) - lowR js ls ms (facN most) + 1)) := by
  have h1 := l18Range_ok js ls ms most hj hl hm
  have hN := facN_le most
  have b1 := lowR_bd js ls ms (facN most)
  have b2 := highR_bd js ls ms (facN most)
  have s1 : abin .sub .i64 (highR js ls ms (facN most)) (lowR js ls ms (facN most)) = some (.int .i64 (highR js ls ms (facN most) - lowR js ls ms (facN most))) := by simp only [abin]; rw [i64w (by omega)]
  have s2 : abin .add .i64 (highR js ls ms (facN most) - lowR js ls ms (facN most)) 1 = some (.int .i64 (highR js ls ms (facN most) - lowR js ls ms (facN most) + 1)) := by simp only [abin]; rw [i64w (by omega)]
  refine callOk Tryz.func44 Tryz.ntmps44 Tryz.results44 rfl rfl rfl fun B w0 M I0 V0 => ?_
  (repeat (first | refine WL_nil ?_ | (apply wl0 (hd := rfl); (first | exact QV_bin rfl rfl s1 | exact QV_bin rfl rfl s2 | exact qv0 | exact QV_bne Tryz.underlying4 rfl rfl | exact QV_beq Tryz.underlying4 rfl rfl | exact qv1 | exact q_callA (h1)); (exact gy0)) | (apply wlb (hd := rfl); (first | exact q_box rfl rfl rfl | exact q_alloc); (exact gy0); rfl) | refine wln ⟨_, rfl, rfl⟩ rfl ?_ | refine wlnu ⟨_, rfl, rfl⟩ rfl ?_ | refine wst rfl rfl rfl List.not_mem_nil rfl rfl rfl rfl rfl rfl ?_ | refine W_seq ?_ | refine W_condT rfl ?_ | refine W_condF rfl ?_ | refine W_region ?_ | refine W_skip ?_ | refine W_ret ?_ | refine W_block ?_ | refine W_exit ?_))
  refine Exists.intro _ ⟨Weak.refl _, Exists.intro _ ⟨resA_tmp rfl rfl, ?_, rfl⟩⟩
  rfl
theorem implFactorWidth_ok (js : List Jt) (ls ms : List Ld) (most : Int) (hj : js.length ≤ 1048576) (hl : ls.length ≤ 1048576) (hm : ms.length ≤ 1048576) : CallOkA Tryz.prog 28 [.agg [slJt js], slLd ls, slLd ms, vi most] (fun r => r = vi (stdL js ls ms (facN most)).length) := by
  have h1 := factorsUpTo_ok js ls ms most hj hl hm
  refine callOkX Tryz.func28 Tryz.ntmps28 Tryz.results28 rfl rfl rfl fun B w0 M I0 V0 hal => ?_
  (repeat (first | refine WL_nil ?_ | (apply wl0 (hd := rfl); (first | exact qv0 | exact QV_bne Tryz.underlying4 rfl rfl | exact QV_beq Tryz.underlying4 rfl rfl | exact qv1 | exact q_callAX hal (h1)); (exact gy0)) | (apply wlb (hd := rfl); (first | exact q_box rfl rfl rfl | exact q_alloc); (exact gy0); rfl) | refine wln ⟨_, rfl, rfl⟩ rfl ?_ | refine wlnu ⟨_, rfl, rfl⟩ rfl ?_ | refine wst rfl rfl rfl List.not_mem_nil rfl rfl rfl rfl rfl rfl ?_ | refine W_seq ?_ | refine W_condT rfl ?_ | refine W_condF rfl ?_ | refine W_region ?_ | refine W_skip ?_ | refine W_ret ?_ | refine W_block ?_ | refine W_exit ?_))
  refine Exists.intro _ ⟨Weak.refl _, Exists.intro _ ⟨resA_tmp rfl rfl, ?_, rfl⟩⟩
  exact vi_eq (by simp)
theorem implLeastFactor_ok (js : List Jt) (ls ms : List Ld) (most : Int) (hj : js.length ≤ 1048576) (hl : ls.length ≤ 1048576) (hm : ms.length ≤ 1048576) : CallOkA Tryz.prog 26 [.agg [slJt js], slLd ls, slLd ms, vi most] (fun r => r = vi (lowR js ls ms (facN most))) := by
  have h1 := factorsUpTo_ok js ls ms most hj hl hm
  refine callOkX Tryz.func26 Tryz.ntmps26 Tryz.results26 rfl rfl rfl fun B w0 M I0 V0 hal => ?_
  rcases std_head js ls ms (facN most) with ⟨e1, e2, e3⟩ | ⟨e0, e1, e2, e3, e4⟩
  · rw [e1] at h1
    rw [e2]
    (repeat (first | refine WL_nil ?_ | (apply wl0 (hd := rfl); (first | exact qv0 | exact QV_bne Tryz.underlying4 rfl rfl | exact QV_beq Tryz.underlying4 rfl rfl | exact qv1 | exact q_callAX hal (h1)); (exact gy0)) | (apply wlb (hd := rfl); (first | exact q_box rfl rfl rfl | exact q_alloc); (exact gy0); rfl) | refine wln ⟨_, rfl, rfl⟩ rfl ?_ | refine wlnu ⟨_, rfl, rfl⟩ rfl ?_ | refine wst rfl rfl rfl List.not_mem_nil rfl rfl rfl rfl rfl rfl ?_ | refine W_seq ?_ | refine W_condT rfl ?_ | refine W_condF rfl ?_ | refine W_region ?_ | refine W_skip ?_ | refine W_ret ?_ | refine W_block ?_ | refine W_exit ?_))
    refine Exists.intro _ ⟨Weak.refl _, Exists.intro _ ⟨resA_tmp rfl rfl, ?_, rfl⟩⟩
    rfl
  · have c0 : abin .eql .i64 ((stdL js ls ms (facN most)).length : Int) 0 = some (.bool false) := by
      simp [abin]
      intro h9
      rw [h9] at e0
      simp at e0
    (repeat (first | refine WL_nil ?_ | (apply wl0 (hd := rfl); (first | exact QV_bin rfl rfl c0 | exact qv0 | exact QV_bne Tryz.underlying4 rfl rfl | exact QV_beq Tryz.underlying4 rfl rfl | exact qv1 | exact q_callAX hal (h1) | exact QV_indexAddr rfl rfl rfl rfl (row_at e2)); (exact gy0)) | (apply wlb (hd := rfl); (first | exact q_box rfl rfl rfl | exact q_alloc); (exact gy0); rfl) | refine wln ⟨_, rfl, rfl⟩ rfl ?_ | refine wlnu ⟨_, rfl, rfl⟩ rfl ?_ | refine wst rfl rfl rfl List.not_mem_nil rfl rfl rfl rfl rfl rfl ?_ | refine W_seq ?_ | refine W_condT rfl ?_ | refine W_condF rfl ?_ | refine W_region ?_ | refine W_skip ?_ | refine W_ret ?_ | refine W_block ?_ | refine W_exit ?_))
    refine Exists.intro _ ⟨Weak.refl _, Exists.intro _ ⟨resA_tmp rfl rfl, ?_, rfl⟩⟩
    rfl
theorem implGreatestFactor_ok (js : List Jt) (ls ms : List Ld) (most : Int) (hj : js.length ≤ 1048576) (hl : ls.length ≤ 1048576) (hm : ms.length ≤ 1048576) : CallOkA Tryz.prog 27 [.agg [slJt js], slLd ls, slLd ms, vi most] (fun r => r = vi (max (highR js ls ms (facN most)) (-1))) := by
  have h1 := factorsUpTo_ok js ls ms most hj hl hm
  have hlen := stdL_len js ls ms (facN most)
  have hN := facN_le most
  refine callOkX Tryz.func27 Tryz.ntmps27 Tryz.results27 rfl rfl rfl fun B w0 M I0 V0 hal => ?_
  rcases std_head js ls ms (facN most) with ⟨e1, e2, e3⟩ | ⟨e0, e1, e2, e3, e4⟩
  · rw [e1] at h1
    rw [e3]
    (repeat (first | refine WL_nil ?_ | (apply wl0 (hd := rfl); (first | exact qv0 | exact QV_bne Tryz.underlying4 rfl rfl | exact QV_beq Tryz.underlying4 rfl rfl | exact qv1 | exact q_callAX hal (h1)); (exact gy0)) | (apply wlb (hd := rfl); (first | exact q_box rfl rfl rfl | exact q_alloc); (exact gy0); rfl) | refine wln ⟨_, rfl, rfl⟩ rfl ?_ | refine wlnu ⟨_, rfl, rfl⟩ rfl ?_ | refine wst rfl rfl rfl List.not_mem_nil rfl rfl rfl rfl rfl rfl ?_ | refine W_seq ?_ | refine W_condT rfl ?_ | refine W_condF rfl ?_ | refine W_region ?_ | refine W_skip ?_ | refine W_ret ?_ | refine W_block ?_ | refine W_exit ?_))
    refine Exists.intro _ ⟨Weak.refl _, Exists.intro _ ⟨resA_tmp rfl rfl, ?_, rfl⟩⟩
    rfl
  · have c0 : abin .eql .i64 ((stdL js ls ms (facN most)).length : Int) 0 = some (.bool false) := by
      simp [abin]
      intro h9
      rw [h9] at e0
      simp at e0
    have s1 : abin .sub .i64 ((stdL js ls ms (facN most)).length : Int) 1 = some (.int .i64 (((stdL js ls ms (facN most)).length - 1 : Nat) : Int)) := by simp only [abin]; rw [i64w (by omega)]; congr; omega
    (repeat (first | refine WL_nil ?_ | (apply wl0 (hd := rfl); (first | exact QV_bin rfl rfl c0 | exact QV_bin rfl rfl s1 | exact qv0 | exact QV_bne Tryz.underlying4 rfl rfl | exact QV_beq Tryz.underlying4 rfl rfl | exact qv1 | exact q_callAX hal (h1) | exact QV_indexAddr rfl rfl rfl rfl (row_at e4)); (exact gy0)) | (apply wlb (hd := rfl); (first | exact q_box rfl rfl rfl | exact q_alloc); (exact gy0); rfl) | refine wln ⟨_, rfl, rfl⟩ rfl ?_ | refine wlnu ⟨_, rfl, rfl⟩ rfl ?_ | refine wst rfl rfl rfl List.not_mem_nil rfl rfl rfl rfl rfl rfl ?_ | refine W_seq ?_ | refine W_condT rfl ?_ | refine W_condF rfl ?_ | refine W_region ?_ | refine W_skip ?_ | refine W_ret ?_ | refine W_block ?_ | refine W_exit ?_))
    refine Exists.intro _ ⟨Weak.refl _, Exists.intro _ ⟨resA_tmp rfl rfl, ?_, rfl⟩⟩
    exact vi_eq (by omega)
end Go.Proofs.YtkieepmkcaipaaaGreat
