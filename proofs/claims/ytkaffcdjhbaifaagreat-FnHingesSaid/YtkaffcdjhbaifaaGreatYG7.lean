/- The program's CollapseOf: the proof lies in memory of its own. -/
import Derived.Test.YtkaffcdjhbaifaaGreatYG6
import Derived.Test.YtkaffcdjhbaifaaGreatZ7
import Derived.Test.YtkaffcdjhbaifaaGreatYAFi
import Derived.Test.YtkaffcdjhbaifaaGreatYG3
import Derived.Test.YtkaffcdjhbaifaaGreatYG4
namespace Go.Proofs.YtkaffcdjhbaifaaGreat
open Go.Eng
set_option maxRecDepth 100000
attribute [local irreducible] QV TV WL HW W CallOk Weak

theorem implCollapseOf_of (js : List Jt) (ls : List Ld) (hj : js.length ≤ 1048576) (hn : ls.length ≤ 1048576) (hfp : CallOk Tryz.prog 20 [slRw (rowsA js ls)] (fun r => r = fourO (pfind (rowsA js ls)))) : CallOk Tryz.prog 6 [.agg [slJt js], slLd ls] (fun r => r = fourO (pfind (rowsA js ls))) := by
  have h1 := implRowsOf_ok js ls hj hn
  obtain ⟨rs, ers⟩ : ∃ rs, rs = rowsA js ls := ⟨_, rfl⟩
  rw [← ers] at h1 hfp ⊢
  cases e : pfind rs with
  | none =>
    rw [e] at hfp
    refine callOk Tryz.func6 Tryz.ntmps6 Tryz.results6 rfl rfl rfl fun B w0 I0 => ?_
    (repeat (first | refine WL_nil ?_ | (apply wl0 (hd := rfl); (first | exact qv9 | exact q_callA (h1) | exact q_callA (hfp)); (exact gy0)) | (apply wlb (hd := rfl); exact qbx; (exact gy0); rfl) | refine wln ⟨_, rfl, rfl⟩ rfl ?_ | refine wlnu ⟨_, rfl, rfl⟩ rfl ?_ | refine wst rfl rfl rfl List.not_mem_nil rfl rfl rfl rfl rfl rfl ?_ | refine W_condT rfl ?_ | refine W_condF rfl ?_ | refine W_region ?_ | refine wN rfl ?_))
    refine Exists.intro _ ⟨Weak.refl _, Exists.intro _ ⟨resA_cell rfl rfl rfl (resA_tmp rfl rfl), ?_, rfl⟩⟩
    rfl
  | some p =>
    obtain ⟨ks, fs⟩ := p
    rw [e] at hfp
    refine callOk Tryz.func6 Tryz.ntmps6 Tryz.results6 rfl rfl rfl fun B w0 I0 => ?_
    (repeat (first | refine WL_nil ?_ | (apply wl0 (hd := rfl); (first | exact qv9 | exact q_callA (h1)); (exact gy0)) | (apply wlb (hd := rfl); exact qbx; (exact gy0); rfl) | refine wln ⟨_, rfl, rfl⟩ rfl ?_ | refine wlnu ⟨_, rfl, rfl⟩ rfl ?_ | refine wst rfl rfl rfl List.not_mem_nil rfl rfl rfl rfl rfl rfl ?_ | refine W_condT rfl ?_ | refine W_condF rfl ?_ | refine W_region ?_ | refine wN rfl ?_))
    refine wln2 (q_call2 0 20 21 hfp rfl (by repeat' (first | exact LeDs.nil | refine LeDs.cons (by first | exact LeD.v | exact LeD.sl | exact LeD.own) ?_)) rfl rfl) rfl rfl ?_
    (repeat (first | refine WL_nil ?_ | (apply wl0 (hd := rfl); (first | exact qv9); (exact gy0)) | (apply wlb (hd := rfl); exact qbx; (exact gy0); rfl) | refine wln ⟨_, rfl, rfl⟩ rfl ?_ | refine wlnu ⟨_, rfl, rfl⟩ rfl ?_ | refine wst rfl rfl rfl List.not_mem_nil rfl rfl rfl rfl rfl rfl ?_ | refine W_condT rfl ?_ | refine W_condF rfl ?_ | refine W_region ?_ | refine wN rfl ?_))
    refine Exists.intro _ ⟨Weak.refl _, Exists.intro _ ⟨resA_cell rfl rfl rfl (resA_tmp rfl rfl), ?_, rfl⟩⟩
    rfl
theorem implCollapseOf_ok (js : List Jt) (ls : List Ld) (hj : js.length ≤ 1048576) (hn : ls.length ≤ 1048576) : CallOk Tryz.prog 6 [.agg [slJt js], slLd ls] (fun r => r = fourO (pfind (rowsA js ls))) := by
  refine implCollapseOf_of js ls hj hn (implFindProof_ok _ ?_ ?_)
  · unfold rowsA
    split
    · rename_i h
      simp only [Bool.and_eq_true] at h
      have := arch_len (loads_arch h.1)
      rw [rowsAll_len]; omega
    · simp
  · unfold rowsA
    split
    · rename_i h
      simp only [Bool.and_eq_true] at h
      exact h.2
    · rfl
end Go.Proofs.YtkaffcdjhbaifaaGreat

namespace Go.Proofs.YtkaffcdjhbaifaaGreat
open Go.Eng
set_option maxRecDepth 100000
attribute [local irreducible] QV TV WL HW W CallOk Weak

theorem implHingesOf_yes (js : List Jt) (rows facs : List Int) (hj : js.length ≤ 1048576) (hn : rows.length ≤ 1048576) : CallOk Tryz.prog 9 [.agg [slJt js], .agg [slI rows, slI facs]] (fun r => r = bif hgsB js rows then .own 6 41 2 ((hgL (2 * js.length) rows).map Hg.row) else .v (.slice none 0 0)) := by
  have ha := implArchOk_ok js hj
  refine callOk Tryz.func9 Tryz.ntmps9 Tryz.results9 rfl rfl rfl fun B w0 I0 => ?_
  cases e0 : archB js
  · rw [e0] at ha
    (repeat (first | refine WL_nil ?_ | (apply wl0 (hd := rfl); (first | exact qv9 | exact q_callA (ha)); (exact gy0)) | (apply wlb (hd := rfl); exact qbx; (exact gy0); rfl) | refine wln ⟨_, rfl, rfl⟩ rfl ?_ | refine wlnu ⟨_, rfl, rfl⟩ rfl ?_ | refine wst rfl rfl rfl List.not_mem_nil rfl rfl rfl rfl rfl rfl ?_ | refine W_condT rfl ?_ | refine W_condF rfl ?_ | refine W_region ?_ | refine wN rfl ?_))
    refine Exists.intro _ ⟨Weak.refl _, Exists.intro _ ⟨resA_tmp rfl rfl, ?_, rfl⟩⟩
    simp [hgsB, e0]
    rfl
  · rw [e0] at ha
    (repeat (first | refine WL_nil ?_ | (apply wl0 (hd := rfl); (first | exact qv9 | exact q_callA (ha)); (exact gy0)) | (apply wlb (hd := rfl); exact qbx; (exact gy0); rfl) | refine wln ⟨_, rfl, rfl⟩ rfl ?_ | refine wlnu ⟨_, rfl, rfl⟩ rfl ?_ | refine wst rfl rfl rfl List.not_mem_nil rfl rfl rfl rfl rfl rfl ?_ | refine W_condT rfl ?_ | refine W_condF rfl ?_ | refine W_region ?_ | refine wN rfl ?_))
    refine W_loop (fun n s => ∃ k : Nat, k ≤ rows.length ∧ n = rows.length - k ∧ ((rows.take k).all fun r => inR r 0 (2 * js.length)) = true ∧ s = ⟨[(5, vi (2 * js.length)), (6, .own 6 41 2 ((hgL (2 * js.length) (rows.take k)).map Hg.row)), (17, slI rows), (18, vi rows.length), (19, vi k)], [], [6]⟩) ⟨_, _, ⟨0, by omega, rfl, rfl, rfl⟩, wkA⟩ ?_
    rintro n s ⟨k, hk, rfl, hall, rfl⟩
    by_cases hlt : k < rows.length
    · have hp := iat_lt hlt
      have h1 := within_ok (iat rows k) 0 (2 * js.length)
      have hlen := hgL_len (2 * js.length) (rows.take k)
      have hl2 : (rows.take k).length ≤ k := by simp; omega
      have happ : ((hgL (2 * js.length) (rows.take k)).map Hg.row).length + [(hgOf (iat rows k)).row].length ≤ 1048576 := by simp; omega
      (repeat (first | refine WL_nil ?_ | (apply wl0 (hd := rfl); (first | exact qv9); (exact gy0)) | (apply wlb (hd := rfl); exact qbx; (exact gy0); rfl) | refine wln ⟨_, rfl, rfl⟩ rfl ?_ | refine wlnu ⟨_, rfl, rfl⟩ rfl ?_ | refine wst rfl rfl rfl List.not_mem_nil rfl rfl rfl rfl rfl rfl ?_ | refine W_condT rfl ?_ | refine W_condF rfl ?_ | refine W_region ?_ | refine wN rfl ?_))
      (refine W_cond rfl (fun hc => ?_) (fun hc => ?_))
      · cases e1 : inR (iat rows k) 0 (2 * js.length)
        · rw [e1] at h1
          (repeat (first | refine WL_nil ?_ | (apply wl0 (hd := rfl); (first | exact qv9 | exact q_callA (h1) | exact QV_indexAddr rfl rfl rfl rfl (row_at hp)); (exact gy0)) | (apply wlb (hd := rfl); exact qbx; (exact gy0); rfl) | refine wln ⟨_, rfl, rfl⟩ rfl ?_ | refine wlnu ⟨_, rfl, rfl⟩ rfl ?_ | refine wst rfl rfl rfl List.not_mem_nil rfl rfl rfl rfl rfl rfl ?_ | refine W_condT rfl ?_ | refine W_condF rfl ?_ | refine W_region ?_ | refine wN rfl ?_))
          refine Exists.intro _ ⟨Weak.refl _, Exists.intro _ ⟨resA_tmp rfl rfl, ?_, rfl⟩⟩
          rw [hgsB, all_at_false hp e1, Bool.and_false]
          rfl
        · rw [e1] at h1
          have hall' : ((rows.take (k + 1)).all fun r => inR r 0 (2 * js.length)) = true := by rw [all_take_succ hp, hall, e1]; rfl
          (repeat (first | refine WL_nil ?_ | (apply wl0 (hd := rfl); (first | exact qv9 | exact q_callA (h1) | exact QV_indexAddr rfl rfl rfl rfl (row_at hp)); (exact gy0)) | (apply wlb (hd := rfl); exact qbx; (exact gy0); rfl) | refine wln ⟨_, rfl, rfl⟩ rfl ?_ | refine wlnu ⟨_, rfl, rfl⟩ rfl ?_ | refine wst rfl rfl rfl List.not_mem_nil rfl rfl rfl rfl rfl rfl ?_ | refine W_condT rfl ?_ | refine W_condF rfl ?_ | refine W_region ?_ | refine wN rfl ?_))
          (refine W_cond rfl (fun hc => ?_) (fun hc => ?_))
          · have hr : iat rows k < 2 * js.length := by simpa using hc
            (repeat (first | refine WL_nil ?_ | (apply wl0 (hd := rfl); (first | exact qv9 | exact QV_div rfl rfl (by decide) rfl); (exact gy0)) | (apply wlb (hd := rfl); exact qbx; (exact gy0); rfl) | refine wln ⟨_, rfl, rfl⟩ rfl ?_ | refine wlnu ⟨_, rfl, rfl⟩ rfl ?_ | (apply wln1 (hd := rfl); exact q_buildSlice 37 rfl rfl rfl rfl; (exact gy0); rfl) | refine wst rfl rfl rfl List.not_mem_nil rfl rfl rfl rfl rfl rfl ?_ | refine wappE rfl rfl rfl (hg_cells [hgOf (iat rows k)]) (hg_lens [hgOf (iat rows k)]) happ rfl rfl (hgL_app hlt hr) rfl rfl ?_ | refine W_condT rfl ?_ | refine W_condF rfl ?_ | refine W_region ?_ | refine wN rfl ?_))
            refine Exists.intro _ (Exists.intro _ ⟨?_, ⟨k + 1, by omega, rfl, hall', rfl⟩, wkA⟩)
            omega
          · have hr : ¬ iat rows k < 2 * js.length := by simpa using hc
            rw [hgL_same hlt hr]
            (repeat (first | refine WL_nil ?_ | (apply wl0 (hd := rfl); (first | exact qv9); (exact gy0)) | (apply wlb (hd := rfl); exact qbx; (exact gy0); rfl) | refine wln ⟨_, rfl, rfl⟩ rfl ?_ | refine wlnu ⟨_, rfl, rfl⟩ rfl ?_ | refine wst rfl rfl rfl List.not_mem_nil rfl rfl rfl rfl rfl rfl ?_ | refine W_condT rfl ?_ | refine W_condF rfl ?_ | refine W_region ?_ | refine wN rfl ?_))
            refine Exists.intro _ (Exists.intro _ ⟨?_, ⟨k + 1, by omega, rfl, hall', rfl⟩, wkA⟩)
            omega
      · simp at hc; omega
    · (repeat (first | refine WL_nil ?_ | (apply wl0 (hd := rfl); (first | exact qv9); (exact gy0)) | (apply wlb (hd := rfl); exact qbx; (exact gy0); rfl) | refine wln ⟨_, rfl, rfl⟩ rfl ?_ | refine wlnu ⟨_, rfl, rfl⟩ rfl ?_ | refine wst rfl rfl rfl List.not_mem_nil rfl rfl rfl rfl rfl rfl ?_ | refine W_condT rfl ?_ | refine W_condF rfl ?_ | refine W_region ?_ | refine wN rfl ?_))
      (refine W_cond rfl (fun hc => ?_) (fun hc => ?_))
      · simp at hc; omega
      · have hk' : k = rows.length := by omega
        subst hk'
        rw [List.take_length] at hall
        rw [List.take_length]
        (repeat (first | refine WL_nil ?_ | (apply wl0 (hd := rfl); (first | exact qv9); (exact gy0)) | (apply wlb (hd := rfl); exact qbx; (exact gy0); rfl) | refine wln ⟨_, rfl, rfl⟩ rfl ?_ | refine wlnu ⟨_, rfl, rfl⟩ rfl ?_ | refine wst rfl rfl rfl List.not_mem_nil rfl rfl rfl rfl rfl rfl ?_ | refine W_condT rfl ?_ | refine W_condF rfl ?_ | refine W_region ?_ | refine wN rfl ?_))
        refine Exists.intro _ ⟨Weak.refl _, Exists.intro _ ⟨resA_tmp rfl rfl, ?_, rfl⟩⟩
        simp only [hgsB, e0, hall]
        rfl
theorem implHingesOf_ok (js : List Jt) (rows facs : List Int) (hj : js.length ≤ 1048576) (hn : rows.length ≤ 1048576) : CallOk Tryz.prog 9 [.agg [slJt js], .agg [slI rows, slI facs]] (fun r => r = slHg (hgA js rows)) := by
  have h := implHingesOf_yes js rows facs hj hn
  unfold hgA
  cases e : hgsB js rows
  · rw [e] at h
    exact callOk_nilSl h
  · rw [e] at h
    exact callOk_dat h rfl
end Go.Proofs.YtkaffcdjhbaifaaGreat

namespace Go.Proofs.YtkaffcdjhbaifaaGreat
open Go.Eng
set_option maxRecDepth 100000
attribute [local irreducible] QV TV WL HW W CallOk Weak

theorem gcd4_cast (t : Th) : (Int.gcd (Int.gcd t.h t.v) (Int.gcd t.m t.d) : Nat) = gcd4 t := rfl
theorem gcd4_pos {t : Th} (h : t.d ≠ 0) : 0 < gcd4 t := by
  unfold gcd4
  exact Nat.gcd_pos_of_pos_right _ (Nat.gcd_pos_of_pos_right _ (by omega))
theorem gcd4_le {t : Th} {m : Nat} (h1 : t.h.natAbs ≤ m) (h2 : t.v.natAbs ≤ m) (h3 : t.m.natAbs ≤ m) (h4 : t.d.natAbs ≤ m) : gcd4 t ≤ m := gcd_le (a := Int.gcd t.h t.v) (b := Int.gcd t.m t.d) (by simpa using gcd_le h1 h2) (by simpa using gcd_le h3 h4)
theorem tdiv_bd {a g : Int} {m : Int} (ha : -m ≤ a ∧ a ≤ m) : -m ≤ a.tdiv g ∧ a.tdiv g ≤ m := by
  have h1 : (a.tdiv g).natAbs ≤ a.natAbs := by
    rw [Int.natAbs_tdiv]; exact Nat.div_le_self _ _
  omega
theorem quo64 {a g : Int} (ha : -4000000000000000000 ≤ a ∧ a ≤ 4000000000000000000) : adv .quo .i64 a g = some (.int .i64 (a.tdiv g)) := by
  have := tdiv_bd (g := g) ha
  simp only [adv]
  rw [i64w (by omega)]
theorem mkT_far {t : Th} (h : farT t = false) : mkT t = none := by simp [mkT, h]
theorem farT_true {t : Th} (h : farT t = true) : t.d ≠ 0 ∧ (-4000000000000000000 ≤ t.h ∧ t.h ≤ 4000000000000000000) ∧ (-4000000000000000000 ≤ t.v ∧ t.v ≤ 4000000000000000000) ∧ (-4000000000000000000 ≤ t.m ∧ t.m ≤ 4000000000000000000) ∧ -4000000000000000000 ≤ t.d ∧ t.d ≤ 4000000000000000000 := by
  simpa [farT, farB, inR_true] using h
theorem makeThrust_negY (t : Th) (hfar : farT t = true) (hn : t.d < 0) (e5 : thOk (mkD t) = true) : CallOk Tryz.prog 81 [vi t.h, vi t.v, vi t.m, vi t.d] (fun r => r = thO (some (mkD t))) := by
  obtain ⟨z, b1, b2, b3, b4⟩ := farT_true hfar
  have h1 := l01In_ok t.h (-4000000000000000000) 4000000000000000000
  have h2 := l01In_ok t.v (-4000000000000000000) 4000000000000000000
  have h3 := l01In_ok t.m (-4000000000000000000) 4000000000000000000
  have h4 := l01In_ok t.d (-4000000000000000000) 4000000000000000000
  rw [inR_true.2 b1] at h1
  rw [inR_true.2 b2] at h2
  rw [inR_true.2 b3] at h3
  rw [inR_true.2 b4] at h4
  have c0 : abin .eql .i64 t.d 0 = some (.bool false) := by simp [abin, z]
  have g1 := l08Gcd_ok t.h t.v (by omega) (by omega)
  have g2 := l08Gcd_ok t.m t.d (by omega) (by omega)
  have l1 := gcd_le (a := t.h) (b := t.v) (m := 4000000000000000000) (by omega) (by omega)
  have l2 := gcd_le (a := t.m) (b := t.d) (m := 4000000000000000000) (by omega) (by omega)
  have g3 := l08Gcd_ok (Int.gcd t.h t.v) (Int.gcd t.m t.d) (by omega) (by omega)
  rw [gcd4_cast] at g3
  have hp := gcd4_pos z
  have hle : gcd4 t ≤ 4000000000000000000 := gcd4_le (by omega) (by omega) (by omega) (by omega)
  have ht := thrustOk_ok (mkD t)
  have c1 : abin .lss .i64 t.d 0 = some (.bool true) := by simp [abin]; omega
  have hG : mkG t = -(gcd4 t : Int) := by simp [mkG, hn]
  have hg0 : -(gcd4 t : Int) ≠ 0 := by omega
  have q1 := quo64 (g := -(gcd4 t : Int)) b1
  have q2 := quo64 (g := -(gcd4 t : Int)) b2
  have q3 := quo64 (g := -(gcd4 t : Int)) b3
  have q4 := quo64 (g := -(gcd4 t : Int)) b4
  have hD : mkD t = ⟨t.h.tdiv (-(gcd4 t : Int)), t.v.tdiv (-(gcd4 t : Int)), t.m.tdiv (-(gcd4 t : Int)), t.d.tdiv (-(gcd4 t : Int))⟩ := by simp only [mkD, hG]
  rw [e5, hD] at ht
  refine callOk Tryz.func81 Tryz.ntmps81 Tryz.results81 rfl rfl rfl fun B w0 I0 => ?_
  (repeat (first | refine WL_nil ?_ | (apply wl0 (hd := rfl); (first | exact QV_bin rfl rfl c0 | exact QV_bin rfl rfl c1 | exact qv9 | exact q_callA (h1) | exact q_callA (h2) | exact q_callA (h3) | exact q_callA (h4) | exact q_callA (g1) | exact q_callA (g2) | exact q_callA (g3)); (exact gy0)) | (apply wlb (hd := rfl); exact qbx; (exact gy0); rfl) | refine wln ⟨_, rfl, rfl⟩ rfl ?_ | refine wlnu ⟨_, rfl, rfl⟩ rfl ?_ | refine wst rfl rfl rfl List.not_mem_nil rfl rfl rfl rfl rfl rfl ?_ | refine W_condT rfl ?_ | refine W_condF rfl ?_ | refine W_region ?_ | refine wN rfl ?_))
  refine wdraw 14 (by kernel_rfl) (by kernel_rfl) (by kernel_rfl) rfl ?_
  (repeat (first | refine HW_nil ?_ | (apply hw0 (hd := rfl); (first | exact qv9 | exact QV_div rfl rfl hg0 q1 | exact QV_div rfl rfl hg0 q2 | exact QV_div rfl rfl hg0 q3 | exact QV_div rfl rfl hg0 q4); (exact gy0)) | (apply hwb (hd := rfl); exact qbx; (exact gy0); rfl) | refine hwn ⟨_, rfl, rfl⟩ rfl ?_ | refine hwnu ⟨_, rfl, rfl⟩ rfl ?_))
  (repeat (first | refine WL_nil ?_ | (apply wl0 (hd := rfl); (first | exact qv9 | exact q_callA (ht)); (exact gy0)) | (apply wlb (hd := rfl); exact qbx; (exact gy0); rfl) | refine wln ⟨_, rfl, rfl⟩ rfl ?_ | refine wlnu ⟨_, rfl, rfl⟩ rfl ?_ | refine wst rfl rfl rfl List.not_mem_nil rfl rfl rfl rfl rfl rfl ?_ | refine W_condT rfl ?_ | refine W_condF rfl ?_ | refine W_region ?_ | refine wN rfl ?_))
  refine Exists.intro _ ⟨Weak.refl _, Exists.intro _ ⟨resA_cell rfl rfl rfl (resA_tmp rfl rfl), ?_, rfl⟩⟩
  rw [hD]
  rfl
theorem makeThrust_negN (t : Th) (hfar : farT t = true) (hn : t.d < 0) (e5 : thOk (mkD t) = false) : CallOk Tryz.prog 81 [vi t.h, vi t.v, vi t.m, vi t.d] (fun r => r = thO (none)) := by
  obtain ⟨z, b1, b2, b3, b4⟩ := farT_true hfar
  have h1 := l01In_ok t.h (-4000000000000000000) 4000000000000000000
  have h2 := l01In_ok t.v (-4000000000000000000) 4000000000000000000
  have h3 := l01In_ok t.m (-4000000000000000000) 4000000000000000000
  have h4 := l01In_ok t.d (-4000000000000000000) 4000000000000000000
  rw [inR_true.2 b1] at h1
  rw [inR_true.2 b2] at h2
  rw [inR_true.2 b3] at h3
  rw [inR_true.2 b4] at h4
  have c0 : abin .eql .i64 t.d 0 = some (.bool false) := by simp [abin, z]
  have g1 := l08Gcd_ok t.h t.v (by omega) (by omega)
  have g2 := l08Gcd_ok t.m t.d (by omega) (by omega)
  have l1 := gcd_le (a := t.h) (b := t.v) (m := 4000000000000000000) (by omega) (by omega)
  have l2 := gcd_le (a := t.m) (b := t.d) (m := 4000000000000000000) (by omega) (by omega)
  have g3 := l08Gcd_ok (Int.gcd t.h t.v) (Int.gcd t.m t.d) (by omega) (by omega)
  rw [gcd4_cast] at g3
  have hp := gcd4_pos z
  have hle : gcd4 t ≤ 4000000000000000000 := gcd4_le (by omega) (by omega) (by omega) (by omega)
  have ht := thrustOk_ok (mkD t)
  have c1 : abin .lss .i64 t.d 0 = some (.bool true) := by simp [abin]; omega
  have hG : mkG t = -(gcd4 t : Int) := by simp [mkG, hn]
  have hg0 : -(gcd4 t : Int) ≠ 0 := by omega
  have q1 := quo64 (g := -(gcd4 t : Int)) b1
  have q2 := quo64 (g := -(gcd4 t : Int)) b2
  have q3 := quo64 (g := -(gcd4 t : Int)) b3
  have q4 := quo64 (g := -(gcd4 t : Int)) b4
  have hD : mkD t = ⟨t.h.tdiv (-(gcd4 t : Int)), t.v.tdiv (-(gcd4 t : Int)), t.m.tdiv (-(gcd4 t : Int)), t.d.tdiv (-(gcd4 t : Int))⟩ := by simp only [mkD, hG]
  rw [e5, hD] at ht
  refine callOk Tryz.func81 Tryz.ntmps81 Tryz.results81 rfl rfl rfl fun B w0 I0 => ?_
  (repeat (first | refine WL_nil ?_ | (apply wl0 (hd := rfl); (first | exact QV_bin rfl rfl c0 | exact QV_bin rfl rfl c1 | exact qv9 | exact q_callA (h1) | exact q_callA (h2) | exact q_callA (h3) | exact q_callA (h4) | exact q_callA (g1) | exact q_callA (g2) | exact q_callA (g3)); (exact gy0)) | (apply wlb (hd := rfl); exact qbx; (exact gy0); rfl) | refine wln ⟨_, rfl, rfl⟩ rfl ?_ | refine wlnu ⟨_, rfl, rfl⟩ rfl ?_ | refine wst rfl rfl rfl List.not_mem_nil rfl rfl rfl rfl rfl rfl ?_ | refine W_condT rfl ?_ | refine W_condF rfl ?_ | refine W_region ?_ | refine wN rfl ?_))
  refine wdraw 14 (by kernel_rfl) (by kernel_rfl) (by kernel_rfl) rfl ?_
  (repeat (first | refine HW_nil ?_ | (apply hw0 (hd := rfl); (first | exact qv9 | exact QV_div rfl rfl hg0 q1 | exact QV_div rfl rfl hg0 q2 | exact QV_div rfl rfl hg0 q3 | exact QV_div rfl rfl hg0 q4); (exact gy0)) | (apply hwb (hd := rfl); exact qbx; (exact gy0); rfl) | refine hwn ⟨_, rfl, rfl⟩ rfl ?_ | refine hwnu ⟨_, rfl, rfl⟩ rfl ?_))
  (repeat (first | refine WL_nil ?_ | (apply wl0 (hd := rfl); (first | exact qv9 | exact q_callA (ht)); (exact gy0)) | (apply wlb (hd := rfl); exact qbx; (exact gy0); rfl) | refine wln ⟨_, rfl, rfl⟩ rfl ?_ | refine wlnu ⟨_, rfl, rfl⟩ rfl ?_ | refine wst rfl rfl rfl List.not_mem_nil rfl rfl rfl rfl rfl rfl ?_ | refine W_condT rfl ?_ | refine W_condF rfl ?_ | refine W_region ?_ | refine wN rfl ?_))
  refine Exists.intro _ ⟨Weak.refl _, Exists.intro _ ⟨resA_cell rfl rfl rfl (resA_tmp rfl rfl), ?_, rfl⟩⟩
  rfl
theorem makeThrust_posY (t : Th) (hfar : farT t = true) (hn : ¬ t.d < 0) (e5 : thOk (mkD t) = true) : CallOk Tryz.prog 81 [vi t.h, vi t.v, vi t.m, vi t.d] (fun r => r = thO (some (mkD t))) := by
  obtain ⟨z, b1, b2, b3, b4⟩ := farT_true hfar
  have h1 := l01In_ok t.h (-4000000000000000000) 4000000000000000000
  have h2 := l01In_ok t.v (-4000000000000000000) 4000000000000000000
  have h3 := l01In_ok t.m (-4000000000000000000) 4000000000000000000
  have h4 := l01In_ok t.d (-4000000000000000000) 4000000000000000000
  rw [inR_true.2 b1] at h1
  rw [inR_true.2 b2] at h2
  rw [inR_true.2 b3] at h3
  rw [inR_true.2 b4] at h4
  have c0 : abin .eql .i64 t.d 0 = some (.bool false) := by simp [abin, z]
  have g1 := l08Gcd_ok t.h t.v (by omega) (by omega)
  have g2 := l08Gcd_ok t.m t.d (by omega) (by omega)
  have l1 := gcd_le (a := t.h) (b := t.v) (m := 4000000000000000000) (by omega) (by omega)
  have l2 := gcd_le (a := t.m) (b := t.d) (m := 4000000000000000000) (by omega) (by omega)
  have g3 := l08Gcd_ok (Int.gcd t.h t.v) (Int.gcd t.m t.d) (by omega) (by omega)
  rw [gcd4_cast] at g3
  have hp := gcd4_pos z
  have hle : gcd4 t ≤ 4000000000000000000 := gcd4_le (by omega) (by omega) (by omega) (by omega)
  have ht := thrustOk_ok (mkD t)
  have c1 : abin .lss .i64 t.d 0 = some (.bool false) := by simp [abin]; omega
  have hG : mkG t = (gcd4 t : Int) := by simp [mkG, hn]
  have hg0 : (gcd4 t : Int) ≠ 0 := by omega
  have q1 := quo64 (g := (gcd4 t : Int)) b1
  have q2 := quo64 (g := (gcd4 t : Int)) b2
  have q3 := quo64 (g := (gcd4 t : Int)) b3
  have q4 := quo64 (g := (gcd4 t : Int)) b4
  have hD : mkD t = ⟨t.h.tdiv ((gcd4 t : Int)), t.v.tdiv ((gcd4 t : Int)), t.m.tdiv ((gcd4 t : Int)), t.d.tdiv ((gcd4 t : Int))⟩ := by simp only [mkD, hG]
  rw [e5, hD] at ht
  refine callOk Tryz.func81 Tryz.ntmps81 Tryz.results81 rfl rfl rfl fun B w0 I0 => ?_
  (repeat (first | refine WL_nil ?_ | (apply wl0 (hd := rfl); (first | exact QV_bin rfl rfl c0 | exact QV_bin rfl rfl c1 | exact qv9 | exact q_callA (h1) | exact q_callA (h2) | exact q_callA (h3) | exact q_callA (h4) | exact q_callA (g1) | exact q_callA (g2) | exact q_callA (g3)); (exact gy0)) | (apply wlb (hd := rfl); exact qbx; (exact gy0); rfl) | refine wln ⟨_, rfl, rfl⟩ rfl ?_ | refine wlnu ⟨_, rfl, rfl⟩ rfl ?_ | refine wst rfl rfl rfl List.not_mem_nil rfl rfl rfl rfl rfl rfl ?_ | refine W_condT rfl ?_ | refine W_condF rfl ?_ | refine W_region ?_ | refine wN rfl ?_))
  refine wdraw 14 (by kernel_rfl) (by kernel_rfl) (by kernel_rfl) rfl ?_
  (repeat (first | refine HW_nil ?_ | (apply hw0 (hd := rfl); (first | exact qv9 | exact QV_div rfl rfl hg0 q1 | exact QV_div rfl rfl hg0 q2 | exact QV_div rfl rfl hg0 q3 | exact QV_div rfl rfl hg0 q4); (exact gy0)) | (apply hwb (hd := rfl); exact qbx; (exact gy0); rfl) | refine hwn ⟨_, rfl, rfl⟩ rfl ?_ | refine hwnu ⟨_, rfl, rfl⟩ rfl ?_))
  (repeat (first | refine WL_nil ?_ | (apply wl0 (hd := rfl); (first | exact qv9 | exact q_callA (ht)); (exact gy0)) | (apply wlb (hd := rfl); exact qbx; (exact gy0); rfl) | refine wln ⟨_, rfl, rfl⟩ rfl ?_ | refine wlnu ⟨_, rfl, rfl⟩ rfl ?_ | refine wst rfl rfl rfl List.not_mem_nil rfl rfl rfl rfl rfl rfl ?_ | refine W_condT rfl ?_ | refine W_condF rfl ?_ | refine W_region ?_ | refine wN rfl ?_))
  refine Exists.intro _ ⟨Weak.refl _, Exists.intro _ ⟨resA_cell rfl rfl rfl (resA_tmp rfl rfl), ?_, rfl⟩⟩
  rw [hD]
  rfl
theorem makeThrust_posN (t : Th) (hfar : farT t = true) (hn : ¬ t.d < 0) (e5 : thOk (mkD t) = false) : CallOk Tryz.prog 81 [vi t.h, vi t.v, vi t.m, vi t.d] (fun r => r = thO (none)) := by
  obtain ⟨z, b1, b2, b3, b4⟩ := farT_true hfar
  have h1 := l01In_ok t.h (-4000000000000000000) 4000000000000000000
  have h2 := l01In_ok t.v (-4000000000000000000) 4000000000000000000
  have h3 := l01In_ok t.m (-4000000000000000000) 4000000000000000000
  have h4 := l01In_ok t.d (-4000000000000000000) 4000000000000000000
  rw [inR_true.2 b1] at h1
  rw [inR_true.2 b2] at h2
  rw [inR_true.2 b3] at h3
  rw [inR_true.2 b4] at h4
  have c0 : abin .eql .i64 t.d 0 = some (.bool false) := by simp [abin, z]
  have g1 := l08Gcd_ok t.h t.v (by omega) (by omega)
  have g2 := l08Gcd_ok t.m t.d (by omega) (by omega)
  have l1 := gcd_le (a := t.h) (b := t.v) (m := 4000000000000000000) (by omega) (by omega)
  have l2 := gcd_le (a := t.m) (b := t.d) (m := 4000000000000000000) (by omega) (by omega)
  have g3 := l08Gcd_ok (Int.gcd t.h t.v) (Int.gcd t.m t.d) (by omega) (by omega)
  rw [gcd4_cast] at g3
  have hp := gcd4_pos z
  have hle : gcd4 t ≤ 4000000000000000000 := gcd4_le (by omega) (by omega) (by omega) (by omega)
  have ht := thrustOk_ok (mkD t)
  have c1 : abin .lss .i64 t.d 0 = some (.bool false) := by simp [abin]; omega
  have hG : mkG t = (gcd4 t : Int) := by simp [mkG, hn]
  have hg0 : (gcd4 t : Int) ≠ 0 := by omega
  have q1 := quo64 (g := (gcd4 t : Int)) b1
  have q2 := quo64 (g := (gcd4 t : Int)) b2
  have q3 := quo64 (g := (gcd4 t : Int)) b3
  have q4 := quo64 (g := (gcd4 t : Int)) b4
  have hD : mkD t = ⟨t.h.tdiv ((gcd4 t : Int)), t.v.tdiv ((gcd4 t : Int)), t.m.tdiv ((gcd4 t : Int)), t.d.tdiv ((gcd4 t : Int))⟩ := by simp only [mkD, hG]
  rw [e5, hD] at ht
  refine callOk Tryz.func81 Tryz.ntmps81 Tryz.results81 rfl rfl rfl fun B w0 I0 => ?_
  (repeat (first | refine WL_nil ?_ | (apply wl0 (hd := rfl); (first | exact QV_bin rfl rfl c0 | exact QV_bin rfl rfl c1 | exact qv9 | exact q_callA (h1) | exact q_callA (h2) | exact q_callA (h3) | exact q_callA (h4) | exact q_callA (g1) | exact q_callA (g2) | exact q_callA (g3)); (exact gy0)) | (apply wlb (hd := rfl); exact qbx; (exact gy0); rfl) | refine wln ⟨_, rfl, rfl⟩ rfl ?_ | refine wlnu ⟨_, rfl, rfl⟩ rfl ?_ | refine wst rfl rfl rfl List.not_mem_nil rfl rfl rfl rfl rfl rfl ?_ | refine W_condT rfl ?_ | refine W_condF rfl ?_ | refine W_region ?_ | refine wN rfl ?_))
  refine wdraw 14 (by kernel_rfl) (by kernel_rfl) (by kernel_rfl) rfl ?_
  (repeat (first | refine HW_nil ?_ | (apply hw0 (hd := rfl); (first | exact qv9 | exact QV_div rfl rfl hg0 q1 | exact QV_div rfl rfl hg0 q2 | exact QV_div rfl rfl hg0 q3 | exact QV_div rfl rfl hg0 q4); (exact gy0)) | (apply hwb (hd := rfl); exact qbx; (exact gy0); rfl) | refine hwn ⟨_, rfl, rfl⟩ rfl ?_ | refine hwnu ⟨_, rfl, rfl⟩ rfl ?_))
  (repeat (first | refine WL_nil ?_ | (apply wl0 (hd := rfl); (first | exact qv9 | exact q_callA (ht)); (exact gy0)) | (apply wlb (hd := rfl); exact qbx; (exact gy0); rfl) | refine wln ⟨_, rfl, rfl⟩ rfl ?_ | refine wlnu ⟨_, rfl, rfl⟩ rfl ?_ | refine wst rfl rfl rfl List.not_mem_nil rfl rfl rfl rfl rfl rfl ?_ | refine W_condT rfl ?_ | refine W_condF rfl ?_ | refine W_region ?_ | refine wN rfl ?_))
  refine Exists.intro _ ⟨Weak.refl _, Exists.intro _ ⟨resA_cell rfl rfl rfl (resA_tmp rfl rfl), ?_, rfl⟩⟩
  rfl
theorem makeThrust_no (t : Th) (hfar : farT t = false) : CallOk Tryz.prog 81 [vi t.h, vi t.v, vi t.m, vi t.d] (fun r => r = thO none) := by
  have h1 := l01In_ok t.h (-4000000000000000000) 4000000000000000000
  have h2 := l01In_ok t.v (-4000000000000000000) 4000000000000000000
  have h3 := l01In_ok t.m (-4000000000000000000) 4000000000000000000
  have h4 := l01In_ok t.d (-4000000000000000000) 4000000000000000000
  refine callOk Tryz.func81 Tryz.ntmps81 Tryz.results81 rfl rfl rfl fun B w0 I0 => ?_
  by_cases z : t.d = 0
  · have c0 : abin .eql .i64 t.d 0 = some (.bool true) := by simp [abin, z]
    (repeat (first | refine WL_nil ?_ | (apply wl0 (hd := rfl); (first | exact QV_bin rfl rfl c0 | exact qv9); (exact gy0)) | (apply wlb (hd := rfl); exact qbx; (exact gy0); rfl) | refine wln ⟨_, rfl, rfl⟩ rfl ?_ | refine wlnu ⟨_, rfl, rfl⟩ rfl ?_ | refine wst rfl rfl rfl List.not_mem_nil rfl rfl rfl rfl rfl rfl ?_ | refine W_condT rfl ?_ | refine W_condF rfl ?_ | refine W_region ?_ | refine wN rfl ?_))
    refine Exists.intro _ ⟨Weak.refl _, Exists.intro _ ⟨resA_cell rfl rfl rfl (resA_tmp rfl rfl), ?_, rfl⟩⟩
    rfl
  · have c0 : abin .eql .i64 t.d 0 = some (.bool false) := by simp [abin, z]
    cases e1 : inR t.h (-4000000000000000000) 4000000000000000000
    · rw [e1] at h1
      (repeat (first | refine WL_nil ?_ | (apply wl0 (hd := rfl); (first | exact QV_bin rfl rfl c0 | exact qv9 | exact q_callA (h1)); (exact gy0)) | (apply wlb (hd := rfl); exact qbx; (exact gy0); rfl) | refine wln ⟨_, rfl, rfl⟩ rfl ?_ | refine wlnu ⟨_, rfl, rfl⟩ rfl ?_ | refine wst rfl rfl rfl List.not_mem_nil rfl rfl rfl rfl rfl rfl ?_ | refine W_condT rfl ?_ | refine W_condF rfl ?_ | refine W_region ?_ | refine wN rfl ?_))
      refine Exists.intro _ ⟨Weak.refl _, Exists.intro _ ⟨resA_cell rfl rfl rfl (resA_tmp rfl rfl), ?_, rfl⟩⟩
      rfl
    · rw [e1] at h1
      cases e2 : inR t.v (-4000000000000000000) 4000000000000000000
      · rw [e2] at h2
        (repeat (first | refine WL_nil ?_ | (apply wl0 (hd := rfl); (first | exact QV_bin rfl rfl c0 | exact qv9 | exact q_callA (h1) | exact q_callA (h2)); (exact gy0)) | (apply wlb (hd := rfl); exact qbx; (exact gy0); rfl) | refine wln ⟨_, rfl, rfl⟩ rfl ?_ | refine wlnu ⟨_, rfl, rfl⟩ rfl ?_ | refine wst rfl rfl rfl List.not_mem_nil rfl rfl rfl rfl rfl rfl ?_ | refine W_condT rfl ?_ | refine W_condF rfl ?_ | refine W_region ?_ | refine wN rfl ?_))
        refine Exists.intro _ ⟨Weak.refl _, Exists.intro _ ⟨resA_cell rfl rfl rfl (resA_tmp rfl rfl), ?_, rfl⟩⟩
        rfl
      · rw [e2] at h2
        cases e3 : inR t.m (-4000000000000000000) 4000000000000000000
        · rw [e3] at h3
          (repeat (first | refine WL_nil ?_ | (apply wl0 (hd := rfl); (first | exact QV_bin rfl rfl c0 | exact qv9 | exact q_callA (h1) | exact q_callA (h2) | exact q_callA (h3)); (exact gy0)) | (apply wlb (hd := rfl); exact qbx; (exact gy0); rfl) | refine wln ⟨_, rfl, rfl⟩ rfl ?_ | refine wlnu ⟨_, rfl, rfl⟩ rfl ?_ | refine wst rfl rfl rfl List.not_mem_nil rfl rfl rfl rfl rfl rfl ?_ | refine W_condT rfl ?_ | refine W_condF rfl ?_ | refine W_region ?_ | refine wN rfl ?_))
          refine Exists.intro _ ⟨Weak.refl _, Exists.intro _ ⟨resA_cell rfl rfl rfl (resA_tmp rfl rfl), ?_, rfl⟩⟩
          rfl
        · rw [e3] at h3
          cases e4 : inR t.d (-4000000000000000000) 4000000000000000000
          · rw [e4] at h4
            (repeat (first | refine WL_nil ?_ | (apply wl0 (hd := rfl); (first | exact QV_bin rfl rfl c0 | exact qv9 | exact q_callA (h1) | exact q_callA (h2) | exact q_callA (h3) | exact q_callA (h4)); (exact gy0)) | (apply wlb (hd := rfl); exact qbx; (exact gy0); rfl) | refine wln ⟨_, rfl, rfl⟩ rfl ?_ | refine wlnu ⟨_, rfl, rfl⟩ rfl ?_ | refine wst rfl rfl rfl List.not_mem_nil rfl rfl rfl rfl rfl rfl ?_ | refine W_condT rfl ?_ | refine W_condF rfl ?_ | refine W_region ?_ | refine wN rfl ?_))
            refine Exists.intro _ ⟨Weak.refl _, Exists.intro _ ⟨resA_cell rfl rfl rfl (resA_tmp rfl rfl), ?_, rfl⟩⟩
            rfl
          · simp [farT, farB, e1, e2, e3, e4, z] at hfar
theorem makeThrust_ok (t : Th) : CallOk Tryz.prog 81 [vi t.h, vi t.v, vi t.m, vi t.d] (fun r => r = thO (mkT t)) := by
  cases h : farT t
  · rw [mkT_far h]
    exact makeThrust_no t h
  · cases e5 : thOk (mkD t)
    · rw [show mkT t = none by simp [mkT, e5]]
      by_cases hn : t.d < 0
      · exact makeThrust_negN t h hn e5
      · exact makeThrust_posN t h hn e5
    · rw [show mkT t = some (mkD t) by simp [mkT, e5, h]]
      by_cases hn : t.d < 0
      · exact makeThrust_negY t h hn e5
      · exact makeThrust_posY t h hn e5
end Go.Proofs.YtkaffcdjhbaifaaGreat
