/- The inner and the outer hinges of a collapse have a common point of balance: the walk. -/
import Derived.Test.YtkaffcdjhbaifaaGreatYADk
import Derived.Test.YtkaffcdjhbaifaaGreatYG4
import Derived.Test.YtkaffcdjhbaifaaGreatYG7
import Derived.Test.YtkaffcdjhbaifaaGreatYG9
namespace Go.Proofs.YtkaffcdjhbaifaaGreat
open Go.Eng
set_option maxRecDepth 100000
attribute [local irreducible] QV TV WL HW W CallOk Weak

theorem btoi_ok (b : Bool) : CallOk Tryz.prog 11 [vb b] (fun r => r = vi (bif b then 1 else 0)) := by
  cases b
  · refine callOk Tryz.func11 Tryz.ntmps11 Tryz.results11 rfl rfl rfl fun B w0 I0 => ?_
    (repeat (first | refine WL_nil ?_ | (apply wl0 (hd := rfl); (first | exact qv9); (exact gy0)) | (apply wlb (hd := rfl); exact qbx; (exact gy0); rfl) | refine wln ⟨_, rfl, rfl⟩ rfl ?_ | refine wlnu ⟨_, rfl, rfl⟩ rfl ?_ | refine wst rfl rfl rfl List.not_mem_nil rfl rfl rfl rfl rfl rfl ?_ | refine W_condT rfl ?_ | refine W_condF rfl ?_ | refine W_region ?_ | refine wN rfl ?_))
    refine Exists.intro _ ⟨Weak.refl _, Exists.intro _ ⟨resA_tmp rfl rfl, ?_, rfl⟩⟩
    rfl
  · refine callOk Tryz.func11 Tryz.ntmps11 Tryz.results11 rfl rfl rfl fun B w0 I0 => ?_
    (repeat (first | refine WL_nil ?_ | (apply wl0 (hd := rfl); (first | exact qv9); (exact gy0)) | (apply wlb (hd := rfl); exact qbx; (exact gy0); rfl) | refine wln ⟨_, rfl, rfl⟩ rfl ?_ | refine wlnu ⟨_, rfl, rfl⟩ rfl ?_ | refine wst rfl rfl rfl List.not_mem_nil rfl rfl rfl rfl rfl rfl ?_ | refine W_condT rfl ?_ | refine W_condF rfl ?_ | refine W_region ?_ | refine wN rfl ?_))
    refine Exists.intro _ ⟨Weak.refl _, Exists.intro _ ⟨resA_tmp rfl rfl, ?_, rfl⟩⟩
    rfl
theorem mul_self_nonneg' (a : Int) : 0 ≤ a * a := by
  rcases Int.le_total 0 a with h | h
  · exact Int.mul_nonneg h h
  · have := Int.mul_nonneg (a := -a) (b := -a) (by omega) (by omega)
    rwa [Int.neg_mul_neg] at this
def inC (l : List Hg) (k : Nat) : Int := ((l.take k).countP fun h => !h.o : Nat)
theorem inC_succ {l : List Hg} {k : Nat} {h : Hg} (hp : l[k]? = some h) : inC l (k + 1) = inC l k + bif !h.o then 1 else 0 := by
  unfold inC
  rw [List.take_add_one, hp, Option.toList_some, List.countP_append, List.countP_singleton]
  cases h.o <;> simp
theorem inC_le (l : List Hg) (k : Nat) : 0 ≤ inC l k ∧ inC l k ≤ k := by
  unfold inC
  have h1 := List.countP_le_length (p := fun h : Hg => !h.o) (l := l.take k)
  rw [List.length_take] at h1
  omega
theorem inC_all (l : List Hg) : inC l l.length = (l.countP fun h => !h.o : Nat) := by
  unfold inC
  rw [List.take_length]
set_option maxHeartbeats 4000000 in
theorem law_FnHinges (l : List Int) (hu : ∀ x ∈ l, isU8 x) (_hlen : l.length ≤ 9223372036854775807) : CallOk Tryz.prog 3 [slU l] (fun r => r = vb true) := by
  refine callOk Tryz.func3 Tryz.ntmps3 Tryz.results3 rfl rfl rfl fun B w0 I0 => ?_
  (repeat (first | refine WL_nil ?_ | (apply wl0 (hd := rfl); (first | exact qv9 | exact q_callA (lbig_ok l)); (exact gy0)) | (apply wlb (hd := rfl); exact qbx; (exact gy0); rfl) | refine wln ⟨_, rfl, rfl⟩ rfl ?_ | refine wlnu ⟨_, rfl, rfl⟩ rfl ?_ | refine wst rfl rfl rfl List.not_mem_nil rfl rfl rfl rfl rfl rfl ?_ | refine W_condT rfl ?_ | refine W_condF rfl ?_ | refine W_region ?_ | refine wN rfl ?_))
  (refine W_cond rfl (fun hc => ?_) (fun hc => ?_))
  · (repeat (first | refine WL_nil ?_ | (apply wl0 (hd := rfl); (first | exact qv9); (exact gy0)) | (apply wlb (hd := rfl); exact qbx; (exact gy0); rfl) | refine wln ⟨_, rfl, rfl⟩ rfl ?_ | refine wlnu ⟨_, rfl, rfl⟩ rfl ?_ | refine wst rfl rfl rfl List.not_mem_nil rfl rfl rfl rfl rfl rfl ?_ | refine W_condT rfl ?_ | refine W_condF rfl ?_ | refine W_region ?_ | refine wN rfl ?_))
    refine Exists.intro _ ⟨Weak.refl _, Exists.intro _ ⟨resA_tmp rfl rfl, ?_, rfl⟩⟩
    rfl
  · have hl : Bts l := ⟨hu, by simp at hc; omega⟩
    (repeat (first | refine WL_nil ?_ | (apply wl0 (hd := rfl); (first | exact qv9); (exact gy0)) | (apply wlb (hd := rfl); exact qbx; (exact gy0); rfl) | refine wln ⟨_, rfl, rfl⟩ rfl ?_ | refine wlnu ⟨_, rfl, rfl⟩ rfl ?_ | refine wst rfl rfl rfl List.not_mem_nil rfl rfl rfl rfl rfl rfl ?_ | refine W_condT rfl ?_ | refine W_condF rfl ?_ | refine W_region ?_ | refine wN rfl ?_))
    refine wlc (drawCollapseOf_ok l hl) rfl (by (repeat' (first | exact LeDs.nil | refine LeDs.cons (by first | exact LeD.v | exact LeD.sl | exact LeD.own | exact LeD.nil | exact LeD.top) ?_ | refine LeDs.agg ?_ ?_)); first | done | fail "open") (fun r ⟨_, _, _, _, hr⟩ => by subst hr; rfl) rfl (fun r hR => ?_)
    obtain ⟨js, ls, h9, h7, rfl⟩ := hR
    have cC := implCollapseOf_ok js ls (by omega) (by omega)
    have cL := loadsOk_ok js ls (by omega) (by omega)
    have cS := stands_ok js ls (by omega) (by omega)
    have cH0 := implHingesOf_ok js [] [] (by omega) (by simp)
    have hA0 : hgA js [] = [] := by unfold hgA hgL; cases hgsB js [] <;> rfl
    rw [hA0] at cH0
    cases hlo : loadsB js ls with
    | false =>
      rw [hlo] at cL
      have hp0 : pfind (rowsA js ls) = none := by rw [rowsA_no hlo]; rfl
      rw [hp0] at cC
      (repeat (first | refine WL_nil ?_ | (apply wl0 (hd := rfl); (first | exact qv9 | exact q_callA (cC) | exact q_callA (cL) | exact q_callA (cH0)); (exact gy0)) | (apply wlb (hd := rfl); exact qbx; (exact gy0); rfl) | refine wln ⟨_, rfl, rfl⟩ rfl ?_ | refine wlnu ⟨_, rfl, rfl⟩ rfl ?_ | refine wst rfl rfl rfl List.not_mem_nil rfl rfl rfl rfl rfl rfl ?_ | refine W_condT rfl ?_ | refine W_condF rfl ?_ | refine W_region ?_ | refine wN rfl ?_))
      refine Exists.intro _ ⟨Weak.refl _, Exists.intro _ ⟨resA_tmp rfl rfl, ?_, rfl⟩⟩
      rfl
    | true =>
      rw [hlo] at cL
      rcases stands_or hlo with ⟨h1, h2⟩ | ⟨h1, h2⟩
      · have hst : stnB js ls = true := by
          unfold stnB thrL
          cases e : corL (rowsA js ls) with
          | nil => exact absurd e h1
          | cons a b => rfl
        rw [hst] at cS
        rw [h2] at cC
        (repeat (first | refine WL_nil ?_ | (apply wl0 (hd := rfl); (first | exact qv9 | exact q_callA (cC) | exact q_callA (cL) | exact q_callA (cS) | exact q_callA (cH0)); (exact gy0)) | (apply wlb (hd := rfl); exact qbx; (exact gy0); rfl) | refine wln ⟨_, rfl, rfl⟩ rfl ?_ | refine wlnu ⟨_, rfl, rfl⟩ rfl ?_ | refine wst rfl rfl rfl List.not_mem_nil rfl rfl rfl rfl rfl rfl ?_ | refine W_condT rfl ?_ | refine W_condF rfl ?_ | refine W_region ?_ | refine wN rfl ?_))
        refine Exists.intro _ ⟨Weak.refl _, Exists.intro _ ⟨resA_tmp rfl rfl, ?_, rfl⟩⟩
        rfl
      · have hst : stnB js ls = false := by
          unfold stnB thrL
          rw [h1]; rfl
        rw [hst] at cS
        cases hpf : pfind (rowsA js ls) with
        | none => exact absurd hpf h2
        | some p =>
          obtain ⟨ks, fs⟩ := p
          rw [hpf] at cC
          have cC' := callOk_dat cC rfl
          have hisp := pfind_isp hpf
          have H := hgF hlo hisp
          have G := hgH (by omega) H
          obtain ⟨pB, _, _, _, pD⟩ := isp_sums hisp
          have hl4 := H.len
          have cH := implHingesOf_ok js ks fs (by omega) (by omega)
          have cM := implMeetingOf_ok js ks fs (by omega) (by omega) (by omega)
          have cP := implCommonPoint_ok js ks fs (by omega) (by omega) (by omega)
          rw [H.cp] at cP
          have cR := implRowsOf_ok js ls (by omega) (by omega)
          have hrl := rowsA_len js ls
          have hsm := sum_small pB row_d (Nat.le_refl _)
          have hsp : sumP (rowsA js ls) ks fs Rw.d = sumR (rowsA js ls) ks fs Rw.d ks.length := by unfold sumP; rw [pB]; rfl
          have cW := implWorkOf_ok (rowsA js ls) ks fs hrl (by omega) (by omega) (by omega)
          obtain ⟨D, hD⟩ : ∃ D, D = -(sumP (rowsA js ls) ks fs Rw.d) := ⟨_, rfl⟩
          rw [← hD] at cW
          have hD0 : 0 < D := by omega
          obtain ⟨hs, ehs⟩ : ∃ hs, hs = hgA js ks := ⟨_, rfl⟩
          have Gat := G.at_
          have Gi := G.inner
          have Go := G.outer
          have G4 := G.four
          rw [← ehs] at cH Gat Gi Go G4
          have h10 : js.length ≤ 8 := (arch_len (loads_arch hlo)).2
          have cT := implHingeText_ok hs (fun h hh => by
            obtain ⟨k, hk, e⟩ := List.mem_iff_getElem.1 hh
            have := Gat k hk
            have e2 : gat hs k = h := by simp [gat, hk, e]
            rw [e2] at this
            omega) (by omega)
          have hT := hgText_len (l := hs) (fun k hk => by have := Gat k hk; omega) (by omega)
          have eX : meX js ks fs = sumS js ks fs false Pt.x ks.length := by unfold meX; rw [H.si]; rfl
          have eY : meY js ks fs = sumS js ks fs false Pt.y ks.length := by unfold meY; rw [H.si]; rfl
          have eN : meN js ks fs = sumN js ks fs false ks.length := by unfold meN; rw [H.si]; rfl
          have xb := H.xb
          have yb := H.yb
          have np := H.np
          unfold meA at cM
          rw [eX, eY, eN, H.si] at cM
          obtain ⟨X, hX⟩ : ∃ X, X = sumS js ks fs false Pt.x ks.length := ⟨_, rfl⟩
          obtain ⟨Y, hY⟩ : ∃ Y, Y = sumS js ks fs false Pt.y ks.length := ⟨_, rfl⟩
          rw [← hX] at cM xb
          rw [← hY] at cM yb
          (repeat (first | refine WL_nil ?_ | (apply wl0 (hd := rfl); (first | exact qv9 | exact q_callA (cC') | exact q_callA (cL) | exact q_callA (cS) | exact q_callA (cH) | exact q_callA (cM)); (exact gy0)) | (apply wlb (hd := rfl); exact qbx; (exact gy0); rfl) | refine wln ⟨_, rfl, rfl⟩ rfl ?_ | refine wlnu ⟨_, rfl, rfl⟩ rfl ?_ | refine wst rfl rfl rfl List.not_mem_nil rfl rfl rfl rfl rfl rfl ?_ | refine W_condT rfl ?_ | refine W_condF rfl ?_ | refine W_region ?_ | refine wN rfl ?_))
          refine W_loop (fun m s => ∃ (k : Nat) (u : Int), k ≤ hs.length ∧ m = hs.length - k ∧ u = inC hs k ∧ s = ⟨[(3, .ptr 3 0), (4, slLd ls), (5, .ptr 5 0), (7, slHg hs), (8, vi X), (9, vi Y), (10, vi (sumN js ks fs false ks.length)), (11, vb true), (12, vi 0), (13, vi u), (14, vi k)], [(5, [slI ks, slI fs]), (3, [slJt js])], []⟩) ⟨_, _, ⟨0, 0, by omega, rfl, rfl, rfl⟩, wkA⟩ ?_
          rintro m s ⟨k, u, hk, rfl, hu', rfl⟩
          by_cases hlt : k < hs.length
          · have hp := gat_lt hlt
            have hj := Gat k hlt
            have hle := inC_le hs k
            have hsu := inC_succ hp
            obtain ⟨j, o, ejo⟩ : ∃ j o, gat hs k = ⟨j, o⟩ := ⟨_, _, rfl⟩
            rw [ejo] at hp hj hsu
            simp only at hj hsu
            have c1 : abin .lss .i64 (k : Int) (hs.length : Int) = some (.bool true) := by simp [abin]; omega
            have c2 : abin .lss .i64 j 0 = some (.bool false) := by simp [abin]; omega
            have c3 : abin .geq .i64 j (js.length : Int) = some (.bool false) := by simp [abin]; omega
            have cb0 : CallOk Tryz.prog 11 [vb true] (fun r => r = vi 1) := btoi_ok true
            have cb1 : CallOk Tryz.prog 11 [vb false] (fun r => r = vi 0) := btoi_ok false
            cases o
            · (repeat (first | refine WL_nil ?_ | (apply wl0 (hd := rfl); (first | exact QV_bin rfl rfl c1 | exact qv9); (exact gy0)) | (apply wlb (hd := rfl); exact qbx; (exact gy0); rfl) | refine wln ⟨_, rfl, rfl⟩ rfl ?_ | refine wlnu ⟨_, rfl, rfl⟩ rfl ?_ | refine wst rfl rfl rfl List.not_mem_nil rfl rfl rfl rfl rfl rfl ?_ | refine W_condT rfl ?_ | refine W_condF rfl ?_ | refine W_region ?_ | refine wN rfl ?_))
              refine wdraw 16 (by kernel_rfl) (by kernel_rfl) (by kernel_rfl) rfl ?_
              (repeat (first | refine HW_nil ?_ | (apply hw0 (hd := rfl); (first | exact QV_bin rfl rfl c2 | exact QV_bin rfl rfl c3 | exact qv9 | exact QV_indexAddr rfl rfl rfl rfl (row_at hp)); (exact gy0)) | (apply hwb (hd := rfl); exact qbx; (exact gy0); rfl) | refine hwn ⟨_, rfl, rfl⟩ rfl ?_ | refine hwnu ⟨_, rfl, rfl⟩ rfl ?_))
              (repeat (first | refine WL_nil ?_ | (apply wl0 (hd := rfl); (first | exact qv9 | exact QV_indexAddr rfl rfl rfl rfl (row_at hp) | exact q_callA (cb0)); (exact gy0)) | (apply wlb (hd := rfl); exact qbx; (exact gy0); rfl) | refine wln ⟨_, rfl, rfl⟩ rfl ?_ | refine wlnu ⟨_, rfl, rfl⟩ rfl ?_ | refine wst rfl rfl rfl List.not_mem_nil rfl rfl rfl rfl rfl rfl ?_ | refine W_condT rfl ?_ | refine W_condF rfl ?_ | refine W_region ?_ | refine wN rfl ?_))
              refine Exists.intro _ (Exists.intro _ ⟨?_, ⟨k + 1, u + 1, by omega, rfl, by rw [hsu, hu']; rfl, rfl⟩, wkA⟩)
              omega
            · (repeat (first | refine WL_nil ?_ | (apply wl0 (hd := rfl); (first | exact QV_bin rfl rfl c1 | exact qv9); (exact gy0)) | (apply wlb (hd := rfl); exact qbx; (exact gy0); rfl) | refine wln ⟨_, rfl, rfl⟩ rfl ?_ | refine wlnu ⟨_, rfl, rfl⟩ rfl ?_ | refine wst rfl rfl rfl List.not_mem_nil rfl rfl rfl rfl rfl rfl ?_ | refine W_condT rfl ?_ | refine W_condF rfl ?_ | refine W_region ?_ | refine wN rfl ?_))
              refine wdraw 16 (by kernel_rfl) (by kernel_rfl) (by kernel_rfl) rfl ?_
              (repeat (first | refine HW_nil ?_ | (apply hw0 (hd := rfl); (first | exact QV_bin rfl rfl c2 | exact QV_bin rfl rfl c3 | exact qv9 | exact QV_indexAddr rfl rfl rfl rfl (row_at hp)); (exact gy0)) | (apply hwb (hd := rfl); exact qbx; (exact gy0); rfl) | refine hwn ⟨_, rfl, rfl⟩ rfl ?_ | refine hwnu ⟨_, rfl, rfl⟩ rfl ?_))
              (repeat (first | refine WL_nil ?_ | (apply wl0 (hd := rfl); (first | exact qv9 | exact QV_indexAddr rfl rfl rfl rfl (row_at hp) | exact q_callA (cb1)); (exact gy0)) | (apply wlb (hd := rfl); exact qbx; (exact gy0); rfl) | refine wln ⟨_, rfl, rfl⟩ rfl ?_ | refine wlnu ⟨_, rfl, rfl⟩ rfl ?_ | refine wst rfl rfl rfl List.not_mem_nil rfl rfl rfl rfl rfl rfl ?_ | refine W_condT rfl ?_ | refine W_condF rfl ?_ | refine W_region ?_ | refine wN rfl ?_))
              refine Exists.intro _ (Exists.intro _ ⟨?_, ⟨k + 1, u + 0, by omega, rfl, by rw [hsu, hu']; rfl, rfl⟩, wkA⟩)
              omega
          · have hk' : k = hs.length := by omega
            subst hk'
            have c1 : abin .lss .i64 (hs.length : Int) (hs.length : Int) = some (.bool false) := by simp [abin]
            rw [inC_all] at hu'
            (repeat (first | refine WL_nil ?_ | (apply wl0 (hd := rfl); (first | exact QV_bin rfl rfl c1 | exact qv9); (exact gy0)) | (apply wlb (hd := rfl); exact qbx; (exact gy0); rfl) | refine wln ⟨_, rfl, rfl⟩ rfl ?_ | refine wlnu ⟨_, rfl, rfl⟩ rfl ?_ | refine wst rfl rfl rfl List.not_mem_nil rfl rfl rfl rfl rfl rfl ?_ | refine W_condT rfl ?_ | refine W_condF rfl ?_ | refine W_region ?_ | refine wN rfl ?_))
            refine W_loop (fun m s => ∃ (k : Nat) (v : Int), k ≤ ks.length ∧ m = ks.length - k ∧ v = sumN js ks fs false k ∧ s = ⟨[(3, .ptr 3 0), (4, slLd ls), (5, .ptr 5 0), (7, slHg hs), (8, vi X), (9, vi Y), (10, vi (sumN js ks fs false ks.length)), (11, vb true), (12, vi v), (13, vi u), (15, vi k)], [(5, [slI ks, slI fs]), (3, [slJt js])], []⟩) ⟨_, _, ⟨0, 0, by omega, rfl, rfl, rfl⟩, wkA⟩ ?_
            rintro m s ⟨k, v, hk, rfl, hv, rfl⟩
            by_cases hlt : k < ks.length
            · have hp := iat_lt hlt
              have hq := iat_lt (l := fs) (i := k) (by omega)
              have hat := H.at_ k hlt
              have hnb := H.nb k (by omega)
              rw [← hv] at hnb
              have hstep : sumN js ks fs false (k + 1) = bif sideB (2 * js.length) (iat ks k) false then W64 (sumN js ks fs false k + iat fs k) else sumN js ks fs false k := rfl
              rw [← hv] at hstep
              generalize iat ks k = r at hp hat hstep
              generalize iat fs k = f at hq hat hstep
              have c1 : abin .lss .i64 (k : Int) (ks.length : Int) = some (.bool true) := by simp [abin]; omega
              have c2 : abin .lss .i64 (k : Int) (fs.length : Int) = some (.bool true) := by simp [abin]; omega
              have hrm : adv .rem .i64 r 2 = some (.int .i64 (r.tmod 2)) := rfl
              have hmd : r.tmod 2 = 0 ∨ r.tmod 2 = 1 := by
                rw [Int.tmod_eq_emod_of_nonneg hat.1.1]; omega
              by_cases hr : r < 2 * js.length
              · have c3 : abin .lss .i64 r (2 * js.length) = some (.bool true) := by simp only [abin, decide_eq_true hr]
                have hne : (r != 2 * (js.length : Int)) = true := by simp; omega
                rcases hmd with hmd | hmd
                · rw [hmd] at hrm
                  have hs2 : sumN js ks fs false (k + 1) = v + f := by
                    rw [hstep]
                    have : sideB (2 * js.length) r false = true := by simp only [sideB, hne, hmd]; rfl
                    rw [this, cond_true, w64 (by omega)]
                  (repeat (first | refine WL_nil ?_ | (apply wl0 (hd := rfl); (first | exact QV_bin rfl rfl c1 | exact QV_bin rfl rfl c2 | exact qv9); (exact gy0)) | (apply wlb (hd := rfl); exact qbx; (exact gy0); rfl) | refine wln ⟨_, rfl, rfl⟩ rfl ?_ | refine wlnu ⟨_, rfl, rfl⟩ rfl ?_ | refine wst rfl rfl rfl List.not_mem_nil rfl rfl rfl rfl rfl rfl ?_ | refine W_condT rfl ?_ | refine W_condF rfl ?_ | refine W_region ?_ | refine wN rfl ?_))
                  refine wdraw 18 (by kernel_rfl) (by kernel_rfl) (by kernel_rfl) rfl ?_
                  (repeat (first | refine HW_nil ?_ | (apply hw0 (hd := rfl); (first | exact QV_bin rfl rfl c3 | exact qv9 | exact QV_indexAddr rfl rfl rfl rfl (row_at hp) | exact QV_div rfl rfl (by decide) hrm); (exact gy0)) | (apply hwb (hd := rfl); exact qbx; (exact gy0); rfl) | refine hwn ⟨_, rfl, rfl⟩ rfl ?_ | refine hwnu ⟨_, rfl, rfl⟩ rfl ?_))
                  (repeat (first | refine WL_nil ?_ | (apply wl0 (hd := rfl); (first | exact qv9 | exact QV_indexAddr rfl rfl rfl rfl (row_at hq)); (exact gy0)) | (apply wlb (hd := rfl); exact qbx; (exact gy0); rfl) | refine wln ⟨_, rfl, rfl⟩ rfl ?_ | refine wlnu ⟨_, rfl, rfl⟩ rfl ?_ | refine wst rfl rfl rfl List.not_mem_nil rfl rfl rfl rfl rfl rfl ?_ | refine W_condT rfl ?_ | refine W_condF rfl ?_ | refine W_region ?_ | refine wN rfl ?_))
                  refine Exists.intro _ (Exists.intro _ ⟨?_, ⟨k + 1, v + f, by omega, rfl, hs2.symm, rfl⟩, wkA⟩)
                  omega
                · rw [hmd] at hrm
                  have hs2 : sumN js ks fs false (k + 1) = v := by
                    rw [hstep]
                    have : sideB (2 * js.length) r false = false := by simp only [sideB, hne, hmd]; rfl
                    rw [this, cond_false]
                  (repeat (first | refine WL_nil ?_ | (apply wl0 (hd := rfl); (first | exact QV_bin rfl rfl c1 | exact QV_bin rfl rfl c2 | exact qv9); (exact gy0)) | (apply wlb (hd := rfl); exact qbx; (exact gy0); rfl) | refine wln ⟨_, rfl, rfl⟩ rfl ?_ | refine wlnu ⟨_, rfl, rfl⟩ rfl ?_ | refine wst rfl rfl rfl List.not_mem_nil rfl rfl rfl rfl rfl rfl ?_ | refine W_condT rfl ?_ | refine W_condF rfl ?_ | refine W_region ?_ | refine wN rfl ?_))
                  refine wdraw 18 (by kernel_rfl) (by kernel_rfl) (by kernel_rfl) rfl ?_
                  (repeat (first | refine HW_nil ?_ | (apply hw0 (hd := rfl); (first | exact QV_bin rfl rfl c3 | exact qv9 | exact QV_indexAddr rfl rfl rfl rfl (row_at hp) | exact QV_div rfl rfl (by decide) hrm); (exact gy0)) | (apply hwb (hd := rfl); exact qbx; (exact gy0); rfl) | refine hwn ⟨_, rfl, rfl⟩ rfl ?_ | refine hwnu ⟨_, rfl, rfl⟩ rfl ?_))
                  (repeat (first | refine WL_nil ?_ | (apply wl0 (hd := rfl); (first | exact qv9); (exact gy0)) | (apply wlb (hd := rfl); exact qbx; (exact gy0); rfl) | refine wln ⟨_, rfl, rfl⟩ rfl ?_ | refine wlnu ⟨_, rfl, rfl⟩ rfl ?_ | refine wst rfl rfl rfl List.not_mem_nil rfl rfl rfl rfl rfl rfl ?_ | refine W_condT rfl ?_ | refine W_condF rfl ?_ | refine W_region ?_ | refine wN rfl ?_))
                  refine Exists.intro _ (Exists.intro _ ⟨?_, ⟨k + 1, v, by omega, rfl, hs2.symm, rfl⟩, wkA⟩)
                  omega
              · have c3 : abin .lss .i64 r (2 * js.length) = some (.bool false) := by simp only [abin, decide_eq_false hr]
                have hs2 : sumN js ks fs false (k + 1) = v := by
                  rw [hstep]
                  have : sideB (2 * js.length) r false = false := by
                    have : (r != 2 * (js.length : Int)) = false := by simp; omega
                    simp only [sideB, this]; rfl
                  rw [this, cond_false]
                (repeat (first | refine WL_nil ?_ | (apply wl0 (hd := rfl); (first | exact QV_bin rfl rfl c1 | exact QV_bin rfl rfl c2 | exact qv9); (exact gy0)) | (apply wlb (hd := rfl); exact qbx; (exact gy0); rfl) | refine wln ⟨_, rfl, rfl⟩ rfl ?_ | refine wlnu ⟨_, rfl, rfl⟩ rfl ?_ | refine wst rfl rfl rfl List.not_mem_nil rfl rfl rfl rfl rfl rfl ?_ | refine W_condT rfl ?_ | refine W_condF rfl ?_ | refine W_region ?_ | refine wN rfl ?_))
                refine wdraw 18 (by kernel_rfl) (by kernel_rfl) (by kernel_rfl) rfl ?_
                (repeat (first | refine HW_nil ?_ | (apply hw0 (hd := rfl); (first | exact QV_bin rfl rfl c3 | exact qv9 | exact QV_indexAddr rfl rfl rfl rfl (row_at hp)); (exact gy0)) | (apply hwb (hd := rfl); exact qbx; (exact gy0); rfl) | refine hwn ⟨_, rfl, rfl⟩ rfl ?_ | refine hwnu ⟨_, rfl, rfl⟩ rfl ?_))
                (repeat (first | refine WL_nil ?_ | (apply wl0 (hd := rfl); (first | exact qv9); (exact gy0)) | (apply wlb (hd := rfl); exact qbx; (exact gy0); rfl) | refine wln ⟨_, rfl, rfl⟩ rfl ?_ | refine wlnu ⟨_, rfl, rfl⟩ rfl ?_ | refine wst rfl rfl rfl List.not_mem_nil rfl rfl rfl rfl rfl rfl ?_ | refine W_condT rfl ?_ | refine W_condF rfl ?_ | refine W_region ?_ | refine wN rfl ?_))
                refine Exists.intro _ (Exists.intro _ ⟨?_, ⟨k + 1, v, by omega, rfl, hs2.symm, rfl⟩, wkA⟩)
                omega
            · have hk' : k = ks.length := by omega
              subst hk'
              have c1 : abin .lss .i64 (ks.length : Int) (ks.length : Int) = some (.bool false) := by simp [abin]
              rw [← hv]
              rw [← hv] at np
              have mx := mul_bd (a := X) (b := X) (m := 240000000) (n := 240000000) xb xb
              have my := mul_bd (a := Y) (b := Y) (m := 240000000) (n := 240000000) yb yb
              have px : 0 ≤ X * X := mul_self_nonneg' X
              have py : 0 ≤ Y * Y := mul_self_nonneg' Y
              have km : abin .mul .i64 X X = some (.int .i64 (X * X)) := by simp only [abin]; rw [i64w (by omega)]
              have kn : abin .mul .i64 Y Y = some (.int .i64 (Y * Y)) := by simp only [abin]; rw [i64w (by omega)]
              have ka : abin .add .i64 (X * X) (Y * Y) = some (.int .i64 (X * X + Y * Y)) := by simp only [abin]; rw [i64w (by omega)]
              have g1 : abin .gtr .i64 D 0 = some (.bool true) := by simp [abin]; omega
              have g2 : abin .geq .i64 (hs.length : Int) 2 = some (.bool true) := by simp [abin]; omega
              have g3 : abin .gtr .i64 u 0 = some (.bool true) := by simp [abin]; omega
              have g4 : abin .lss .i64 u (hs.length : Int) = some (.bool true) := by simp [abin]; omega
              have g5 : abin .eql .i64 v v = some (.bool true) := by simp [abin]
              have g6 : abin .gtr .i64 v 0 = some (.bool true) := by simp [abin]; omega
              have g7 : abin .geq .i64 (X * X + Y * Y) 0 = some (.bool true) := by simp [abin]; omega
              have g8 : abin .eql .i64 (3 * (hs.length : Int) - 1) (3 * (hs.length : Int) - 1) = some (.bool true) := by simp [abin]
              (repeat (first | refine WL_nil ?_ | (apply wl0 (hd := rfl); (first | exact QV_bin rfl rfl c1 | exact qv9); (exact gy0)) | (apply wlb (hd := rfl); exact qbx; (exact gy0); rfl) | refine wln ⟨_, rfl, rfl⟩ rfl ?_ | refine wlnu ⟨_, rfl, rfl⟩ rfl ?_ | refine wst rfl rfl rfl List.not_mem_nil rfl rfl rfl rfl rfl rfl ?_ | refine W_condT rfl ?_ | refine W_condF rfl ?_ | refine W_region ?_ | refine wN rfl ?_))
              refine wdraw 57 (by kernel_rfl) (by kernel_rfl) (by kernel_rfl) rfl ?_
              (repeat (first | refine HW_nil ?_ | (apply hw0 (hd := rfl); (first | exact QV_bin rfl rfl g1 | exact QV_bin rfl rfl g2 | exact QV_bin rfl rfl g3 | exact QV_bin rfl rfl g4 | exact QV_bin rfl rfl g5 | exact QV_bin rfl rfl g6 | exact QV_bin rfl rfl g7 | exact QV_bin rfl rfl g8 | exact QV_bin rfl rfl km | exact QV_bin rfl rfl kn | exact QV_bin rfl rfl ka | exact qv9 | exact q_callA (cR) | exact q_callA (cW) | exact q_callA (cP) | exact q_callA (cT) | exact q_lenT Tryz.underlying9 rfl hT); (exact gy0)) | (apply hwb (hd := rfl); exact qbx; (exact gy0); rfl) | refine hwn ⟨_, rfl, rfl⟩ rfl ?_ | refine hwnu ⟨_, rfl, rfl⟩ rfl ?_))
              (repeat (first | refine WL_nil ?_ | (apply wl0 (hd := rfl); (first | exact qv9); (exact gy0)) | (apply wlb (hd := rfl); exact qbx; (exact gy0); rfl) | refine wln ⟨_, rfl, rfl⟩ rfl ?_ | refine wlnu ⟨_, rfl, rfl⟩ rfl ?_ | refine wst rfl rfl rfl List.not_mem_nil rfl rfl rfl rfl rfl rfl ?_ | refine W_condT rfl ?_ | refine W_condF rfl ?_ | refine W_region ?_ | refine wN rfl ?_))
              refine Exists.intro _ ⟨Weak.refl _, Exists.intro _ ⟨resA_tmp rfl rfl, ?_, rfl⟩⟩
              rfl
end Go.Proofs.YtkaffcdjhbaifaaGreat
