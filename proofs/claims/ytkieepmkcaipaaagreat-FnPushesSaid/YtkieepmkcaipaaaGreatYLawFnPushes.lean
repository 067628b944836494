/- The walk of the law on pushes. -/
import Derived.Test.YtkieepmkcaipaaaGreatYMPs
import Derived.Test.YtkieepmkcaipaaaGreatYG10
import Derived.Test.YtkieepmkcaipaaaGreatYG9
namespace Go.Proofs.YtkieepmkcaipaaaGreat
open Go.Eng
set_option maxRecDepth 100000
attribute [local irreducible] QV TV WL HW W CallOk CallOkA Weak

set_option maxHeartbeats 8000000 in
theorem law_FnPushes (c : List Int) (bc : ∀ x ∈ c, isU8 x) (_lc : c.length ≤ 9223372036854775807) : CallOkA Tryz.prog 14 [slU c] (fun r => r = vb true) := by
  have hbig := lbig_ok c
  refine callOkX Tryz.func14 Tryz.ntmps14 Tryz.results14 rfl rfl rfl fun B w0 M I0 V0 hal => ?_
  by_cases hb : (1048576 : Int) < c.length
  · rw [decide_eq_true hb] at hbig
    (repeat (first | refine WL_nil ?_ | (apply wl0 (hd := rfl); (first | exact qv9 | exact q_callA (hbig)); (exact gy0)) | (apply wlb (hd := rfl); exact qbx; (exact gy0); rfl) | refine wln ⟨_, rfl, rfl⟩ rfl ?_ | refine wlnu ⟨_, rfl, rfl⟩ rfl ?_ | refine wst rfl rfl rfl List.not_mem_nil rfl rfl rfl rfl rfl rfl ?_ | refine W_condT rfl ?_ | refine W_condF rfl ?_ | refine W_region ?_ | refine wN rfl ?_))
    refine Exists.intro _ ⟨Weak.refl _, Exists.intro _ ⟨resA_tmp rfl rfl, ?_, rfl⟩⟩
    rfl
  · rw [decide_eq_false hb] at hbig
    have hl : Bts c := ⟨bc, by omega⟩
    (repeat (first | refine WL_nil ?_ | (apply wl0 (hd := rfl); (first | exact qv9 | exact q_callA (hbig)); (exact gy0)) | (apply wlb (hd := rfl); exact qbx; (exact gy0); rfl) | refine wln ⟨_, rfl, rfl⟩ rfl ?_ | refine wlnu ⟨_, rfl, rfl⟩ rfl ?_ | refine wst rfl rfl rfl List.not_mem_nil rfl rfl rfl rfl rfl rfl ?_ | refine W_condT rfl ?_ | refine W_condF rfl ?_ | refine W_region ?_ | refine wN rfl ?_))
    refine wlc (drawStanding_ok c hl) rfl (by (repeat' (first | exact LeDs.nil | refine LeDs.cons (by first | exact LeD.v | exact LeD.sl | exact LeD.own | exact LeD.nil | exact LeD.top) ?_ | refine LeDs.agg ?_ ?_)); first | done | fail "open") (fun r ⟨_, _, _, _, _, hr⟩ => by subst hr; rfl) rfl (fun r hR => ?_)
    obtain ⟨js, ls, ha, h3, hls, rfl⟩ := hR
    have h8 := arch_len ha
    have hld : loadsB js ls = true := loadsB_of ha (by omega) (fun d hd => by have := hls d hd; unfold LdOk at this; omega)
    have cc := implCentralThrust_ok js ls (by omega) (by omega)
    have hst0 := cen_stands js ls
    cases e : cenO js ls with
    | none =>
      rw [e] at cc hst0
      have hst : stnB js ls = false := hst0.symm
      (repeat (first | refine WL_nil ?_ | (apply wl0 (hd := rfl); (first | exact qv9 | exact q_callAX hal (cc)); (exact gy0)) | (apply wlb (hd := rfl); exact qbx; (exact gy0); rfl) | refine wln ⟨_, rfl, rfl⟩ rfl ?_ | refine wlnu ⟨_, rfl, rfl⟩ rfl ?_ | refine wst rfl rfl rfl List.not_mem_nil rfl rfl rfl rfl rfl rfl ?_ | refine W_condT rfl ?_ | refine W_condF rfl ?_ | refine W_region ?_ | refine wN rfl ?_))
      refine wlc (drawThrusts_ok c hl) rfl (by (repeat' (first | exact LeDs.nil | refine LeDs.cons (by first | exact LeD.v | exact LeD.sl | exact LeD.own | exact LeD.nil | exact LeD.top) ?_ | refine LeDs.agg ?_ ?_)); first | done | fail "open") (fun r ⟨_, _, _, _, hr⟩ => by subst hr; rfl) rfl (fun r hR => ?_)
      obtain ⟨t, u, ht, _, rfl⟩ := hR
      (repeat (first | refine WL_nil ?_ | (apply wl0 (hd := rfl); (first | exact qv9); (exact gy0)) | (apply wlb (hd := rfl); exact qbx; (exact gy0); rfl) | refine wln ⟨_, rfl, rfl⟩ rfl ?_ | refine wlnu ⟨_, rfl, rfl⟩ rfl ?_ | refine wst rfl rfl rfl List.not_mem_nil rfl rfl rfl rfl rfl rfl ?_ | refine W_condT rfl ?_ | refine W_condF rfl ?_ | refine W_region ?_ | refine wN rfl ?_))
      refine W_loop (fun n s => ∃ k : Nat, k ≤ js.length ∧ n = js.length - k ∧ s = ⟨[(3, .ptr 3 0), (4, slLd ls), (5, .ptr 5 0), (6, vb false), (7, vb (insN js ls t k)), (8, vi k)], [(5, t.row), (3, [slJt js])], []⟩) ⟨_, _, ⟨0, by omega, rfl, rfl⟩, wkA⟩ ?_
      rintro n s ⟨k, hk, rfl, rfl⟩
      by_cases hlt : k < js.length
      · have c1 : abin .lss .i64 (k : Int) (js.length : Int) = some (.bool true) := by simp [abin]; omega
        obtain ⟨hp, x, y, v, e1, e2, e3, e4, e5, hm⟩ := push_mom hld ht hlt
        have hj := joint_in ha hlt
        rw [ptOk_true, ptOk_true] at hj
        have hpj := jat_lt hlt
        have hT := thIn_true (thOk_in ht)
        have bx := hm.bx
        have bY := hm.bY
        have bv := hm.bv
        have blw := lw_bd hld (k := k) (by omega)
        have md := mul_bd (a := t.d) (b := lwA js ls k) (m := 1000000) (n := 1327200) (by omega) (by omega)
        have cm := implMomentsAt_ok js ls t k (by omega) (by omega)
        rw [e1, e2] at cm
        have cp := implPushAt_ok js ls t k (by omega) (by omega)
        rw [e3, e4] at cp
        have ci := implIsInside_ok js ls t k (by omega) (by omega)
        have cl := weightLeft_ok js ls k (by omega) (by omega)
        rw [lW_at hld (by omega)] at cl
        have cpl := implPlaceAt_ok js ls t k (by omega) (by omega)
        have mv := mul_bd (a := -((jat js k).o.x - (jat js k).i.x)) (b := v) (m := 120) (n := 12000000000000) (by omega) (by omega)
        have mh := mul_bd (a := (jat js k).o.y - (jat js k).i.y) (b := t.h) (m := 120) (n := 1000000000000) (by omega) (by omega)
        have hdf := mom_diff hm
        have s1 : abin .sub .i64 y x = some (.int .i64 (y - x)) := by simp only [abin]; rw [i64w (by omega)]
        have s2 : abin .sub .i64 (jat js k).o.x (jat js k).i.x = some (.int .i64 ((jat js k).o.x - (jat js k).i.x)) := by simp only [abin]; rw [i64w (by omega)]
        have s3 : abin .mul .i64 (-((jat js k).o.x - (jat js k).i.x)) v = some (.int .i64 (-((jat js k).o.x - (jat js k).i.x) * v)) := by simp only [abin]; rw [i64w (by omega)]
        have s4 : abin .sub .i64 (jat js k).o.y (jat js k).i.y = some (.int .i64 ((jat js k).o.y - (jat js k).i.y)) := by simp only [abin]; rw [i64w (by omega)]
        have s5 : abin .mul .i64 ((jat js k).o.y - (jat js k).i.y) t.h = some (.int .i64 (((jat js k).o.y - (jat js k).i.y) * t.h)) := by simp only [abin]; rw [i64w (by omega)]
        have s6 : abin .add .i64 (-((jat js k).o.x - (jat js k).i.x) * v) (((jat js k).o.y - (jat js k).i.y) * t.h) = some (.int .i64 (y - x)) := by simp only [abin]; rw [i64w (by omega), ← hdf]
        have s7 : abin .neq .i64 (y - x) (y - x) = some (.bool false) := by simp [abin]
        have s8 : abin .neq .i64 t.h t.h = some (.bool false) := by simp [abin]
        have s9 : abin .mul .i64 t.d (lwA js ls k) = some (.int .i64 (t.d * lwA js ls k)) := by simp only [abin]; rw [i64w (by omega)]
        have s10 : abin .sub .i64 t.v (t.d * lwA js ls k) = some (.int .i64 v) := by have := hm.ev; simp only [abin]; rw [i64w (by omega), ← this]
        have s11 : abin .neq .i64 v v = some (.bool false) := by simp [abin]
        have hstep : insN js ls t (k + 1) = (insN js ls t k && insB js ls t k) := rfl
        have hpl := place_ok hm e1 e2
        obtain ⟨I, eI⟩ : ∃ I, insN js ls t k = I := ⟨_, rfl⟩
        obtain ⟨J, eJ⟩ : ∃ J, insB js ls t k = J := ⟨_, rfl⟩
        rw [eJ] at ci hstep
        rw [eI] at hstep ⊢
        obtain ⟨p, ep⟩ : ∃ p, plN js ls t k = p := ⟨_, rfl⟩
        obtain ⟨q, eq⟩ : ∃ q, plD js ls t k = q := ⟨_, rfl⟩
        rw [ep, eq] at hpl cpl
        have f3 : abin .mul .i64 p (y - x) = some (.int .i64 (W64 (p * (y - x)))) := rfl
        have f4 : abin .mul .i64 (-x) q = some (.int .i64 (W64 (-x * q))) := rfl
        cases I <;> cases J
        · (repeat (first | refine WL_nil ?_ | (apply wl0 (hd := rfl); (first | exact QV_bin rfl rfl c1 | exact qv9 | exact q_callA (cm) | exact q_callA (cp) | exact q_callA (ci) | exact QV_indexAddr rfl rfl rfl rfl (row_at hpj)); (exact gy0)) | (apply wlb (hd := rfl); exact qbx; (exact gy0); rfl) | refine wln ⟨_, rfl, rfl⟩ rfl ?_ | refine wlnu ⟨_, rfl, rfl⟩ rfl ?_ | refine wst rfl rfl rfl List.not_mem_nil rfl rfl rfl rfl rfl rfl ?_ | refine W_condT rfl ?_ | refine W_condF rfl ?_ | refine W_region ?_ | refine wN rfl ?_))
          refine wdraw 44 (by kernel_rfl) (by kernel_rfl) (by kernel_rfl) rfl ?_
          (repeat (first | refine HW_nil ?_ | (apply hw0 (hd := rfl); (first | exact QV_bin rfl rfl s1 | exact QV_bin rfl rfl s2 | exact QV_bin rfl rfl s3 | exact QV_bin rfl rfl s4 | exact QV_bin rfl rfl s5 | exact QV_bin rfl rfl s6 | exact QV_bin rfl rfl s7 | exact QV_bin rfl rfl s8 | exact QV_bin rfl rfl s9 | exact QV_bin rfl rfl s10 | exact QV_bin rfl rfl s11 | exact qv9 | exact q_callA (cl)); (exact gy0)) | (apply hwb (hd := rfl); exact qbx; (exact gy0); rfl) | refine hwn ⟨_, rfl, rfl⟩ rfl ?_ | refine hwnu ⟨_, rfl, rfl⟩ rfl ?_))
          cases eP : placB js ls t k
          · rw [eP] at cpl
            (repeat (first | refine WL_nil ?_ | (apply wl0 (hd := rfl); (first | exact qv9 | exact q_callA (cpl)); (exact gy0)) | (apply wlb (hd := rfl); exact qbx; (exact gy0); rfl) | refine wln ⟨_, rfl, rfl⟩ rfl ?_ | refine wlnu ⟨_, rfl, rfl⟩ rfl ?_ | refine wst rfl rfl rfl List.not_mem_nil rfl rfl rfl rfl rfl rfl ?_ | refine W_condT rfl ?_ | refine W_condF rfl ?_ | refine W_region ?_ | refine wN rfl ?_))
            rw [show false = insN js ls t (k + 1) from hstep.symm]
            refine Exists.intro _ (Exists.intro _ ⟨?_, ⟨k + 1, by omega, rfl, rfl⟩, wkA⟩)
            omega
          · rw [eP] at cpl
            obtain ⟨l1, l2, l3⟩ := hpl eP
            have f1 : abin .lss .i64 p 0 = some (.bool false) := by simp [abin]; omega
            have f2 : abin .gtr .i64 p q = some (.bool false) := by simp [abin]; omega
            have f5 : abin .neq .i64 (W64 (p * (y - x))) (W64 (-x * q)) = some (.bool false) := by rw [l3]; simp [abin]
            (repeat (first | refine WL_nil ?_ | (apply wl0 (hd := rfl); (first | exact QV_bin rfl rfl s1 | exact QV_bin rfl rfl f1 | exact QV_bin rfl rfl f2 | exact QV_bin rfl rfl f3 | exact QV_bin rfl rfl f4 | exact QV_bin rfl rfl f5 | exact qv9 | exact q_callA (cpl)); (exact gy0)) | (apply wlb (hd := rfl); exact qbx; (exact gy0); rfl) | refine wln ⟨_, rfl, rfl⟩ rfl ?_ | refine wlnu ⟨_, rfl, rfl⟩ rfl ?_ | refine wst rfl rfl rfl List.not_mem_nil rfl rfl rfl rfl rfl rfl ?_ | refine W_condT rfl ?_ | refine W_condF rfl ?_ | refine W_region ?_ | refine wN rfl ?_))
            rw [show false = insN js ls t (k + 1) from hstep.symm]
            refine Exists.intro _ (Exists.intro _ ⟨?_, ⟨k + 1, by omega, rfl, rfl⟩, wkA⟩)
            omega
        · (repeat (first | refine WL_nil ?_ | (apply wl0 (hd := rfl); (first | exact QV_bin rfl rfl c1 | exact qv9 | exact q_callA (cm) | exact q_callA (cp) | exact q_callA (ci) | exact QV_indexAddr rfl rfl rfl rfl (row_at hpj)); (exact gy0)) | (apply wlb (hd := rfl); exact qbx; (exact gy0); rfl) | refine wln ⟨_, rfl, rfl⟩ rfl ?_ | refine wlnu ⟨_, rfl, rfl⟩ rfl ?_ | refine wst rfl rfl rfl List.not_mem_nil rfl rfl rfl rfl rfl rfl ?_ | refine W_condT rfl ?_ | refine W_condF rfl ?_ | refine W_region ?_ | refine wN rfl ?_))
          refine wdraw 44 (by kernel_rfl) (by kernel_rfl) (by kernel_rfl) rfl ?_
          (repeat (first | refine HW_nil ?_ | (apply hw0 (hd := rfl); (first | exact QV_bin rfl rfl s1 | exact QV_bin rfl rfl s2 | exact QV_bin rfl rfl s3 | exact QV_bin rfl rfl s4 | exact QV_bin rfl rfl s5 | exact QV_bin rfl rfl s6 | exact QV_bin rfl rfl s7 | exact QV_bin rfl rfl s8 | exact QV_bin rfl rfl s9 | exact QV_bin rfl rfl s10 | exact QV_bin rfl rfl s11 | exact qv9 | exact q_callA (cl)); (exact gy0)) | (apply hwb (hd := rfl); exact qbx; (exact gy0); rfl) | refine hwn ⟨_, rfl, rfl⟩ rfl ?_ | refine hwnu ⟨_, rfl, rfl⟩ rfl ?_))
          cases eP : placB js ls t k
          · rw [eP] at cpl
            (repeat (first | refine WL_nil ?_ | (apply wl0 (hd := rfl); (first | exact qv9 | exact q_callA (cpl)); (exact gy0)) | (apply wlb (hd := rfl); exact qbx; (exact gy0); rfl) | refine wln ⟨_, rfl, rfl⟩ rfl ?_ | refine wlnu ⟨_, rfl, rfl⟩ rfl ?_ | refine wst rfl rfl rfl List.not_mem_nil rfl rfl rfl rfl rfl rfl ?_ | refine W_condT rfl ?_ | refine W_condF rfl ?_ | refine W_region ?_ | refine wN rfl ?_))
            rw [show false = insN js ls t (k + 1) from hstep.symm]
            refine Exists.intro _ (Exists.intro _ ⟨?_, ⟨k + 1, by omega, rfl, rfl⟩, wkA⟩)
            omega
          · rw [eP] at cpl
            obtain ⟨l1, l2, l3⟩ := hpl eP
            have f1 : abin .lss .i64 p 0 = some (.bool false) := by simp [abin]; omega
            have f2 : abin .gtr .i64 p q = some (.bool false) := by simp [abin]; omega
            have f5 : abin .neq .i64 (W64 (p * (y - x))) (W64 (-x * q)) = some (.bool false) := by rw [l3]; simp [abin]
            (repeat (first | refine WL_nil ?_ | (apply wl0 (hd := rfl); (first | exact QV_bin rfl rfl s1 | exact QV_bin rfl rfl f1 | exact QV_bin rfl rfl f2 | exact QV_bin rfl rfl f3 | exact QV_bin rfl rfl f4 | exact QV_bin rfl rfl f5 | exact qv9 | exact q_callA (cpl)); (exact gy0)) | (apply wlb (hd := rfl); exact qbx; (exact gy0); rfl) | refine wln ⟨_, rfl, rfl⟩ rfl ?_ | refine wlnu ⟨_, rfl, rfl⟩ rfl ?_ | refine wst rfl rfl rfl List.not_mem_nil rfl rfl rfl rfl rfl rfl ?_ | refine W_condT rfl ?_ | refine W_condF rfl ?_ | refine W_region ?_ | refine wN rfl ?_))
            rw [show false = insN js ls t (k + 1) from hstep.symm]
            refine Exists.intro _ (Exists.intro _ ⟨?_, ⟨k + 1, by omega, rfl, rfl⟩, wkA⟩)
            omega
        · (repeat (first | refine WL_nil ?_ | (apply wl0 (hd := rfl); (first | exact QV_bin rfl rfl c1 | exact qv9 | exact q_callA (cm) | exact q_callA (cp) | exact q_callA (ci) | exact QV_indexAddr rfl rfl rfl rfl (row_at hpj)); (exact gy0)) | (apply wlb (hd := rfl); exact qbx; (exact gy0); rfl) | refine wln ⟨_, rfl, rfl⟩ rfl ?_ | refine wlnu ⟨_, rfl, rfl⟩ rfl ?_ | refine wst rfl rfl rfl List.not_mem_nil rfl rfl rfl rfl rfl rfl ?_ | refine W_condT rfl ?_ | refine W_condF rfl ?_ | refine W_region ?_ | refine wN rfl ?_))
          refine wdraw 44 (by kernel_rfl) (by kernel_rfl) (by kernel_rfl) rfl ?_
          (repeat (first | refine HW_nil ?_ | (apply hw0 (hd := rfl); (first | exact QV_bin rfl rfl s1 | exact QV_bin rfl rfl s2 | exact QV_bin rfl rfl s3 | exact QV_bin rfl rfl s4 | exact QV_bin rfl rfl s5 | exact QV_bin rfl rfl s6 | exact QV_bin rfl rfl s7 | exact QV_bin rfl rfl s8 | exact QV_bin rfl rfl s9 | exact QV_bin rfl rfl s10 | exact QV_bin rfl rfl s11 | exact qv9 | exact q_callA (cl)); (exact gy0)) | (apply hwb (hd := rfl); exact qbx; (exact gy0); rfl) | refine hwn ⟨_, rfl, rfl⟩ rfl ?_ | refine hwnu ⟨_, rfl, rfl⟩ rfl ?_))
          cases eP : placB js ls t k
          · rw [eP] at cpl
            (repeat (first | refine WL_nil ?_ | (apply wl0 (hd := rfl); (first | exact qv9 | exact q_callA (cpl)); (exact gy0)) | (apply wlb (hd := rfl); exact qbx; (exact gy0); rfl) | refine wln ⟨_, rfl, rfl⟩ rfl ?_ | refine wlnu ⟨_, rfl, rfl⟩ rfl ?_ | refine wst rfl rfl rfl List.not_mem_nil rfl rfl rfl rfl rfl rfl ?_ | refine W_condT rfl ?_ | refine W_condF rfl ?_ | refine W_region ?_ | refine wN rfl ?_))
            rw [show false = insN js ls t (k + 1) from hstep.symm]
            refine Exists.intro _ (Exists.intro _ ⟨?_, ⟨k + 1, by omega, rfl, rfl⟩, wkA⟩)
            omega
          · rw [eP] at cpl
            obtain ⟨l1, l2, l3⟩ := hpl eP
            have f1 : abin .lss .i64 p 0 = some (.bool false) := by simp [abin]; omega
            have f2 : abin .gtr .i64 p q = some (.bool false) := by simp [abin]; omega
            have f5 : abin .neq .i64 (W64 (p * (y - x))) (W64 (-x * q)) = some (.bool false) := by rw [l3]; simp [abin]
            (repeat (first | refine WL_nil ?_ | (apply wl0 (hd := rfl); (first | exact QV_bin rfl rfl s1 | exact QV_bin rfl rfl f1 | exact QV_bin rfl rfl f2 | exact QV_bin rfl rfl f3 | exact QV_bin rfl rfl f4 | exact QV_bin rfl rfl f5 | exact qv9 | exact q_callA (cpl)); (exact gy0)) | (apply wlb (hd := rfl); exact qbx; (exact gy0); rfl) | refine wln ⟨_, rfl, rfl⟩ rfl ?_ | refine wlnu ⟨_, rfl, rfl⟩ rfl ?_ | refine wst rfl rfl rfl List.not_mem_nil rfl rfl rfl rfl rfl rfl ?_ | refine W_condT rfl ?_ | refine W_condF rfl ?_ | refine W_region ?_ | refine wN rfl ?_))
            rw [show false = insN js ls t (k + 1) from hstep.symm]
            refine Exists.intro _ (Exists.intro _ ⟨?_, ⟨k + 1, by omega, rfl, rfl⟩, wkA⟩)
            omega
        · (repeat (first | refine WL_nil ?_ | (apply wl0 (hd := rfl); (first | exact QV_bin rfl rfl c1 | exact qv9 | exact q_callA (cm) | exact q_callA (cp) | exact q_callA (ci) | exact QV_indexAddr rfl rfl rfl rfl (row_at hpj)); (exact gy0)) | (apply wlb (hd := rfl); exact qbx; (exact gy0); rfl) | refine wln ⟨_, rfl, rfl⟩ rfl ?_ | refine wlnu ⟨_, rfl, rfl⟩ rfl ?_ | refine wst rfl rfl rfl List.not_mem_nil rfl rfl rfl rfl rfl rfl ?_ | refine W_condT rfl ?_ | refine W_condF rfl ?_ | refine W_region ?_ | refine wN rfl ?_))
          refine wdraw 44 (by kernel_rfl) (by kernel_rfl) (by kernel_rfl) rfl ?_
          (repeat (first | refine HW_nil ?_ | (apply hw0 (hd := rfl); (first | exact QV_bin rfl rfl s1 | exact QV_bin rfl rfl s2 | exact QV_bin rfl rfl s3 | exact QV_bin rfl rfl s4 | exact QV_bin rfl rfl s5 | exact QV_bin rfl rfl s6 | exact QV_bin rfl rfl s7 | exact QV_bin rfl rfl s8 | exact QV_bin rfl rfl s9 | exact QV_bin rfl rfl s10 | exact QV_bin rfl rfl s11 | exact qv9 | exact q_callA (cl)); (exact gy0)) | (apply hwb (hd := rfl); exact qbx; (exact gy0); rfl) | refine hwn ⟨_, rfl, rfl⟩ rfl ?_ | refine hwnu ⟨_, rfl, rfl⟩ rfl ?_))
          cases eP : placB js ls t k
          · rw [eP] at cpl
            (repeat (first | refine WL_nil ?_ | (apply wl0 (hd := rfl); (first | exact qv9 | exact q_callA (cpl)); (exact gy0)) | (apply wlb (hd := rfl); exact qbx; (exact gy0); rfl) | refine wln ⟨_, rfl, rfl⟩ rfl ?_ | refine wlnu ⟨_, rfl, rfl⟩ rfl ?_ | refine wst rfl rfl rfl List.not_mem_nil rfl rfl rfl rfl rfl rfl ?_ | refine W_condT rfl ?_ | refine W_condF rfl ?_ | refine W_region ?_ | refine wN rfl ?_))
            rw [show true = insN js ls t (k + 1) from hstep.symm]
            refine Exists.intro _ (Exists.intro _ ⟨?_, ⟨k + 1, by omega, rfl, rfl⟩, wkA⟩)
            omega
          · rw [eP] at cpl
            obtain ⟨l1, l2, l3⟩ := hpl eP
            have f1 : abin .lss .i64 p 0 = some (.bool false) := by simp [abin]; omega
            have f2 : abin .gtr .i64 p q = some (.bool false) := by simp [abin]; omega
            have f5 : abin .neq .i64 (W64 (p * (y - x))) (W64 (-x * q)) = some (.bool false) := by rw [l3]; simp [abin]
            (repeat (first | refine WL_nil ?_ | (apply wl0 (hd := rfl); (first | exact QV_bin rfl rfl s1 | exact QV_bin rfl rfl f1 | exact QV_bin rfl rfl f2 | exact QV_bin rfl rfl f3 | exact QV_bin rfl rfl f4 | exact QV_bin rfl rfl f5 | exact qv9 | exact q_callA (cpl)); (exact gy0)) | (apply wlb (hd := rfl); exact qbx; (exact gy0); rfl) | refine wln ⟨_, rfl, rfl⟩ rfl ?_ | refine wlnu ⟨_, rfl, rfl⟩ rfl ?_ | refine wst rfl rfl rfl List.not_mem_nil rfl rfl rfl rfl rfl rfl ?_ | refine W_condT rfl ?_ | refine W_condF rfl ?_ | refine W_region ?_ | refine wN rfl ?_))
            rw [show true = insN js ls t (k + 1) from hstep.symm]
            refine Exists.intro _ (Exists.intro _ ⟨?_, ⟨k + 1, by omega, rfl, rfl⟩, wkA⟩)
            omega
      · have c1 : abin .lss .i64 (k : Int) (js.length : Int) = some (.bool false) := by simp [abin]; omega
        have hk' : k = js.length := by omega
        subst hk'
        obtain ⟨g1, g2⟩ := stdB_ins hld ht
        have hl := rowsAll_len js ls
        have hok : (rowsAll js ls).all rowB = true := List.all_eq_true.2 fun r hr => smR_ok (rowsAll_sm hld hr)
        have hbr := brk_all t (rowsAll js ls) hok
        have cr := implRowsOf_ok js ls (by omega) (by omega)
        rw [rowsA_go hld] at cr
        have cs := implStandsWith_ok js ls t (by omega) (by omega)
        have cf := implFulfillsAll_ok t (rowsAll js ls) (by omega)
        have cb := countBroken_ok t (rowsAll js ls) ht (by omega)
        have cst := implStands_ok js ls (by omega) (by omega)
        rw [hst] at cst
        rw [show fulAll t (rowsAll js ls) = insN js ls t js.length by rw [fulAll, inR_true.2 (by omega), Bool.true_and, g2]] at cf
        rw [g1] at cs
        rw [g2] at hbr
        have a1 : abin .mul .i64 2 (js.length : Int) = some (.int .i64 (2 * (js.length : Int))) := by simp only [abin]; rw [i64w (by omega)]
        have a2 : abin .add .i64 (2 * (js.length : Int)) 1 = some (.int .i64 (2 * (js.length : Int) + 1)) := by simp only [abin]; rw [i64w (by omega)]
        have a3 : abin .eql .i64 ((rowsAll js ls).length : Int) (2 * (js.length : Int) + 1) = some (.bool true) := by rw [hl]; simp [abin]
        cases hI : insN js ls t js.length
        · rw [hI] at cs cf hbr
          have a4 : abin .eql .i64 (brkN t (rowsAll js ls) (rowsAll js ls).length) 0 = some (.bool false) := by
            simp only [abin, Option.some.injEq, Value.bool.injEq, beq_eq_false_iff_ne, ne_eq]
            intro h
            exact absurd (hbr.1 h) (by simp)
          (repeat (first | refine WL_nil ?_ | (apply wl0 (hd := rfl); (first | exact QV_bin rfl rfl c1 | exact QV_bin rfl rfl a1 | exact QV_bin rfl rfl a2 | exact QV_bin rfl rfl a3 | exact QV_bin rfl rfl a4 | exact qv9 | exact q_callA (cr) | exact q_callA (cs) | exact q_callA (cf) | exact q_callA (cb) | exact q_callAX hal (cst)); (exact gy0)) | (apply wlb (hd := rfl); exact qbx; (exact gy0); rfl) | refine wln ⟨_, rfl, rfl⟩ rfl ?_ | refine wlnu ⟨_, rfl, rfl⟩ rfl ?_ | refine wst rfl rfl rfl List.not_mem_nil rfl rfl rfl rfl rfl rfl ?_ | refine W_condT rfl ?_ | refine W_condF rfl ?_ | refine W_region ?_ | refine wN rfl ?_))
          refine Exists.intro _ ⟨Weak.refl _, Exists.intro _ ⟨resA_tmp rfl rfl, ?_, rfl⟩⟩
          rfl
        · rw [hI] at cs cf hbr
          have a4 : abin .eql .i64 (brkN t (rowsAll js ls) (rowsAll js ls).length) 0 = some (.bool true) := by rw [hbr.2 rfl]; rfl
          (repeat (first | refine WL_nil ?_ | (apply wl0 (hd := rfl); (first | exact QV_bin rfl rfl c1 | exact QV_bin rfl rfl a1 | exact QV_bin rfl rfl a2 | exact QV_bin rfl rfl a3 | exact QV_bin rfl rfl a4 | exact qv9 | exact q_callA (cr) | exact q_callA (cs) | exact q_callA (cf) | exact q_callA (cb) | exact q_callAX hal (cst)); (exact gy0)) | (apply wlb (hd := rfl); exact qbx; (exact gy0); rfl) | refine wln ⟨_, rfl, rfl⟩ rfl ?_ | refine wlnu ⟨_, rfl, rfl⟩ rfl ?_ | refine wst rfl rfl rfl List.not_mem_nil rfl rfl rfl rfl rfl rfl ?_ | refine W_condT rfl ?_ | refine W_condF rfl ?_ | refine W_region ?_ | refine wN rfl ?_))
          refine Exists.intro _ ⟨Weak.refl _, Exists.intro _ ⟨resA_tmp rfl rfl, ?_, rfl⟩⟩
          rfl
    | some t =>
      rw [e] at cc hst0
      have hst : stnB js ls = true := hst0.symm
      obtain ⟨ht, hgo⟩ := cen_good hld e
      (repeat (first | refine WL_nil ?_ | (apply wl0 (hd := rfl); (first | exact qv9 | exact q_callAX hal (cc)); (exact gy0)) | (apply wlb (hd := rfl); exact qbx; (exact gy0); rfl) | refine wln ⟨_, rfl, rfl⟩ rfl ?_ | refine wlnu ⟨_, rfl, rfl⟩ rfl ?_ | refine wst rfl rfl rfl List.not_mem_nil rfl rfl rfl rfl rfl rfl ?_ | refine W_condT rfl ?_ | refine W_condF rfl ?_ | refine W_region ?_ | refine wN rfl ?_))
      refine W_loop (fun n s => ∃ k : Nat, k ≤ js.length ∧ n = js.length - k ∧ s = ⟨[(3, .ptr 3 0), (4, slLd ls), (5, .ptr 5 0), (6, vb true), (7, vb (insN js ls t k)), (8, vi k)], [(5, t.row), (3, [slJt js])], []⟩) ⟨_, _, ⟨0, by omega, rfl, rfl⟩, wkA⟩ ?_
      rintro n s ⟨k, hk, rfl, rfl⟩
      by_cases hlt : k < js.length
      · have c1 : abin .lss .i64 (k : Int) (js.length : Int) = some (.bool true) := by simp [abin]; omega
        obtain ⟨hp, x, y, v, e1, e2, e3, e4, e5, hm⟩ := push_mom hld ht hlt
        have hj := joint_in ha hlt
        rw [ptOk_true, ptOk_true] at hj
        have hpj := jat_lt hlt
        have hT := thIn_true (thOk_in ht)
        have bx := hm.bx
        have bY := hm.bY
        have bv := hm.bv
        have blw := lw_bd hld (k := k) (by omega)
        have md := mul_bd (a := t.d) (b := lwA js ls k) (m := 1000000) (n := 1327200) (by omega) (by omega)
        have cm := implMomentsAt_ok js ls t k (by omega) (by omega)
        rw [e1, e2] at cm
        have cp := implPushAt_ok js ls t k (by omega) (by omega)
        rw [e3, e4] at cp
        have ci := implIsInside_ok js ls t k (by omega) (by omega)
        have cl := weightLeft_ok js ls k (by omega) (by omega)
        rw [lW_at hld (by omega)] at cl
        have cpl := implPlaceAt_ok js ls t k (by omega) (by omega)
        have mv := mul_bd (a := -((jat js k).o.x - (jat js k).i.x)) (b := v) (m := 120) (n := 12000000000000) (by omega) (by omega)
        have mh := mul_bd (a := (jat js k).o.y - (jat js k).i.y) (b := t.h) (m := 120) (n := 1000000000000) (by omega) (by omega)
        have hdf := mom_diff hm
        have s1 : abin .sub .i64 y x = some (.int .i64 (y - x)) := by simp only [abin]; rw [i64w (by omega)]
        have s2 : abin .sub .i64 (jat js k).o.x (jat js k).i.x = some (.int .i64 ((jat js k).o.x - (jat js k).i.x)) := by simp only [abin]; rw [i64w (by omega)]
        have s3 : abin .mul .i64 (-((jat js k).o.x - (jat js k).i.x)) v = some (.int .i64 (-((jat js k).o.x - (jat js k).i.x) * v)) := by simp only [abin]; rw [i64w (by omega)]
        have s4 : abin .sub .i64 (jat js k).o.y (jat js k).i.y = some (.int .i64 ((jat js k).o.y - (jat js k).i.y)) := by simp only [abin]; rw [i64w (by omega)]
        have s5 : abin .mul .i64 ((jat js k).o.y - (jat js k).i.y) t.h = some (.int .i64 (((jat js k).o.y - (jat js k).i.y) * t.h)) := by simp only [abin]; rw [i64w (by omega)]
        have s6 : abin .add .i64 (-((jat js k).o.x - (jat js k).i.x) * v) (((jat js k).o.y - (jat js k).i.y) * t.h) = some (.int .i64 (y - x)) := by simp only [abin]; rw [i64w (by omega), ← hdf]
        have s7 : abin .neq .i64 (y - x) (y - x) = some (.bool false) := by simp [abin]
        have s8 : abin .neq .i64 t.h t.h = some (.bool false) := by simp [abin]
        have s9 : abin .mul .i64 t.d (lwA js ls k) = some (.int .i64 (t.d * lwA js ls k)) := by simp only [abin]; rw [i64w (by omega)]
        have s10 : abin .sub .i64 t.v (t.d * lwA js ls k) = some (.int .i64 v) := by have := hm.ev; simp only [abin]; rw [i64w (by omega), ← this]
        have s11 : abin .neq .i64 v v = some (.bool false) := by simp [abin]
        have hstep : insN js ls t (k + 1) = (insN js ls t k && insB js ls t k) := rfl
        have hpl := place_ok hm e1 e2
        obtain ⟨I, eI⟩ : ∃ I, insN js ls t k = I := ⟨_, rfl⟩
        obtain ⟨J, eJ⟩ : ∃ J, insB js ls t k = J := ⟨_, rfl⟩
        rw [eJ] at ci hstep
        rw [eI] at hstep ⊢
        obtain ⟨p, ep⟩ : ∃ p, plN js ls t k = p := ⟨_, rfl⟩
        obtain ⟨q, eq⟩ : ∃ q, plD js ls t k = q := ⟨_, rfl⟩
        rw [ep, eq] at hpl cpl
        have f3 : abin .mul .i64 p (y - x) = some (.int .i64 (W64 (p * (y - x)))) := rfl
        have f4 : abin .mul .i64 (-x) q = some (.int .i64 (W64 (-x * q))) := rfl
        cases I <;> cases J
        · (repeat (first | refine WL_nil ?_ | (apply wl0 (hd := rfl); (first | exact QV_bin rfl rfl c1 | exact qv9 | exact q_callA (cm) | exact q_callA (cp) | exact q_callA (ci) | exact QV_indexAddr rfl rfl rfl rfl (row_at hpj)); (exact gy0)) | (apply wlb (hd := rfl); exact qbx; (exact gy0); rfl) | refine wln ⟨_, rfl, rfl⟩ rfl ?_ | refine wlnu ⟨_, rfl, rfl⟩ rfl ?_ | refine wst rfl rfl rfl List.not_mem_nil rfl rfl rfl rfl rfl rfl ?_ | refine W_condT rfl ?_ | refine W_condF rfl ?_ | refine W_region ?_ | refine wN rfl ?_))
          refine wdraw 44 (by kernel_rfl) (by kernel_rfl) (by kernel_rfl) rfl ?_
          (repeat (first | refine HW_nil ?_ | (apply hw0 (hd := rfl); (first | exact QV_bin rfl rfl s1 | exact QV_bin rfl rfl s2 | exact QV_bin rfl rfl s3 | exact QV_bin rfl rfl s4 | exact QV_bin rfl rfl s5 | exact QV_bin rfl rfl s6 | exact QV_bin rfl rfl s7 | exact QV_bin rfl rfl s8 | exact QV_bin rfl rfl s9 | exact QV_bin rfl rfl s10 | exact QV_bin rfl rfl s11 | exact qv9 | exact q_callA (cl)); (exact gy0)) | (apply hwb (hd := rfl); exact qbx; (exact gy0); rfl) | refine hwn ⟨_, rfl, rfl⟩ rfl ?_ | refine hwnu ⟨_, rfl, rfl⟩ rfl ?_))
          cases eP : placB js ls t k
          · rw [eP] at cpl
            (repeat (first | refine WL_nil ?_ | (apply wl0 (hd := rfl); (first | exact qv9 | exact q_callA (cpl)); (exact gy0)) | (apply wlb (hd := rfl); exact qbx; (exact gy0); rfl) | refine wln ⟨_, rfl, rfl⟩ rfl ?_ | refine wlnu ⟨_, rfl, rfl⟩ rfl ?_ | refine wst rfl rfl rfl List.not_mem_nil rfl rfl rfl rfl rfl rfl ?_ | refine W_condT rfl ?_ | refine W_condF rfl ?_ | refine W_region ?_ | refine wN rfl ?_))
            rw [show false = insN js ls t (k + 1) from hstep.symm]
            refine Exists.intro _ (Exists.intro _ ⟨?_, ⟨k + 1, by omega, rfl, rfl⟩, wkA⟩)
            omega
          · rw [eP] at cpl
            obtain ⟨l1, l2, l3⟩ := hpl eP
            have f1 : abin .lss .i64 p 0 = some (.bool false) := by simp [abin]; omega
            have f2 : abin .gtr .i64 p q = some (.bool false) := by simp [abin]; omega
            have f5 : abin .neq .i64 (W64 (p * (y - x))) (W64 (-x * q)) = some (.bool false) := by rw [l3]; simp [abin]
            (repeat (first | refine WL_nil ?_ | (apply wl0 (hd := rfl); (first | exact QV_bin rfl rfl s1 | exact QV_bin rfl rfl f1 | exact QV_bin rfl rfl f2 | exact QV_bin rfl rfl f3 | exact QV_bin rfl rfl f4 | exact QV_bin rfl rfl f5 | exact qv9 | exact q_callA (cpl)); (exact gy0)) | (apply wlb (hd := rfl); exact qbx; (exact gy0); rfl) | refine wln ⟨_, rfl, rfl⟩ rfl ?_ | refine wlnu ⟨_, rfl, rfl⟩ rfl ?_ | refine wst rfl rfl rfl List.not_mem_nil rfl rfl rfl rfl rfl rfl ?_ | refine W_condT rfl ?_ | refine W_condF rfl ?_ | refine W_region ?_ | refine wN rfl ?_))
            rw [show false = insN js ls t (k + 1) from hstep.symm]
            refine Exists.intro _ (Exists.intro _ ⟨?_, ⟨k + 1, by omega, rfl, rfl⟩, wkA⟩)
            omega
        · (repeat (first | refine WL_nil ?_ | (apply wl0 (hd := rfl); (first | exact QV_bin rfl rfl c1 | exact qv9 | exact q_callA (cm) | exact q_callA (cp) | exact q_callA (ci) | exact QV_indexAddr rfl rfl rfl rfl (row_at hpj)); (exact gy0)) | (apply wlb (hd := rfl); exact qbx; (exact gy0); rfl) | refine wln ⟨_, rfl, rfl⟩ rfl ?_ | refine wlnu ⟨_, rfl, rfl⟩ rfl ?_ | refine wst rfl rfl rfl List.not_mem_nil rfl rfl rfl rfl rfl rfl ?_ | refine W_condT rfl ?_ | refine W_condF rfl ?_ | refine W_region ?_ | refine wN rfl ?_))
          refine wdraw 44 (by kernel_rfl) (by kernel_rfl) (by kernel_rfl) rfl ?_
          (repeat (first | refine HW_nil ?_ | (apply hw0 (hd := rfl); (first | exact QV_bin rfl rfl s1 | exact QV_bin rfl rfl s2 | exact QV_bin rfl rfl s3 | exact QV_bin rfl rfl s4 | exact QV_bin rfl rfl s5 | exact QV_bin rfl rfl s6 | exact QV_bin rfl rfl s7 | exact QV_bin rfl rfl s8 | exact QV_bin rfl rfl s9 | exact QV_bin rfl rfl s10 | exact QV_bin rfl rfl s11 | exact qv9 | exact q_callA (cl)); (exact gy0)) | (apply hwb (hd := rfl); exact qbx; (exact gy0); rfl) | refine hwn ⟨_, rfl, rfl⟩ rfl ?_ | refine hwnu ⟨_, rfl, rfl⟩ rfl ?_))
          cases eP : placB js ls t k
          · rw [eP] at cpl
            (repeat (first | refine WL_nil ?_ | (apply wl0 (hd := rfl); (first | exact qv9 | exact q_callA (cpl)); (exact gy0)) | (apply wlb (hd := rfl); exact qbx; (exact gy0); rfl) | refine wln ⟨_, rfl, rfl⟩ rfl ?_ | refine wlnu ⟨_, rfl, rfl⟩ rfl ?_ | refine wst rfl rfl rfl List.not_mem_nil rfl rfl rfl rfl rfl rfl ?_ | refine W_condT rfl ?_ | refine W_condF rfl ?_ | refine W_region ?_ | refine wN rfl ?_))
            rw [show false = insN js ls t (k + 1) from hstep.symm]
            refine Exists.intro _ (Exists.intro _ ⟨?_, ⟨k + 1, by omega, rfl, rfl⟩, wkA⟩)
            omega
          · rw [eP] at cpl
            obtain ⟨l1, l2, l3⟩ := hpl eP
            have f1 : abin .lss .i64 p 0 = some (.bool false) := by simp [abin]; omega
            have f2 : abin .gtr .i64 p q = some (.bool false) := by simp [abin]; omega
            have f5 : abin .neq .i64 (W64 (p * (y - x))) (W64 (-x * q)) = some (.bool false) := by rw [l3]; simp [abin]
            (repeat (first | refine WL_nil ?_ | (apply wl0 (hd := rfl); (first | exact QV_bin rfl rfl s1 | exact QV_bin rfl rfl f1 | exact QV_bin rfl rfl f2 | exact QV_bin rfl rfl f3 | exact QV_bin rfl rfl f4 | exact QV_bin rfl rfl f5 | exact qv9 | exact q_callA (cpl)); (exact gy0)) | (apply wlb (hd := rfl); exact qbx; (exact gy0); rfl) | refine wln ⟨_, rfl, rfl⟩ rfl ?_ | refine wlnu ⟨_, rfl, rfl⟩ rfl ?_ | refine wst rfl rfl rfl List.not_mem_nil rfl rfl rfl rfl rfl rfl ?_ | refine W_condT rfl ?_ | refine W_condF rfl ?_ | refine W_region ?_ | refine wN rfl ?_))
            rw [show false = insN js ls t (k + 1) from hstep.symm]
            refine Exists.intro _ (Exists.intro _ ⟨?_, ⟨k + 1, by omega, rfl, rfl⟩, wkA⟩)
            omega
        · (repeat (first | refine WL_nil ?_ | (apply wl0 (hd := rfl); (first | exact QV_bin rfl rfl c1 | exact qv9 | exact q_callA (cm) | exact q_callA (cp) | exact q_callA (ci) | exact QV_indexAddr rfl rfl rfl rfl (row_at hpj)); (exact gy0)) | (apply wlb (hd := rfl); exact qbx; (exact gy0); rfl) | refine wln ⟨_, rfl, rfl⟩ rfl ?_ | refine wlnu ⟨_, rfl, rfl⟩ rfl ?_ | refine wst rfl rfl rfl List.not_mem_nil rfl rfl rfl rfl rfl rfl ?_ | refine W_condT rfl ?_ | refine W_condF rfl ?_ | refine W_region ?_ | refine wN rfl ?_))
          refine wdraw 44 (by kernel_rfl) (by kernel_rfl) (by kernel_rfl) rfl ?_
          (repeat (first | refine HW_nil ?_ | (apply hw0 (hd := rfl); (first | exact QV_bin rfl rfl s1 | exact QV_bin rfl rfl s2 | exact QV_bin rfl rfl s3 | exact QV_bin rfl rfl s4 | exact QV_bin rfl rfl s5 | exact QV_bin rfl rfl s6 | exact QV_bin rfl rfl s7 | exact QV_bin rfl rfl s8 | exact QV_bin rfl rfl s9 | exact QV_bin rfl rfl s10 | exact QV_bin rfl rfl s11 | exact qv9 | exact q_callA (cl)); (exact gy0)) | (apply hwb (hd := rfl); exact qbx; (exact gy0); rfl) | refine hwn ⟨_, rfl, rfl⟩ rfl ?_ | refine hwnu ⟨_, rfl, rfl⟩ rfl ?_))
          cases eP : placB js ls t k
          · rw [eP] at cpl
            (repeat (first | refine WL_nil ?_ | (apply wl0 (hd := rfl); (first | exact qv9 | exact q_callA (cpl)); (exact gy0)) | (apply wlb (hd := rfl); exact qbx; (exact gy0); rfl) | refine wln ⟨_, rfl, rfl⟩ rfl ?_ | refine wlnu ⟨_, rfl, rfl⟩ rfl ?_ | refine wst rfl rfl rfl List.not_mem_nil rfl rfl rfl rfl rfl rfl ?_ | refine W_condT rfl ?_ | refine W_condF rfl ?_ | refine W_region ?_ | refine wN rfl ?_))
            rw [show false = insN js ls t (k + 1) from hstep.symm]
            refine Exists.intro _ (Exists.intro _ ⟨?_, ⟨k + 1, by omega, rfl, rfl⟩, wkA⟩)
            omega
          · rw [eP] at cpl
            obtain ⟨l1, l2, l3⟩ := hpl eP
            have f1 : abin .lss .i64 p 0 = some (.bool false) := by simp [abin]; omega
            have f2 : abin .gtr .i64 p q = some (.bool false) := by simp [abin]; omega
            have f5 : abin .neq .i64 (W64 (p * (y - x))) (W64 (-x * q)) = some (.bool false) := by rw [l3]; simp [abin]
            (repeat (first | refine WL_nil ?_ | (apply wl0 (hd := rfl); (first | exact QV_bin rfl rfl s1 | exact QV_bin rfl rfl f1 | exact QV_bin rfl rfl f2 | exact QV_bin rfl rfl f3 | exact QV_bin rfl rfl f4 | exact QV_bin rfl rfl f5 | exact qv9 | exact q_callA (cpl)); (exact gy0)) | (apply wlb (hd := rfl); exact qbx; (exact gy0); rfl) | refine wln ⟨_, rfl, rfl⟩ rfl ?_ | refine wlnu ⟨_, rfl, rfl⟩ rfl ?_ | refine wst rfl rfl rfl List.not_mem_nil rfl rfl rfl rfl rfl rfl ?_ | refine W_condT rfl ?_ | refine W_condF rfl ?_ | refine W_region ?_ | refine wN rfl ?_))
            rw [show false = insN js ls t (k + 1) from hstep.symm]
            refine Exists.intro _ (Exists.intro _ ⟨?_, ⟨k + 1, by omega, rfl, rfl⟩, wkA⟩)
            omega
        · (repeat (first | refine WL_nil ?_ | (apply wl0 (hd := rfl); (first | exact QV_bin rfl rfl c1 | exact qv9 | exact q_callA (cm) | exact q_callA (cp) | exact q_callA (ci) | exact QV_indexAddr rfl rfl rfl rfl (row_at hpj)); (exact gy0)) | (apply wlb (hd := rfl); exact qbx; (exact gy0); rfl) | refine wln ⟨_, rfl, rfl⟩ rfl ?_ | refine wlnu ⟨_, rfl, rfl⟩ rfl ?_ | refine wst rfl rfl rfl List.not_mem_nil rfl rfl rfl rfl rfl rfl ?_ | refine W_condT rfl ?_ | refine W_condF rfl ?_ | refine W_region ?_ | refine wN rfl ?_))
          refine wdraw 44 (by kernel_rfl) (by kernel_rfl) (by kernel_rfl) rfl ?_
          (repeat (first | refine HW_nil ?_ | (apply hw0 (hd := rfl); (first | exact QV_bin rfl rfl s1 | exact QV_bin rfl rfl s2 | exact QV_bin rfl rfl s3 | exact QV_bin rfl rfl s4 | exact QV_bin rfl rfl s5 | exact QV_bin rfl rfl s6 | exact QV_bin rfl rfl s7 | exact QV_bin rfl rfl s8 | exact QV_bin rfl rfl s9 | exact QV_bin rfl rfl s10 | exact QV_bin rfl rfl s11 | exact qv9 | exact q_callA (cl)); (exact gy0)) | (apply hwb (hd := rfl); exact qbx; (exact gy0); rfl) | refine hwn ⟨_, rfl, rfl⟩ rfl ?_ | refine hwnu ⟨_, rfl, rfl⟩ rfl ?_))
          cases eP : placB js ls t k
          · rw [eP] at cpl
            (repeat (first | refine WL_nil ?_ | (apply wl0 (hd := rfl); (first | exact qv9 | exact q_callA (cpl)); (exact gy0)) | (apply wlb (hd := rfl); exact qbx; (exact gy0); rfl) | refine wln ⟨_, rfl, rfl⟩ rfl ?_ | refine wlnu ⟨_, rfl, rfl⟩ rfl ?_ | refine wst rfl rfl rfl List.not_mem_nil rfl rfl rfl rfl rfl rfl ?_ | refine W_condT rfl ?_ | refine W_condF rfl ?_ | refine W_region ?_ | refine wN rfl ?_))
            rw [show true = insN js ls t (k + 1) from hstep.symm]
            refine Exists.intro _ (Exists.intro _ ⟨?_, ⟨k + 1, by omega, rfl, rfl⟩, wkA⟩)
            omega
          · rw [eP] at cpl
            obtain ⟨l1, l2, l3⟩ := hpl eP
            have f1 : abin .lss .i64 p 0 = some (.bool false) := by simp [abin]; omega
            have f2 : abin .gtr .i64 p q = some (.bool false) := by simp [abin]; omega
            have f5 : abin .neq .i64 (W64 (p * (y - x))) (W64 (-x * q)) = some (.bool false) := by rw [l3]; simp [abin]
            (repeat (first | refine WL_nil ?_ | (apply wl0 (hd := rfl); (first | exact QV_bin rfl rfl s1 | exact QV_bin rfl rfl f1 | exact QV_bin rfl rfl f2 | exact QV_bin rfl rfl f3 | exact QV_bin rfl rfl f4 | exact QV_bin rfl rfl f5 | exact qv9 | exact q_callA (cpl)); (exact gy0)) | (apply wlb (hd := rfl); exact qbx; (exact gy0); rfl) | refine wln ⟨_, rfl, rfl⟩ rfl ?_ | refine wlnu ⟨_, rfl, rfl⟩ rfl ?_ | refine wst rfl rfl rfl List.not_mem_nil rfl rfl rfl rfl rfl rfl ?_ | refine W_condT rfl ?_ | refine W_condF rfl ?_ | refine W_region ?_ | refine wN rfl ?_))
            rw [show true = insN js ls t (k + 1) from hstep.symm]
            refine Exists.intro _ (Exists.intro _ ⟨?_, ⟨k + 1, by omega, rfl, rfl⟩, wkA⟩)
            omega
      · have c1 : abin .lss .i64 (k : Int) (js.length : Int) = some (.bool false) := by simp [abin]; omega
        have hk' : k = js.length := by omega
        subst hk'
        obtain ⟨g1, g2⟩ := stdB_ins hld ht
        have hl := rowsAll_len js ls
        have hok : (rowsAll js ls).all rowB = true := List.all_eq_true.2 fun r hr => smR_ok (rowsAll_sm hld hr)
        have hbr := brk_all t (rowsAll js ls) hok
        have cr := implRowsOf_ok js ls (by omega) (by omega)
        rw [rowsA_go hld] at cr
        have cs := implStandsWith_ok js ls t (by omega) (by omega)
        have cf := implFulfillsAll_ok t (rowsAll js ls) (by omega)
        have cb := countBroken_ok t (rowsAll js ls) ht (by omega)
        have cst := implStands_ok js ls (by omega) (by omega)
        rw [hst] at cst
        rw [show fulAll t (rowsAll js ls) = insN js ls t js.length by rw [fulAll, inR_true.2 (by omega), Bool.true_and, g2]] at cf
        rw [g1] at cs
        rw [g2] at hbr
        have a1 : abin .mul .i64 2 (js.length : Int) = some (.int .i64 (2 * (js.length : Int))) := by simp only [abin]; rw [i64w (by omega)]
        have a2 : abin .add .i64 (2 * (js.length : Int)) 1 = some (.int .i64 (2 * (js.length : Int) + 1)) := by simp only [abin]; rw [i64w (by omega)]
        have a3 : abin .eql .i64 ((rowsAll js ls).length : Int) (2 * (js.length : Int) + 1) = some (.bool true) := by rw [hl]; simp [abin]
        have hI : insN js ls t js.length = true := by rw [← g1]; exact hgo
        rw [hI] at cs cf hbr ⊢
        have a4 : abin .eql .i64 (brkN t (rowsAll js ls) (rowsAll js ls).length) 0 = some (.bool true) := by rw [hbr.2 rfl]; rfl
        (repeat (first | refine WL_nil ?_ | (apply wl0 (hd := rfl); (first | exact QV_bin rfl rfl c1 | exact QV_bin rfl rfl a1 | exact QV_bin rfl rfl a2 | exact QV_bin rfl rfl a3 | exact QV_bin rfl rfl a4 | exact qv9 | exact q_callA (cr) | exact q_callA (cs) | exact q_callA (cf) | exact q_callA (cb) | exact q_callAX hal (cst)); (exact gy0)) | (apply wlb (hd := rfl); exact qbx; (exact gy0); rfl) | refine wln ⟨_, rfl, rfl⟩ rfl ?_ | refine wlnu ⟨_, rfl, rfl⟩ rfl ?_ | refine wst rfl rfl rfl List.not_mem_nil rfl rfl rfl rfl rfl rfl ?_ | refine W_condT rfl ?_ | refine W_condF rfl ?_ | refine W_region ?_ | refine wN rfl ?_))
        refine Exists.intro _ ⟨Weak.refl _, Exists.intro _ ⟨resA_tmp rfl rfl, ?_, rfl⟩⟩
        rfl
end Go.Proofs.YtkieepmkcaipaaaGreat
