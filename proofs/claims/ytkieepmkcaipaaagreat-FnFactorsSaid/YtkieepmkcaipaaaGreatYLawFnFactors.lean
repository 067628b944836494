/- The walk of the law on load factors. -/
import Derived.Test.YtkieepmkcaipaaaGreatYG7
import Derived.Test.YtkieepmkcaipaaaGreatYG8
import Derived.Test.YtkieepmkcaipaaaGreatYG9
namespace Go.Proofs.YtkieepmkcaipaaaGreat
open Go.Eng
set_option maxRecDepth 100000
attribute [local irreducible] QV TV WL HW W CallOk CallOkA Weak

structure Drw (js : List Jt) (ls : List Ld) (ld : Ld) : Prop where
  ha : archB js = true
  h3 : ls.length ≤ 3
  hls : ∀ d ∈ ls, LdOk js d
  hld : LdOk js ld
theorem Drw.join {js : List Jt} {ls : List Ld} {ld : Ld} (h : Drw js ls ld) {n : Int} (h0 : 0 ≤ n) (h1 : n ≤ 7) : joinB ls [ld] n = true ∧ loadsB js (joinL ls [ld] n) = true := by
  have hl := h.hld
  unfold LdOk at hl
  have hw : 0 ≤ n * ld.w ∧ n * ld.w ≤ 1400 := by
    have := Int.mul_nonneg h0 hl.2.1.1
    have := Int.mul_le_mul h1 hl.2.1.2 hl.2.1.1 (show (0 : Int) ≤ 7 by omega)
    omega
  have h3 := h.h3
  refine ⟨?_, ?_⟩
  · simp only [joinB, sclB, List.all_cons, List.all_nil, sclOk, List.length_singleton, Bool.and_true, Bool.and_eq_true, decide_eq_true_eq, inR_true]
    omega
  · refine loadsB_of h.ha (by simp only [joinL, List.length_append, List.length_map, List.length_singleton]; omega) fun d hd => ?_
    rcases List.mem_append.1 hd with hd | hd
    · have := h.hls d hd
      unfold LdOk at this
      omega
    · simp only [List.map_cons, List.map_nil, List.mem_singleton] at hd
      subst hd
      simp only [sclN]
      omega
theorem Drw.loads {js : List Jt} {ls : List Ld} {ld : Ld} (h : Drw js ls ld) : loadsB js ls = true := loadsB_of h.ha (by have := h.h3; omega) fun d hd => by have := h.hls d hd; unfold LdOk at this; omega
theorem conS_zero (k : Nat) (ld : Ld) : conS Ld.w [sclN 0 ld] k = 0 ∧ conS momL [sclN 0 ld] k = 0 := by
  have h1 := conS_w 0 k [ld]
  have h2 := conS_m 0 k [ld]
  simp only [List.map_cons, List.map_nil, Int.zero_mul] at h1 h2
  exact ⟨h1, h2⟩
theorem sat_zero {js : List Jt} {ls : List Ld} {ld : Ld} (h : Drw js ls ld) : satB js ls [ld] 0 = stnB js ls := by
  obtain ⟨j0, b0⟩ := h.join (n := 0) (by omega) (by omega)
  have e1 : addW js (joinL ls [ld] 0) = addW js ls := by
    funext k
    simp only [addW, joinL, conS_app, List.map_cons, List.map_nil, (conS_zero k ld).1, Int.add_zero]
  have e2 : addM js (joinL ls [ld] 0) = addM js ls := by
    funext k
    simp only [addM, joinL, conS_app, List.map_cons, List.map_nil, (conS_zero k ld).2, Int.add_zero]
  have eI : rowI js (joinL ls [ld] 0) = rowI js ls := by
    funext k
    simp only [rowI, lwA, lmA, e1, e2]
  have eO : rowO js (joinL ls [ld] 0) = rowO js ls := by
    funext k
    simp only [rowO, lwA, lmA, e1, e2]
  have eN : ∀ n, rowsN js (joinL ls [ld] 0) n = rowsN js ls n := by
    intro n
    induction n with
    | zero => rfl
    | succ n ih => simp only [rowsN, ih, eI, eO]
  have eR : rowsA js (joinL ls [ld] 0) = rowsA js ls := by
    rw [rowsA_go b0, rowsA_go h.loads, rowsAll, rowsAll, eN]
  rw [satB, j0, Bool.true_and, stnB, stnB, thrL, thrL, eR]
theorem sat_side {js : List Jt} {ls ms : List Ld} {n lo hi : Nat} (h5 : satB js ls ms lo = true) (h6 : satB js ls ms hi = true) (h7 : ∀ j : Nat, j < n → satB js ls ms j = true → lo ≤ j ∧ j ≤ hi) {k : Nat} (hk : k < n) : satB js ls ms k = (decide (lo ≤ k) && decide (k ≤ hi)) := by
  by_cases h : lo ≤ k ∧ k ≤ hi
  · rw [sat_mid (n1 := lo) (n2 := k) (n3 := hi) (by omega) (by omega) h5 h6, decide_eq_true h.1, decide_eq_true h.2]; rfl
  · cases e : satB js ls ms k
    · by_cases h1 : lo ≤ k
      · rw [decide_eq_true h1, decide_eq_false (show ¬ k ≤ hi by omega)]; rfl
      · rw [decide_eq_false h1]; rfl
    · exact absurd (h7 k hk e) h
theorem none_sat {js : List Jt} {ls ms : List Ld} {n : Nat} (h0 : (stdL js ls ms n).length = 0) {j : Nat} (hj : j < n) : satB js ls ms j = false := by
  have key : ∀ m, j < m → satB js ls ms j = true → 0 < (stdL js ls ms m).length := by
    intro m hm hs
    induction m with
    | zero => omega
    | succ m ih =>
      by_cases e : j = m
      · subst e; simp [stdL, hs]
      · have := ih (by omega)
        simp only [stdL]
        cases satB js ls ms m <;> simp <;> omega
  cases e : satB js ls ms j
  · rfl
  · have := key n hj e; omega
theorem rem4 (x : Int) (h : 0 ≤ x) : ∃ r : Nat, adv .rem .i64 x 4 = some (.int .i64 r) ∧ r ≤ 3 := by
  refine ⟨(x.tmod 4).toNat, ?_, ?_⟩
  · have h1 : x.tmod 4 = x % 4 := Int.tmod_eq_emod_of_nonneg h
    have h2 : ((x.tmod 4).toNat : Int) = x.tmod 4 := Int.toNat_of_nonneg (by omega)
    simp only [adv]
    rw [h2]
  · have h1 : x.tmod 4 = x % 4 := Int.tmod_eq_emod_of_nonneg h
    omega
set_option maxHeartbeats 4000000 in
theorem law_FnFactors (c : List Int) (bc : ∀ x ∈ c, isU8 x) (_lc : c.length ≤ 9223372036854775807) : CallOkA Tryz.prog 4 [slU c] (fun r => r = vb true) := by
  have hbig := lbig_ok c
  refine callOkX Tryz.func4 Tryz.ntmps4 Tryz.results4 rfl rfl rfl fun B w0 M I0 V0 hal => ?_
  by_cases hb : (1048576 : Int) < c.length
  · rw [decide_eq_true hb] at hbig
    (repeat (first | refine WL_nil ?_ | (apply wl0 (hd := rfl); (first | exact qv9 | exact q_callA (hbig)); (exact gy0)) | (apply wlb (hd := rfl); exact qbx; (exact gy0); rfl) | refine wln ⟨_, rfl, rfl⟩ rfl ?_ | refine wlnu ⟨_, rfl, rfl⟩ rfl ?_ | refine wst rfl rfl rfl List.not_mem_nil rfl rfl rfl rfl rfl rfl ?_ | refine W_condT rfl ?_ | refine W_condF rfl ?_ | refine W_region ?_ | refine wN rfl ?_))
    refine Exists.intro _ ⟨Weak.refl _, Exists.intro _ ⟨resA_tmp rfl rfl, ?_, rfl⟩⟩
    rfl
  · rw [decide_eq_false hb] at hbig
    have hl : Bts c := ⟨bc, by omega⟩
    have hat := lat_ok c hl
    obtain ⟨r, hr, hr3⟩ := rem4 (atL c) (atL_255 hl).1
    (repeat (first | refine WL_nil ?_ | (apply wl0 (hd := rfl); (first | exact qv9 | exact q_callA (hbig)); (exact gy0)) | (apply wlb (hd := rfl); exact qbx; (exact gy0); rfl) | refine wln ⟨_, rfl, rfl⟩ rfl ?_ | refine wlnu ⟨_, rfl, rfl⟩ rfl ?_ | refine wst rfl rfl rfl List.not_mem_nil rfl rfl rfl rfl rfl rfl ?_ | refine W_condT rfl ?_ | refine W_condF rfl ?_ | refine W_region ?_ | refine wN rfl ?_))
    refine wlc (drawMore_ok c hl) rfl (by (repeat' (first | exact LeDs.nil | refine LeDs.cons (by first | exact LeD.v | exact LeD.sl | exact LeD.own | exact LeD.nil | exact LeD.top) ?_ | refine LeDs.agg ?_ ?_)); first | done | fail "open") (fun r ⟨_, _, _, _, _, _, _, hr⟩ => by subst hr; rfl) rfl (fun r hR => ?_)
    obtain ⟨js, ls, ld, ha, h3, hls, hld, rfl⟩ := hR
    have hD : Drw js ls ld := ⟨ha, h3, hls, hld⟩
    have h8 := arch_len ha
    obtain ⟨N, eN⟩ : ∃ N : Nat, N = 4 + r := ⟨_, rfl⟩
    have eF : facN (N : Int) = N + 1 := by rw [facN, inR_true.2 (show (0 : Int) ≤ (N : Int) ∧ (N : Int) ≤ 60 by omega)]; simp
    have a1 : abin .add .i64 4 (r : Int) = some (.int .i64 (N : Int)) := by simp only [abin]; rw [i64w (by omega)]; congr; omega
    have cl := implLeastFactor_ok js ls [ld] N (by omega) (by omega) (by simp)
    have cg := implGreatestFactor_ok js ls [ld] N (by omega) (by omega) (by simp)
    have cw := implFactorWidth_ok js ls [ld] N (by omega) (by omega) (by simp)
    rw [eF] at cl cg cw
    obtain ⟨jj, bj⟩ := hD.join (n := 2) (by omega) (by omega)
    have cj := callOk_dat (implJoinLoads_yes ls [ld] 2 jj) rfl
    have hjl : (joinL ls [ld] 2).length = ls.length + 1 := by simp [joinL]
    have a2 : abin .add .i64 (ls.length : Int) (([ld] : List Ld).length : Int) = some (.int .i64 ((ls.length + 1 : Nat) : Int)) := by simp only [abin, List.length_singleton]; rw [i64w (by omega)]; rfl
    have a3 : abin .eql .i64 ((joinL ls [ld] 2).length : Int) ((ls.length + 1 : Nat) : Int) = some (.bool true) := by rw [hjl]; simp [abin]
    have cs := stands_ok js ls (by omega) (by omega)
    have hz := sat_zero hD
    rcases std_side js ls [ld] (N + 1) with ⟨s1, s2, s3⟩ | ⟨lo, hi, s1, s2, s3, s4, s5, s6, s7, s8⟩
    · rw [s2] at cl
      rw [s3] at cg
      rw [s1] at cw
      have hz0 : stnB js ls = false := by rw [← hz]; exact none_sat s1 (j := 0) (by omega)
      rw [hz0] at cs
      (repeat (first | refine WL_nil ?_ | (apply wl0 (hd := rfl); (first | exact QV_bin rfl rfl a1 | exact qv9 | exact q_callA (hat) | exact QV_div rfl rfl (by decide) hr | exact q_callAX hal (cl) | exact q_callAX hal (cg) | exact q_callAX hal (cw)); (exact gy0)) | (apply wlb (hd := rfl); exact qbx; (exact gy0); rfl) | refine wln ⟨_, rfl, rfl⟩ rfl ?_ | refine wlnu ⟨_, rfl, rfl⟩ rfl ?_ | refine wst rfl rfl rfl List.not_mem_nil rfl rfl rfl rfl rfl rfl ?_ | refine W_condT rfl ?_ | refine W_condF rfl ?_ | refine W_region ?_ | refine wN rfl ?_))
      refine W_loop (fun n s => ∃ k : Nat, k ≤ N + 1 ∧ n = N + 1 - k ∧ s = ⟨[(3, .ptr 3 0), (4, slLd ls), (5, slLd [ld]), (6, vi N), (7, vi (-1)), (8, vi (-1)), (9, vi 0), (10, vi k)], [(3, [slJt js])], []⟩) ⟨_, _, ⟨0, by omega, rfl, rfl⟩, wkA⟩ ?_
      rintro n s ⟨k, hk, rfl, rfl⟩
      by_cases hlt : k < N + 1
      · have c1 : abin .leq .i64 (k : Int) (N : Int) = some (.bool true) := by simp [abin]; omega
        have ck := implStandsAt_ok js ls [ld] k (by omega) (by omega) (by simp)
        rw [none_sat s1 hlt] at ck
        (repeat (first | refine WL_nil ?_ | (apply wl0 (hd := rfl); (first | exact QV_bin rfl rfl c1 | exact q_neB Tryz.underlying4 rfl rfl rfl | exact qv9 | exact q_callAX hal (ck)); (exact gy0)) | (apply wlb (hd := rfl); exact qbx; (exact gy0); rfl) | refine wln ⟨_, rfl, rfl⟩ rfl ?_ | refine wlnu ⟨_, rfl, rfl⟩ rfl ?_ | refine wst rfl rfl rfl List.not_mem_nil rfl rfl rfl rfl rfl rfl ?_ | refine W_condT rfl ?_ | refine W_condF rfl ?_ | refine W_region ?_ | refine wN rfl ?_))
        refine Exists.intro _ (Exists.intro _ ⟨?_, ⟨k + 1, by omega, rfl, rfl⟩, wkA⟩)
        omega
      · have c1 : abin .leq .i64 (k : Int) (N : Int) = some (.bool false) := by simp [abin]; omega
        (repeat (first | refine WL_nil ?_ | (apply wl0 (hd := rfl); (first | exact QV_bin rfl rfl c1 | exact QV_bin rfl rfl a2 | exact QV_bin rfl rfl a3 | exact qv9 | exact q_callA (cj) | exact q_callA (cs)); (exact gy0)) | (apply wlb (hd := rfl); exact qbx; (exact gy0); rfl) | refine wln ⟨_, rfl, rfl⟩ rfl ?_ | refine wlnu ⟨_, rfl, rfl⟩ rfl ?_ | refine wst rfl rfl rfl List.not_mem_nil rfl rfl rfl rfl rfl rfl ?_ | refine W_condT rfl ?_ | refine W_condF rfl ?_ | refine W_region ?_ | refine wN rfl ?_))
        refine Exists.intro _ ⟨Weak.refl _, Exists.intro _ ⟨resA_tmp rfl rfl, ?_, rfl⟩⟩
        rfl
    · have eg : max (highR js ls [ld] (N + 1)) (-1) = (hi : Int) := by rw [s2]; omega
      have ew : ((stdL js ls [ld] (N + 1)).length : Int) = (hi : Int) - lo + 1 := by rw [s8]; omega
      rw [s1] at cl
      rw [eg] at cg
      rw [ew] at cw
      have hz0 : stnB js ls = decide (lo = 0) := by
        rw [← hz]
        have := sat_side (k := 0) s5 s6 s7 (by omega)
        rw [show ((0 : Nat) : Int) = 0 from rfl] at this
        rw [this]
        by_cases e : lo = 0
        · rw [decide_eq_true (show lo ≤ 0 by omega), decide_eq_true (show 0 ≤ hi by omega), decide_eq_true e]; rfl
        · rw [decide_eq_false (show ¬ lo ≤ 0 by omega), decide_eq_false e]; rfl
      rw [hz0] at cs
      have b1 : abin .geq .i64 (lo : Int) 0 = some (.bool true) := by simp [abin]
      have b2 : abin .leq .i64 (lo : Int) (hi : Int) = some (.bool true) := by simp [abin]; omega
      have b3 : abin .lss .i64 (lo : Int) 0 = some (.bool false) := by simp [abin]
      have b4 : abin .lss .i64 (hi : Int) 0 = some (.bool false) := by simp [abin]
      have b5 : abin .sub .i64 (hi : Int) (lo : Int) = some (.int .i64 ((hi : Int) - lo)) := by simp only [abin]; rw [i64w (by omega)]
      have b6 : abin .add .i64 ((hi : Int) - lo) 1 = some (.int .i64 ((hi : Int) - lo + 1)) := by simp only [abin]; rw [i64w (by omega)]
      have b7 : abin .eql .i64 ((hi : Int) - lo + 1) ((hi : Int) - lo + 1) = some (.bool true) := by simp [abin]
      have b8 : abin .eql .i64 (lo : Int) 0 = some (.bool (decide (lo = 0))) := by by_cases e : lo = 0 <;> simp [abin, e]
      (repeat (first | refine WL_nil ?_ | (apply wl0 (hd := rfl); (first | exact QV_bin rfl rfl a1 | exact qv9 | exact q_callA (hat) | exact QV_div rfl rfl (by decide) hr | exact q_callAX hal (cl) | exact q_callAX hal (cg) | exact q_callAX hal (cw)); (exact gy0)) | (apply wlb (hd := rfl); exact qbx; (exact gy0); rfl) | refine wln ⟨_, rfl, rfl⟩ rfl ?_ | refine wlnu ⟨_, rfl, rfl⟩ rfl ?_ | refine wst rfl rfl rfl List.not_mem_nil rfl rfl rfl rfl rfl rfl ?_ | refine W_condT rfl ?_ | refine W_condF rfl ?_ | refine W_region ?_ | refine wN rfl ?_))
      refine W_loop (fun n s => ∃ k : Nat, k ≤ N + 1 ∧ n = N + 1 - k ∧ s = ⟨[(3, .ptr 3 0), (4, slLd ls), (5, slLd [ld]), (6, vi N), (7, vi lo), (8, vi hi), (9, vi ((hi : Int) - lo + 1)), (10, vi k)], [(3, [slJt js])], []⟩) ⟨_, _, ⟨0, by omega, rfl, rfl⟩, wkA⟩ ?_
      rintro n s ⟨k, hk, rfl, rfl⟩
      by_cases hlt : k < N + 1
      · have c1 : abin .leq .i64 (k : Int) (N : Int) = some (.bool true) := by simp [abin]; omega
        have ck := implStandsAt_ok js ls [ld] k (by omega) (by omega) (by simp)
        rw [sat_side s5 s6 s7 hlt] at ck
        by_cases k1 : lo ≤ k
        · have c2 : abin .geq .i64 (k : Int) (lo : Int) = some (.bool true) := by simp [abin]; omega
          by_cases k2 : k ≤ hi
          · have c3 : abin .leq .i64 (k : Int) (hi : Int) = some (.bool true) := by simp [abin]; omega
            rw [decide_eq_true k1, decide_eq_true k2] at ck
            (repeat (first | refine WL_nil ?_ | (apply wl0 (hd := rfl); (first | exact QV_bin rfl rfl c1 | exact QV_bin rfl rfl c2 | exact QV_bin rfl rfl c3 | exact QV_bin rfl rfl b1 | exact q_neB Tryz.underlying4 rfl rfl rfl | exact qv9 | exact q_callAX hal (ck)); (exact gy0)) | (apply wlb (hd := rfl); exact qbx; (exact gy0); rfl) | refine wln ⟨_, rfl, rfl⟩ rfl ?_ | refine wlnu ⟨_, rfl, rfl⟩ rfl ?_ | refine wst rfl rfl rfl List.not_mem_nil rfl rfl rfl rfl rfl rfl ?_ | refine W_condT rfl ?_ | refine W_condF rfl ?_ | refine W_region ?_ | refine wN rfl ?_))
            refine Exists.intro _ (Exists.intro _ ⟨?_, ⟨k + 1, by omega, rfl, rfl⟩, wkA⟩)
            omega
          · have c3 : abin .leq .i64 (k : Int) (hi : Int) = some (.bool false) := by simp [abin]; omega
            rw [decide_eq_true k1, decide_eq_false k2] at ck
            (repeat (first | refine WL_nil ?_ | (apply wl0 (hd := rfl); (first | exact QV_bin rfl rfl c1 | exact QV_bin rfl rfl c2 | exact QV_bin rfl rfl c3 | exact QV_bin rfl rfl b1 | exact q_neB Tryz.underlying4 rfl rfl rfl | exact qv9 | exact q_callAX hal (ck)); (exact gy0)) | (apply wlb (hd := rfl); exact qbx; (exact gy0); rfl) | refine wln ⟨_, rfl, rfl⟩ rfl ?_ | refine wlnu ⟨_, rfl, rfl⟩ rfl ?_ | refine wst rfl rfl rfl List.not_mem_nil rfl rfl rfl rfl rfl rfl ?_ | refine W_condT rfl ?_ | refine W_condF rfl ?_ | refine W_region ?_ | refine wN rfl ?_))
            refine Exists.intro _ (Exists.intro _ ⟨?_, ⟨k + 1, by omega, rfl, rfl⟩, wkA⟩)
            omega
        · have c2 : abin .geq .i64 (k : Int) (lo : Int) = some (.bool false) := by simp [abin]; omega
          rw [decide_eq_false k1] at ck
          (repeat (first | refine WL_nil ?_ | (apply wl0 (hd := rfl); (first | exact QV_bin rfl rfl c1 | exact QV_bin rfl rfl c2 | exact QV_bin rfl rfl b1 | exact q_neB Tryz.underlying4 rfl rfl rfl | exact qv9 | exact q_callAX hal (ck)); (exact gy0)) | (apply wlb (hd := rfl); exact qbx; (exact gy0); rfl) | refine wln ⟨_, rfl, rfl⟩ rfl ?_ | refine wlnu ⟨_, rfl, rfl⟩ rfl ?_ | refine wst rfl rfl rfl List.not_mem_nil rfl rfl rfl rfl rfl rfl ?_ | refine W_condT rfl ?_ | refine W_condF rfl ?_ | refine W_region ?_ | refine wN rfl ?_))
          refine Exists.intro _ (Exists.intro _ ⟨?_, ⟨k + 1, by omega, rfl, rfl⟩, wkA⟩)
          omega
      · have c1 : abin .leq .i64 (k : Int) (N : Int) = some (.bool false) := by simp [abin]; omega
        cases e0 : decide (lo = 0)
        · rw [e0] at cs b8
          (repeat (first | refine WL_nil ?_ | (apply wl0 (hd := rfl); (first | exact QV_bin rfl rfl c1 | exact QV_bin rfl rfl b1 | exact QV_bin rfl rfl b2 | exact QV_bin rfl rfl b3 | exact QV_bin rfl rfl b4 | exact QV_bin rfl rfl b5 | exact QV_bin rfl rfl b6 | exact QV_bin rfl rfl b7 | exact QV_bin rfl rfl b8 | exact QV_bin rfl rfl a2 | exact QV_bin rfl rfl a3 | exact qv9 | exact q_callA (cj) | exact q_callA (cs)); (exact gy0)) | (apply wlb (hd := rfl); exact qbx; (exact gy0); rfl) | refine wln ⟨_, rfl, rfl⟩ rfl ?_ | refine wlnu ⟨_, rfl, rfl⟩ rfl ?_ | refine wst rfl rfl rfl List.not_mem_nil rfl rfl rfl rfl rfl rfl ?_ | refine W_condT rfl ?_ | refine W_condF rfl ?_ | refine W_region ?_ | refine wN rfl ?_))
          refine Exists.intro _ ⟨Weak.refl _, Exists.intro _ ⟨resA_tmp rfl rfl, ?_, rfl⟩⟩
          rfl
        · rw [e0] at cs b8
          (repeat (first | refine WL_nil ?_ | (apply wl0 (hd := rfl); (first | exact QV_bin rfl rfl c1 | exact QV_bin rfl rfl b1 | exact QV_bin rfl rfl b2 | exact QV_bin rfl rfl b3 | exact QV_bin rfl rfl b4 | exact QV_bin rfl rfl b5 | exact QV_bin rfl rfl b6 | exact QV_bin rfl rfl b7 | exact QV_bin rfl rfl b8 | exact QV_bin rfl rfl a2 | exact QV_bin rfl rfl a3 | exact qv9 | exact q_callA (cj) | exact q_callA (cs)); (exact gy0)) | (apply wlb (hd := rfl); exact qbx; (exact gy0); rfl) | refine wln ⟨_, rfl, rfl⟩ rfl ?_ | refine wlnu ⟨_, rfl, rfl⟩ rfl ?_ | refine wst rfl rfl rfl List.not_mem_nil rfl rfl rfl rfl rfl rfl ?_ | refine W_condT rfl ?_ | refine W_condF rfl ?_ | refine W_region ?_ | refine wN rfl ?_))
          refine Exists.intro _ ⟨Weak.refl _, Exists.intro _ ⟨resA_tmp rfl rfl, ?_, rfl⟩⟩
          rfl
end Go.Proofs.YtkieepmkcaipaaaGreat
