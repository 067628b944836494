/- Sums of hinges: MeetingOf, CommonPoint, both ways. -/
import Derived.Test.YtkaffcdjhbaifaaGreatYG7
namespace Go.Proofs.YtkaffcdjhbaifaaGreat
open Go.Eng
set_option maxRecDepth 100000
attribute [local irreducible] QV TV WL HW W CallOk Weak

theorem hasSide_ok (l : List Hg) (b : Bool) (hn : l.length ≤ 1048576) : CallOk Tryz.prog 26 [slHg l, vb b] (fun r => r = vb (l.any fun h => h.o == b)) := by
  refine callOk Tryz.func26 Tryz.ntmps26 Tryz.results26 rfl rfl rfl fun B w0 I0 => ?_
  (repeat (first | refine WL_nil ?_ | (apply wl0 (hd := rfl); (first | exact qv9); (exact gy0)) | (apply wlb (hd := rfl); exact qbx; (exact gy0); rfl) | refine wln ⟨_, rfl, rfl⟩ rfl ?_ | refine wlnu ⟨_, rfl, rfl⟩ rfl ?_ | refine wst rfl rfl rfl List.not_mem_nil rfl rfl rfl rfl rfl rfl ?_ | refine W_condT rfl ?_ | refine W_condF rfl ?_ | refine W_region ?_ | refine wN rfl ?_))
  refine W_loop (fun n s => ∃ k : Nat, k ≤ l.length ∧ n = l.length - k ∧ ((l.take k).any fun h => h.o == b) = false ∧ s = ⟨[(1, vb b), (7, slHg l), (8, vi l.length), (9, vi k)], [], []⟩) ⟨_, _, ⟨0, by omega, rfl, rfl, rfl⟩, wkA⟩ ?_
  rintro n s ⟨k, hk, rfl, hall, rfl⟩
  by_cases hlt : k < l.length
  · have hp := gat_lt hlt
    (repeat (first | refine WL_nil ?_ | (apply wl0 (hd := rfl); (first | exact qv9); (exact gy0)) | (apply wlb (hd := rfl); exact qbx; (exact gy0); rfl) | refine wln ⟨_, rfl, rfl⟩ rfl ?_ | refine wlnu ⟨_, rfl, rfl⟩ rfl ?_ | refine wst rfl rfl rfl List.not_mem_nil rfl rfl rfl rfl rfl rfl ?_ | refine W_condT rfl ?_ | refine W_condF rfl ?_ | refine W_region ?_ | refine wN rfl ?_))
    (refine W_cond rfl (fun hc => ?_) (fun hc => ?_))
    · (repeat (first | refine WL_nil ?_ | (apply wl0 (hd := rfl); (first | exact qv9 | exact QV_indexAddr rfl rfl rfl rfl (row_at hp)); (exact gy0)) | (apply wlb (hd := rfl); exact qbx; (exact gy0); rfl) | refine wln ⟨_, rfl, rfl⟩ rfl ?_ | refine wlnu ⟨_, rfl, rfl⟩ rfl ?_ | refine wst rfl rfl rfl List.not_mem_nil rfl rfl rfl rfl rfl rfl ?_ | refine W_condT rfl ?_ | refine W_condF rfl ?_ | refine W_region ?_ | refine wN rfl ?_))
      (refine W_cond rfl (fun hc => ?_) (fun hc => ?_))
      · (repeat (first | refine WL_nil ?_ | (apply wl0 (hd := rfl); (first | exact qv9); (exact gy0)) | (apply wlb (hd := rfl); exact qbx; (exact gy0); rfl) | refine wln ⟨_, rfl, rfl⟩ rfl ?_ | refine wlnu ⟨_, rfl, rfl⟩ rfl ?_ | refine wst rfl rfl rfl List.not_mem_nil rfl rfl rfl rfl rfl rfl ?_ | refine W_condT rfl ?_ | refine W_condF rfl ?_ | refine W_region ?_ | refine wN rfl ?_))
        refine Exists.intro _ ⟨Weak.refl _, Exists.intro _ ⟨resA_tmp rfl rfl, ?_, rfl⟩⟩
        exact vb_eq (List.any_eq_true.2 ⟨_, List.mem_of_getElem? hp, hc⟩).symm
      · (repeat (first | refine WL_nil ?_ | (apply wl0 (hd := rfl); (first | exact qv9); (exact gy0)) | (apply wlb (hd := rfl); exact qbx; (exact gy0); rfl) | refine wln ⟨_, rfl, rfl⟩ rfl ?_ | refine wlnu ⟨_, rfl, rfl⟩ rfl ?_ | refine wst rfl rfl rfl List.not_mem_nil rfl rfl rfl rfl rfl rfl ?_ | refine W_condT rfl ?_ | refine W_condF rfl ?_ | refine W_region ?_ | refine wN rfl ?_))
        refine Exists.intro _ (Exists.intro _ ⟨?_, ⟨k + 1, by omega, rfl, by rw [List.take_add_one, hp, List.any_append, hall]; simp only [Option.toList, List.any_cons, hc, List.any_nil]; rfl, rfl⟩, wkA⟩)
        omega
    · simp at hc; omega
  · (repeat (first | refine WL_nil ?_ | (apply wl0 (hd := rfl); (first | exact qv9); (exact gy0)) | (apply wlb (hd := rfl); exact qbx; (exact gy0); rfl) | refine wln ⟨_, rfl, rfl⟩ rfl ?_ | refine wlnu ⟨_, rfl, rfl⟩ rfl ?_ | refine wst rfl rfl rfl List.not_mem_nil rfl rfl rfl rfl rfl rfl ?_ | refine W_condT rfl ?_ | refine W_condF rfl ?_ | refine W_region ?_ | refine wN rfl ?_))
    (refine W_cond rfl (fun hc => ?_) (fun hc => ?_))
    · simp at hc; omega
    · have hk' : k = l.length := by omega
      subst hk'
      rw [List.take_length] at hall
      (repeat (first | refine WL_nil ?_ | (apply wl0 (hd := rfl); (first | exact qv9); (exact gy0)) | (apply wlb (hd := rfl); exact qbx; (exact gy0); rfl) | refine wln ⟨_, rfl, rfl⟩ rfl ?_ | refine wlnu ⟨_, rfl, rfl⟩ rfl ?_ | refine wst rfl rfl rfl List.not_mem_nil rfl rfl rfl rfl rfl rfl ?_ | refine W_condT rfl ?_ | refine W_condF rfl ?_ | refine W_region ?_ | refine wN rfl ?_))
      refine Exists.intro _ ⟨Weak.refl _, Exists.intro _ ⟨resA_tmp rfl rfl, ?_, rfl⟩⟩
      exact vb_eq hall.symm
def someB (js : List Jt) (rows facs : List Int) (o : Bool) : Bool := ((hgA js rows).any fun h => h.o == o) && decide (facs.length = rows.length)
def sideB (n r : Int) (o : Bool) : Bool := (r != n) && ((r.tmod 2 == 1) == o)
def ptO (js : List Jt) (r : Int) (o : Bool) : Pt := bif o then (jat js (r.tdiv 2).toNat).o else (jat js (r.tdiv 2).toNat).i
def sumS (js : List Jt) (rows facs : List Int) (o : Bool) (F : Pt → Int) : Nat → Int
  | 0 => 0
  | k + 1 => bif sideB (2 * js.length) (iat rows k) o then W64 (sumS js rows facs o F k + W64 (iat facs k * F (ptO js (iat rows k) o))) else sumS js rows facs o F k
def sumN (js : List Jt) (rows facs : List Int) (o : Bool) : Nat → Int
  | 0 => 0
  | k + 1 => bif sideB (2 * js.length) (iat rows k) o then W64 (sumN js rows facs o k + iat facs k) else sumN js rows facs o k
def sumE (js : List Jt) (rows facs : List Int) : Nat → Int
  | 0 => 0
  | k + 1 => bif iat rows k == 2 * js.length then W64 (sumE js rows facs k + iat facs k) else sumE js rows facs k
theorem half_at {js : List Jt} {r : Int} (h0 : 0 ≤ r) (h1 : r < 2 * js.length) (hj : js.length ≤ 1048576) : W64 (r.tdiv 2) = ((r.tdiv 2).toNat : Int) ∧ (r.tdiv 2).toNat < js.length := by
  have e : r.tdiv 2 = r / 2 := Int.tdiv_eq_ediv_of_nonneg h0
  rw [e, w64 (by omega)]
  omega
theorem hgs_at {js : List Jt} {rows : List Int} (h : hgsB js rows = true) {k : Nat} (hk : k < rows.length) : 0 ≤ iat rows k ∧ iat rows k ≤ 2 * js.length := by
  simp only [hgsB, Bool.and_eq_true, List.all_eq_true] at h
  exact inR_true.1 (h.2 _ (List.mem_of_getElem? (iat_lt hk)))
theorem hingeAt_ok (js : List Jt) (r : Int) (h0 : 0 ≤ r) (h1 : r < 2 * js.length) (hj : js.length ≤ 1048576) : CallOk Tryz.prog 45 [(hgOf r).av, .agg [slJt js]] (fun x => x = (ptO js r (r.tmod 2 == 1)).av) := by
  obtain ⟨hh1, hh2⟩ := half_at (js := js) h0 h1 hj
  have hjt := jat_lt hh2
  refine callOk Tryz.func45 Tryz.ntmps45 Tryz.results45 rfl rfl rfl fun B w0 I0 => ?_
  cases e : (r.tmod 2 == 1)
  · simp only [hgOf, e]
    (repeat (first | refine WL_nil ?_ | (apply wl0 (hd := rfl); (first | exact qv9 | exact QV_indexAddr rfl rfl rfl hh1 (row_at hjt)); (exact gy0)) | (apply wlb (hd := rfl); exact qbx; (exact gy0); rfl) | refine wln ⟨_, rfl, rfl⟩ rfl ?_ | refine wlnu ⟨_, rfl, rfl⟩ rfl ?_ | refine wst rfl rfl rfl List.not_mem_nil rfl rfl rfl rfl rfl rfl ?_ | refine W_condT rfl ?_ | refine W_condF rfl ?_ | refine W_region ?_ | refine wN rfl ?_))
    refine Exists.intro _ ⟨Weak.refl _, Exists.intro _ ⟨resA_cell rfl rfl rfl rfl, ?_, rfl⟩⟩
    rfl
  · simp only [hgOf, e]
    (repeat (first | refine WL_nil ?_ | (apply wl0 (hd := rfl); (first | exact qv9 | exact QV_indexAddr rfl rfl rfl hh1 (row_at hjt)); (exact gy0)) | (apply wlb (hd := rfl); exact qbx; (exact gy0); rfl) | refine wln ⟨_, rfl, rfl⟩ rfl ?_ | refine wlnu ⟨_, rfl, rfl⟩ rfl ?_ | refine wst rfl rfl rfl List.not_mem_nil rfl rfl rfl rfl rfl rfl ?_ | refine W_condT rfl ?_ | refine W_condF rfl ?_ | refine W_region ?_ | refine wN rfl ?_))
    refine Exists.intro _ ⟨Weak.refl _, Exists.intro _ ⟨resA_cell rfl rfl rfl rfl, ?_, rfl⟩⟩
    rfl
theorem meetingsOf_ok (js : List Jt) (rows facs : List Int) (hj : js.length ≤ 1048576) (hn : rows.length ≤ 1048576) (h : hgsB js rows = true) (hf : facs.length = rows.length) : CallOk Tryz.prog 27 [.agg [slJt js], .agg [slI rows, slI facs]] (fun r => r = .tup [.agg [vi (sumS js rows facs false Pt.x rows.length), vi (sumS js rows facs false Pt.y rows.length), vi (sumN js rows facs false rows.length)], .agg [vi (sumS js rows facs true Pt.x rows.length), vi (sumS js rows facs true Pt.y rows.length), vi (sumN js rows facs true rows.length)], vi (sumE js rows facs rows.length)]) := by
  refine callOk Tryz.func27 Tryz.ntmps27 Tryz.results27 rfl rfl rfl fun B w0 I0 => ?_
  (repeat (first | refine WL_nil ?_ | (apply wl0 (hd := rfl); (first | exact qv9); (exact gy0)) | (apply wlb (hd := rfl); exact qbx; (exact gy0); rfl) | refine wln ⟨_, rfl, rfl⟩ rfl ?_ | refine wlnu ⟨_, rfl, rfl⟩ rfl ?_ | refine wst rfl rfl rfl List.not_mem_nil rfl rfl rfl rfl rfl rfl ?_ | refine W_condT rfl ?_ | refine W_condF rfl ?_ | refine W_region ?_ | refine wN rfl ?_))
  refine W_loop (fun n s => ∃ k : Nat, k ≤ rows.length ∧ n = rows.length - k ∧ s = ⟨[(2, .ptr 2 0), (3, .ptr 3 0), (4, .ptr 4 0), (5, .ptr 5 0), (6, vi (sumE js rows facs k)), (14, slI rows), (15, vi rows.length), (16, vi k)], [(5, [vi (sumS js rows facs true Pt.x k), vi (sumS js rows facs true Pt.y k), vi (sumN js rows facs true k)]), (4, [vi (sumS js rows facs false Pt.x k), vi (sumS js rows facs false Pt.y k), vi (sumN js rows facs false k)]), (3, [slI rows, slI facs]), (2, [slJt js])], []⟩) ⟨_, _, ⟨0, by omega, rfl, rfl⟩, wkA⟩ ?_
  rintro n s ⟨k, hk, rfl, rfl⟩
  by_cases hlt : k < rows.length
  · have hp := iat_lt hlt
    have hq := iat_lt (l := facs) (i := k) (by omega)
    have hb := hgs_at h hlt
    by_cases e0 : iat rows k = 2 * js.length
    · have c0 : abin .eql .i64 (iat rows k) (2 * js.length) = some (.bool true) := by simp [abin, e0]
      have hs : ∀ o, sideB (2 * js.length) (iat rows k) o = false := fun o => by simp [sideB, e0]
      have e1 : ∀ o F, sumS js rows facs o F k = sumS js rows facs o F (k + 1) := fun o F => by simp only [sumS, hs, cond_false]
      have e3 : ∀ o, sumN js rows facs o k = sumN js rows facs o (k + 1) := fun o => by simp only [sumN, hs, cond_false]
      have e4 : IntKind.i64.wrap (sumE js rows facs k + iat facs k) = sumE js rows facs (k + 1) := by simp only [sumE, e0, beq_self_eq_true, cond_true]
      (repeat (first | refine WL_nil ?_ | (apply wl0 (hd := rfl); (first | exact qv9); (exact gy0)) | (apply wlb (hd := rfl); exact qbx; (exact gy0); rfl) | refine wln ⟨_, rfl, rfl⟩ rfl ?_ | refine wlnu ⟨_, rfl, rfl⟩ rfl ?_ | refine wst rfl rfl rfl List.not_mem_nil rfl rfl rfl rfl rfl rfl ?_ | refine W_condT rfl ?_ | refine W_condF rfl ?_ | refine W_region ?_ | refine wN rfl ?_))
      (refine W_cond rfl (fun hc => ?_) (fun hc => ?_))
      · (repeat (first | refine WL_nil ?_ | (apply wl0 (hd := rfl); (first | exact QV_bin rfl rfl c0 | exact qv9 | exact QV_indexAddr rfl rfl rfl rfl (row_at hp) | exact QV_indexAddr rfl rfl rfl rfl (row_at hq)); (exact gy0)) | (apply wlb (hd := rfl); exact qbx; (exact gy0); rfl) | refine wln ⟨_, rfl, rfl⟩ rfl ?_ | refine wlnu ⟨_, rfl, rfl⟩ rfl ?_ | refine wst rfl rfl rfl List.not_mem_nil rfl rfl rfl rfl rfl rfl ?_ | refine W_condT rfl ?_ | refine W_condF rfl ?_ | refine W_region ?_ | refine wN rfl ?_))
        rw [e4, e1 true Pt.x, e1 true Pt.y, e1 false Pt.x, e1 false Pt.y, e3 true, e3 false]
        refine Exists.intro _ (Exists.intro _ ⟨?_, ⟨k + 1, by omega, rfl, rfl⟩, wkA⟩)
        omega
      · simp at hc; omega
    · have c0 : abin .eql .i64 (iat rows k) (2 * js.length) = some (.bool false) := by simp [abin, e0]
      have hat := hingeAt_ok js (iat rows k) hb.1 (by omega) hj
      have e4 : sumE js rows facs k = sumE js rows facs (k + 1) := by simp only [sumE, show (iat rows k == 2 * (js.length : Int)) = false by simp [e0], cond_false]
      cases e9 : ((iat rows k).tmod 2 == 1)
      · have hs : sideB (2 * js.length) (iat rows k) false = true := by simp [sideB, e0, e9]
        have hs' : sideB (2 * js.length) (iat rows k) true = false := by simp [sideB, e9]
        have e1 : IntKind.i64.wrap (sumS js rows facs false Pt.x k + W64 (iat facs k * (ptO js (iat rows k) false).x)) = sumS js rows facs false Pt.x (k + 1) := by simp only [sumS, hs, cond_true]
        have e2 : IntKind.i64.wrap (sumS js rows facs false Pt.y k + W64 (iat facs k * (ptO js (iat rows k) false).y)) = sumS js rows facs false Pt.y (k + 1) := by simp only [sumS, hs, cond_true]
        have e3 : IntKind.i64.wrap (sumN js rows facs false k + iat facs k) = sumN js rows facs false (k + 1) := by simp only [sumN, hs, cond_true]
        have e5 : ∀ F, sumS js rows facs true F k = sumS js rows facs true F (k + 1) := fun F => by simp only [sumS, hs', cond_false]
        have e6 : sumN js rows facs true k = sumN js rows facs true (k + 1) := by simp only [sumN, hs', cond_false]
        have c1 : abin .eql .i64 ((iat rows k).tmod 2) 1 = some (.bool false) := by simp only [abin, e9]
        simp only [hgOf, e9] at hat
        (repeat (first | refine WL_nil ?_ | (apply wl0 (hd := rfl); (first | exact qv9); (exact gy0)) | (apply wlb (hd := rfl); exact qbx; (exact gy0); rfl) | refine wln ⟨_, rfl, rfl⟩ rfl ?_ | refine wlnu ⟨_, rfl, rfl⟩ rfl ?_ | refine wst rfl rfl rfl List.not_mem_nil rfl rfl rfl rfl rfl rfl ?_ | refine W_condT rfl ?_ | refine W_condF rfl ?_ | refine W_region ?_ | refine wN rfl ?_))
        (refine W_cond rfl (fun hc => ?_) (fun hc => ?_))
        · (repeat (first | refine WL_nil ?_ | (apply wl0 (hd := rfl); (first | exact QV_bin rfl rfl c0 | exact QV_bin rfl rfl c1 | exact qv9 | exact QV_indexAddr rfl rfl rfl rfl (row_at hp) | exact QV_indexAddr rfl rfl rfl rfl (row_at hq) | exact QV_div rfl rfl (by decide) rfl | exact q_callA (hat)); (exact gy0)) | (apply wlb (hd := rfl); exact qbx; (exact gy0); rfl) | refine wln ⟨_, rfl, rfl⟩ rfl ?_ | refine wlnu ⟨_, rfl, rfl⟩ rfl ?_ | refine wst rfl rfl rfl List.not_mem_nil rfl rfl rfl rfl rfl rfl ?_ | refine W_condT rfl ?_ | refine W_condF rfl ?_ | refine W_region ?_ | refine wN rfl ?_))
          refine wdraw 27 (by kernel_rfl) (by kernel_rfl) (by kernel_rfl) rfl ?_
          (repeat (first | refine HW_nil ?_ | (apply hw0 (hd := rfl); (first | exact qv9); (exact gy0)) | (apply hwb (hd := rfl); exact qbx; (exact gy0); rfl) | refine hwn ⟨_, rfl, rfl⟩ rfl ?_ | refine hwnu ⟨_, rfl, rfl⟩ rfl ?_))
          (repeat (first | refine WL_nil ?_ | (apply wl0 (hd := rfl); (first | exact qv9); (exact gy0)) | (apply wlb (hd := rfl); exact qbx; (exact gy0); rfl) | refine wln ⟨_, rfl, rfl⟩ rfl ?_ | refine wlnu ⟨_, rfl, rfl⟩ rfl ?_ | refine wst rfl rfl rfl List.not_mem_nil rfl rfl rfl rfl rfl rfl ?_ | refine W_condT rfl ?_ | refine W_condF rfl ?_ | refine W_region ?_ | refine wN rfl ?_))
          rw [e1, e2, e3, e4, e5 Pt.x, e5 Pt.y, e6]
          refine Exists.intro _ (Exists.intro _ ⟨?_, ⟨k + 1, by omega, rfl, rfl⟩, wkA⟩)
          omega
        · simp at hc; omega
      · have hs : sideB (2 * js.length) (iat rows k) true = true := by simp [sideB, e0, e9]
        have hs' : sideB (2 * js.length) (iat rows k) false = false := by simp [sideB, e9]
        have e1 : IntKind.i64.wrap (sumS js rows facs true Pt.x k + W64 (iat facs k * (ptO js (iat rows k) true).x)) = sumS js rows facs true Pt.x (k + 1) := by simp only [sumS, hs, cond_true]
        have e2 : IntKind.i64.wrap (sumS js rows facs true Pt.y k + W64 (iat facs k * (ptO js (iat rows k) true).y)) = sumS js rows facs true Pt.y (k + 1) := by simp only [sumS, hs, cond_true]
        have e3 : IntKind.i64.wrap (sumN js rows facs true k + iat facs k) = sumN js rows facs true (k + 1) := by simp only [sumN, hs, cond_true]
        have e5 : ∀ F, sumS js rows facs false F k = sumS js rows facs false F (k + 1) := fun F => by simp only [sumS, hs', cond_false]
        have e6 : sumN js rows facs false k = sumN js rows facs false (k + 1) := by simp only [sumN, hs', cond_false]
        have c1 : abin .eql .i64 ((iat rows k).tmod 2) 1 = some (.bool true) := by simp only [abin, e9]
        simp only [hgOf, e9] at hat
        (repeat (first | refine WL_nil ?_ | (apply wl0 (hd := rfl); (first | exact qv9); (exact gy0)) | (apply wlb (hd := rfl); exact qbx; (exact gy0); rfl) | refine wln ⟨_, rfl, rfl⟩ rfl ?_ | refine wlnu ⟨_, rfl, rfl⟩ rfl ?_ | refine wst rfl rfl rfl List.not_mem_nil rfl rfl rfl rfl rfl rfl ?_ | refine W_condT rfl ?_ | refine W_condF rfl ?_ | refine W_region ?_ | refine wN rfl ?_))
        (refine W_cond rfl (fun hc => ?_) (fun hc => ?_))
        · (repeat (first | refine WL_nil ?_ | (apply wl0 (hd := rfl); (first | exact QV_bin rfl rfl c0 | exact QV_bin rfl rfl c1 | exact qv9 | exact QV_indexAddr rfl rfl rfl rfl (row_at hp) | exact QV_indexAddr rfl rfl rfl rfl (row_at hq) | exact QV_div rfl rfl (by decide) rfl | exact q_callA (hat)); (exact gy0)) | (apply wlb (hd := rfl); exact qbx; (exact gy0); rfl) | refine wln ⟨_, rfl, rfl⟩ rfl ?_ | refine wlnu ⟨_, rfl, rfl⟩ rfl ?_ | refine wst rfl rfl rfl List.not_mem_nil rfl rfl rfl rfl rfl rfl ?_ | refine W_condT rfl ?_ | refine W_condF rfl ?_ | refine W_region ?_ | refine wN rfl ?_))
          refine wdraw 27 (by kernel_rfl) (by kernel_rfl) (by kernel_rfl) rfl ?_
          (repeat (first | refine HW_nil ?_ | (apply hw0 (hd := rfl); (first | exact qv9); (exact gy0)) | (apply hwb (hd := rfl); exact qbx; (exact gy0); rfl) | refine hwn ⟨_, rfl, rfl⟩ rfl ?_ | refine hwnu ⟨_, rfl, rfl⟩ rfl ?_))
          (repeat (first | refine WL_nil ?_ | (apply wl0 (hd := rfl); (first | exact qv9); (exact gy0)) | (apply wlb (hd := rfl); exact qbx; (exact gy0); rfl) | refine wln ⟨_, rfl, rfl⟩ rfl ?_ | refine wlnu ⟨_, rfl, rfl⟩ rfl ?_ | refine wst rfl rfl rfl List.not_mem_nil rfl rfl rfl rfl rfl rfl ?_ | refine W_condT rfl ?_ | refine W_condF rfl ?_ | refine W_region ?_ | refine wN rfl ?_))
          rw [e1, e2, e3, e4, e5 Pt.x, e5 Pt.y, e6]
          refine Exists.intro _ (Exists.intro _ ⟨?_, ⟨k + 1, by omega, rfl, rfl⟩, wkA⟩)
          omega
        · simp at hc; omega
  · (repeat (first | refine WL_nil ?_ | (apply wl0 (hd := rfl); (first | exact qv9); (exact gy0)) | (apply wlb (hd := rfl); exact qbx; (exact gy0); rfl) | refine wln ⟨_, rfl, rfl⟩ rfl ?_ | refine wlnu ⟨_, rfl, rfl⟩ rfl ?_ | refine wst rfl rfl rfl List.not_mem_nil rfl rfl rfl rfl rfl rfl ?_ | refine W_condT rfl ?_ | refine W_condF rfl ?_ | refine W_region ?_ | refine wN rfl ?_))
    (refine W_cond rfl (fun hc => ?_) (fun hc => ?_))
    · simp at hc; omega
    · have hk' : k = rows.length := by omega
      subst hk'
      (repeat (first | refine WL_nil ?_ | (apply wl0 (hd := rfl); (first | exact qv9); (exact gy0)) | (apply wlb (hd := rfl); exact qbx; (exact gy0); rfl) | refine wln ⟨_, rfl, rfl⟩ rfl ?_ | refine wlnu ⟨_, rfl, rfl⟩ rfl ?_ | refine wst rfl rfl rfl List.not_mem_nil rfl rfl rfl rfl rfl rfl ?_ | refine W_condT rfl ?_ | refine W_condF rfl ?_ | refine W_region ?_ | refine wN rfl ?_))
      refine Exists.intro _ ⟨Weak.refl _, Exists.intro _ ⟨resA_cell rfl rfl rfl (resA_cell rfl rfl rfl (resA_tmp rfl rfl)), ?_, rfl⟩⟩
      rfl
theorem some_parts {js : List Jt} {rows facs : List Int} {o : Bool} (h : someB js rows facs o = true) : hgsB js rows = true ∧ facs.length = rows.length := by
  simp only [someB, Bool.and_eq_true, decide_eq_true_eq] at h
  refine ⟨?_, h.2⟩
  cases e : hgsB js rows
  · simp [hgA, e] at h
  · rfl
def meX (js : List Jt) (rows facs : List Int) : Int := bif someB js rows facs false then sumS js rows facs false Pt.x rows.length else 0
def meY (js : List Jt) (rows facs : List Int) : Int := bif someB js rows facs false then sumS js rows facs false Pt.y rows.length else 0
def meN (js : List Jt) (rows facs : List Int) : Int := bif someB js rows facs false then sumN js rows facs false rows.length else 0
abbrev meA (js : List Jt) (rows facs : List Int) : AV := .tup [vi (meX js rows facs), vi (meY js rows facs), vi (meN js rows facs), vb (someB js rows facs false)]
theorem implMeetingOf_ok (js : List Jt) (rows facs : List Int) (hj : js.length ≤ 1048576) (hn : rows.length ≤ 1048576) (_hf : facs.length ≤ 1048576) : CallOk Tryz.prog 10 [.agg [slJt js], .agg [slI rows, slI facs]] (fun r => r = meA js rows facs) := by
  have h0 := implHingesOf_ok js rows facs hj hn
  have h1 := hasSide_ok (hgA js rows) false (by have := hgA_len js rows; omega)
  unfold meA meX meY meN
  refine callOk Tryz.func10 Tryz.ntmps10 Tryz.results10 rfl rfl rfl fun B w0 I0 => ?_
  by_cases hl : facs.length = rows.length
  · have c0 : abin .neq .i64 facs.length rows.length = some (.bool false) := by simp [abin, hl]
    cases e : ((hgA js rows).any fun h => h.o == false)
    · rw [e] at h1
      have e' : someB js rows facs false = false := by simp only [someB, e, Bool.false_and]
      rw [e']
      (repeat (first | refine WL_nil ?_ | (apply wl0 (hd := rfl); (first | exact QV_bin rfl rfl c0 | exact qv9 | exact q_callA (h0) | exact q_callA (h1)); (exact gy0)) | (apply wlb (hd := rfl); exact qbx; (exact gy0); rfl) | refine wln ⟨_, rfl, rfl⟩ rfl ?_ | refine wlnu ⟨_, rfl, rfl⟩ rfl ?_ | refine wst rfl rfl rfl List.not_mem_nil rfl rfl rfl rfl rfl rfl ?_ | refine W_condT rfl ?_ | refine W_condF rfl ?_ | refine W_region ?_ | refine wN rfl ?_))
      refine Exists.intro _ ⟨Weak.refl _, Exists.intro _ ⟨resA_tmp rfl (resA_tmp rfl (resA_tmp rfl (resA_tmp rfl rfl))), ?_, rfl⟩⟩
      rfl
    · rw [e] at h1
      have e' : someB js rows facs false = true := by simp only [someB, e, hl, decide_true, Bool.and_self]
      rw [e']
      obtain ⟨p1, p2⟩ := some_parts e'
      (repeat (first | refine WL_nil ?_ | (apply wl0 (hd := rfl); (first | exact QV_bin rfl rfl c0 | exact qv9 | exact q_callA (h0) | exact q_callA (h1) | exact q_callA (meetingsOf_ok js rows facs hj hn p1 p2)); (exact gy0)) | (apply wlb (hd := rfl); exact qbx; (exact gy0); rfl) | refine wln ⟨_, rfl, rfl⟩ rfl ?_ | refine wlnu ⟨_, rfl, rfl⟩ rfl ?_ | refine wst rfl rfl rfl List.not_mem_nil rfl rfl rfl rfl rfl rfl ?_ | refine W_condT rfl ?_ | refine W_condF rfl ?_ | refine W_region ?_ | refine wN rfl ?_))
      refine wdraw 10 (by kernel_rfl) (by kernel_rfl) (by kernel_rfl) rfl ?_
      (repeat (first | refine HW_nil ?_ | (apply hw0 (hd := rfl); (first | exact qv9); (exact gy0)) | (apply hwb (hd := rfl); exact qbx; (exact gy0); rfl) | refine hwn ⟨_, rfl, rfl⟩ rfl ?_ | refine hwnu ⟨_, rfl, rfl⟩ rfl ?_))
      (repeat (first | refine WL_nil ?_ | (apply wl0 (hd := rfl); (first | exact qv9); (exact gy0)) | (apply wlb (hd := rfl); exact qbx; (exact gy0); rfl) | refine wln ⟨_, rfl, rfl⟩ rfl ?_ | refine wlnu ⟨_, rfl, rfl⟩ rfl ?_ | refine wst rfl rfl rfl List.not_mem_nil rfl rfl rfl rfl rfl rfl ?_ | refine W_condT rfl ?_ | refine W_condF rfl ?_ | refine W_region ?_ | refine wN rfl ?_))
      refine Exists.intro _ ⟨Weak.refl _, Exists.intro _ ⟨resA_tmp rfl (resA_tmp rfl (resA_tmp rfl (resA_tmp rfl rfl))), ?_, rfl⟩⟩
      rfl
  · have c0 : abin .neq .i64 facs.length rows.length = some (.bool true) := by simp [abin]; omega
    have e' : someB js rows facs false = false := by simp [someB, hl]
    rw [e']
    (repeat (first | refine WL_nil ?_ | (apply wl0 (hd := rfl); (first | exact QV_bin rfl rfl c0 | exact qv9); (exact gy0)) | (apply wlb (hd := rfl); exact qbx; (exact gy0); rfl) | refine wln ⟨_, rfl, rfl⟩ rfl ?_ | refine wlnu ⟨_, rfl, rfl⟩ rfl ?_ | refine wst rfl rfl rfl List.not_mem_nil rfl rfl rfl rfl rfl rfl ?_ | refine W_condT rfl ?_ | refine W_condF rfl ?_ | refine W_region ?_ | refine wN rfl ?_))
    refine Exists.intro _ ⟨Weak.refl _, Exists.intro _ ⟨resA_tmp rfl (resA_tmp rfl (resA_tmp rfl (resA_tmp rfl rfl))), ?_, rfl⟩⟩
    rfl
def cpB (js : List Jt) (rows facs : List Int) : Bool := someB js rows facs false && (someB js rows facs true && (sumN js rows facs false rows.length == sumN js rows facs true rows.length && (sumS js rows facs false Pt.x rows.length == sumS js rows facs true Pt.x rows.length && sumS js rows facs false Pt.y rows.length == W64 (sumS js rows facs true Pt.y rows.length + sumE js rows facs rows.length))))
theorem sumS_w (js : List Jt) (rows facs : List Int) (o : Bool) (F : Pt → Int) : ∀ k, W64 (sumS js rows facs o F k) = sumS js rows facs o F k
  | 0 => w64 (by simp only [sumS]; omega)
  | k + 1 => by
    simp only [sumS]
    cases sideB (2 * js.length) (iat rows k) o
    · exact sumS_w js rows facs o F k
    · exact w64_idem _
theorem w64_move {a b c : Int} (ha : W64 a = a) (hb : W64 b = b) : (b = W64 (a - c)) ↔ a = W64 (b + c) := by
  have e1 : ∀ n, W64 n = (n + 9223372036854775808) % 18446744073709551616 - 9223372036854775808 := fun n => IntKind.wrap_i64 n
  rw [e1] at ha hb ⊢
  rw [e1 (b + c)]
  omega
theorem implCommonPoint_ok (js : List Jt) (rows facs : List Int) (hj : js.length ≤ 1048576) (hn : rows.length ≤ 1048576) (hf : facs.length ≤ 1048576) : CallOk Tryz.prog 14 [.agg [slJt js], .agg [slI rows, slI facs]] (fun r => r = vb (cpB js rows facs)) := by
  have h0 := implHingesOf_ok js rows facs hj hn
  have h1 := hasSide_ok (hgA js rows) true (by have := hgA_len js rows; omega)
  have hm := implMeetingOf_ok js rows facs hj hn hf
  unfold meA at hm
  refine callOk Tryz.func14 Tryz.ntmps14 Tryz.results14 rfl rfl rfl fun B w0 I0 => ?_
  cases e : someB js rows facs false
  · rw [e] at hm
    (repeat (first | refine WL_nil ?_ | (apply wl0 (hd := rfl); (first | exact qv9 | exact q_callA (hm)); (exact gy0)) | (apply wlb (hd := rfl); exact qbx; (exact gy0); rfl) | refine wln ⟨_, rfl, rfl⟩ rfl ?_ | refine wlnu ⟨_, rfl, rfl⟩ rfl ?_ | refine wst rfl rfl rfl List.not_mem_nil rfl rfl rfl rfl rfl rfl ?_ | refine W_condT rfl ?_ | refine W_condF rfl ?_ | refine W_region ?_ | refine wN rfl ?_))
    refine Exists.intro _ ⟨Weak.refl _, Exists.intro _ ⟨resA_tmp rfl rfl, ?_, rfl⟩⟩
    exact vb_eq (by simp [cpB, e])
  · rw [e] at hm
    obtain ⟨p1, p2⟩ := some_parts e
    cases e2 : ((hgA js rows).any fun h => h.o == true)
    · rw [e2] at h1
      (repeat (first | refine WL_nil ?_ | (apply wl0 (hd := rfl); (first | exact qv9 | exact q_callA (hm) | exact q_callA (h0) | exact q_callA (h1)); (exact gy0)) | (apply wlb (hd := rfl); exact qbx; (exact gy0); rfl) | refine wln ⟨_, rfl, rfl⟩ rfl ?_ | refine wlnu ⟨_, rfl, rfl⟩ rfl ?_ | refine wst rfl rfl rfl List.not_mem_nil rfl rfl rfl rfl rfl rfl ?_ | refine W_condT rfl ?_ | refine W_condF rfl ?_ | refine W_region ?_ | refine wN rfl ?_))
      refine Exists.intro _ ⟨Weak.refl _, Exists.intro _ ⟨resA_tmp rfl rfl, ?_, rfl⟩⟩
      exact vb_eq (by simp only [cpB, someB, e2, Bool.false_and, Bool.and_false])
    · rw [e2] at h1
      have e' : someB js rows facs true = true := by simp only [someB, e2, p2, decide_true, Bool.and_self]
      (repeat (first | refine WL_nil ?_ | (apply wl0 (hd := rfl); (first | exact qv9 | exact q_callA (hm) | exact q_callA (h0) | exact q_callA (h1) | exact q_callA (meetingsOf_ok js rows facs hj hn p1 p2) | exact QV_eqA rfl rfl rfl); (exact gy0)) | (apply wlb (hd := rfl); exact qbx; (exact gy0); rfl) | refine wln ⟨_, rfl, rfl⟩ rfl ?_ | refine wlnu ⟨_, rfl, rfl⟩ rfl ?_ | refine wst rfl rfl rfl List.not_mem_nil rfl rfl rfl rfl rfl rfl ?_ | refine W_condT rfl ?_ | refine W_condF rfl ?_ | refine W_region ?_ | refine wN rfl ?_))
      refine Exists.intro _ ⟨Weak.refl _, Exists.intro _ ⟨resA_tmp rfl rfl, ?_, rfl⟩⟩
      refine vb_eq ?_
      rw [Bool.eq_iff_iff]
      have hmv := w64_move (sumS_w js rows facs false Pt.y rows.length) (sumS_w js rows facs true Pt.y rows.length) (c := sumE js rows facs rows.length)
      simp only [cpB, e, e', Bool.true_and, Bool.and_eq_true, beq_iff_eq, Bool.and_true]
      constructor
      · rintro ⟨a, b, c⟩
        exact ⟨c.symm, a.symm, hmv.1 b⟩
      · rintro ⟨a, b, c⟩
        exact ⟨b.symm, hmv.2 c, a.symm⟩
end Go.Proofs.YtkaffcdjhbaifaaGreat
