/- bestOf, CompareThrusts, LeastThrust of the program. -/
import Derived.Test.YtkieepmkcaipaaaGreatYG10
import Derived.Test.YtkieepmkcaipaaaGreatYG6
import Derived.Test.YtkieepmkcaipaaaGreatZ9
namespace Go.Proofs.YtkieepmkcaipaaaGreat
open Go.Eng
set_option maxRecDepth 100000
attribute [local irreducible] QV TV WL HW W CallOk CallOkA Weak
attribute [local irreducible] CallOkE

def bstT (lt : Th → Th → Bool) (l : List Th) : Nat → Th
  | 0 => tat l 0
  | k + 1 => bif lt (tat l (k + 1)) (bstT lt l k) then tat l (k + 1) else bstT lt l k
theorem bestOf1_ok (f : Nat) [hf : FnOk Tryz.prog f] (ds : List AV) (lt : Th → Th → Bool) (h : ∀ x y : Th, CallOkE Tryz.prog f ([x.av, y.av] ++ [.eptr ds]) (fun r => r = vb (lt x y))) (l : List Th) (hl : 0 < l.length) (hn : l.length ≤ 1048576) :
    CallOkE Tryz.prog 90 [slTh l, .fn (.func f) [] [.eptr ds]] (fun r => r = (bstT lt l (l.length - 1)).av) := by
  have h0 := tat_lt hl
  refine callOkE Tryz.func90 Tryz.ntmps90 Tryz.results90 rfl rfl rfl fun B w0 M I0 V0 => ?_
  have hlen : ((l.map Th.row).take (l.map Th.row).length).drop 1 = (l.drop 1).map Th.row := by rw [List.take_length, List.map_drop]
  (repeat (first | refine WL_nil ?_ | (apply wl0 (hd := rfl); (first | exact qv9 | exact QV_indexAddr rfl rfl rfl rfl (row_at h0) | exact q_sliceE (i := 1) (j := (l.map Th.row).length) rfl rfl rfl rfl rfl rfl (by simp; omega) (Nat.le_refl _) hlen); (exact gy0)) | (apply wlb (hd := rfl); exact qbx; (exact gy0); rfl) | refine wln ⟨_, rfl, rfl⟩ rfl ?_ | refine wlnu ⟨_, rfl, rfl⟩ rfl ?_ | refine wst rfl rfl rfl List.not_mem_nil rfl rfl rfl rfl rfl rfl ?_ | refine W_condT rfl ?_ | refine W_condF rfl ?_ | refine W_region ?_ | refine wN rfl ?_))
  refine W_loop (fun n s => ∃ k : Nat, k ≤ l.length - 1 ∧ n = l.length - 1 - k ∧ s = ⟨[(1, .fn (.func f) [] [.eptr ds]), (4, .ptr 4 0), (5, .ptr 5 0), (12, .sl 4 ((l.drop 1).map Th.row)), (13, vi (l.drop 1).length), (14, vi k)], [(5, (bstT lt l k).row), (4, thZ.row)], []⟩) ⟨_, _, ⟨0, by omega, rfl, rfl⟩, wkA⟩ ?_
  rintro n s ⟨k, hk, rfl, rfl⟩
  by_cases hlt : k < l.length - 1
  · have c1 : abin .lss .i64 (k : Int) ((l.drop 1).length : Int) = some (.bool true) := by rw [List.length_drop]; simp [abin]; omega
    have hp := tat_lt (show k + 1 < l.length by omega)
    have hp' : (l.drop 1)[k]? = some (tat l (k + 1)) := by rw [List.getElem?_drop, Nat.add_comm]; exact hp
    have hc := h (tat l (k + 1)) (bstT lt l k)
    cases z : lt (tat l (k + 1)) (bstT lt l k)
    · rw [z] at hc
      (repeat (first | refine WL_nil ?_ | (apply wl0 (hd := rfl); (first | exact QV_bin rfl rfl c1 | exact qv9 | exact QV_indexAddr rfl rfl rfl rfl (row_at hp') | exact QV_callEP hc rfl (LeE.agg (by (repeat' (first | exact LeDs.nil | refine LeDs.cons (by first | exact LeD.v | exact LeD.sl | exact LeD.own | exact LeD.nil | exact LeD.top) ?_ | refine LeDs.agg ?_ ?_)); first | done | fail "open") (LeE.agg (by (repeat' (first | exact LeDs.nil | refine LeDs.cons (by first | exact LeD.v | exact LeD.sl | exact LeD.own | exact LeD.nil | exact LeD.top) ?_ | refine LeDs.agg ?_ ?_)); first | done | fail "open") (LeE.eptr LeE.nil))) rfl); (exact gy0)) | (apply wlb (hd := rfl); exact qbx; (exact gy0); rfl) | refine wln ⟨_, rfl, rfl⟩ rfl ?_ | refine wlnu ⟨_, rfl, rfl⟩ rfl ?_ | refine wst rfl rfl rfl List.not_mem_nil rfl rfl rfl rfl rfl rfl ?_ | refine W_condT rfl ?_ | refine W_condF rfl ?_ | refine W_region ?_ | refine wN rfl ?_))
      have eN : bstT lt l (k + 1) = bstT lt l k := by simp [bstT, z]
      rw [← eN]
      refine Exists.intro _ (Exists.intro _ ⟨?_, ⟨k + 1, by omega, rfl, rfl⟩, wkA⟩)
      omega
    · rw [z] at hc
      (repeat (first | refine WL_nil ?_ | (apply wl0 (hd := rfl); (first | exact QV_bin rfl rfl c1 | exact qv9 | exact QV_indexAddr rfl rfl rfl rfl (row_at hp') | exact QV_callEP hc rfl (LeE.agg (by (repeat' (first | exact LeDs.nil | refine LeDs.cons (by first | exact LeD.v | exact LeD.sl | exact LeD.own | exact LeD.nil | exact LeD.top) ?_ | refine LeDs.agg ?_ ?_)); first | done | fail "open") (LeE.agg (by (repeat' (first | exact LeDs.nil | refine LeDs.cons (by first | exact LeD.v | exact LeD.sl | exact LeD.own | exact LeD.nil | exact LeD.top) ?_ | refine LeDs.agg ?_ ?_)); first | done | fail "open") (LeE.eptr LeE.nil))) rfl); (exact gy0)) | (apply wlb (hd := rfl); exact qbx; (exact gy0); rfl) | refine wln ⟨_, rfl, rfl⟩ rfl ?_ | refine wlnu ⟨_, rfl, rfl⟩ rfl ?_ | refine wst rfl rfl rfl List.not_mem_nil rfl rfl rfl rfl rfl rfl ?_ | refine W_condT rfl ?_ | refine W_condF rfl ?_ | refine W_region ?_ | refine wN rfl ?_))
      have eN : bstT lt l (k + 1) = tat l (k + 1) := by simp [bstT, z]
      rw [← eN]
      refine Exists.intro _ (Exists.intro _ ⟨?_, ⟨k + 1, by omega, rfl, rfl⟩, wkA⟩)
      omega
  · have c1 : abin .lss .i64 (k : Int) ((l.drop 1).length : Int) = some (.bool false) := by rw [List.length_drop]; simp [abin]; omega
    have hk' : k = l.length - 1 := by omega
    subst hk'
    (repeat (first | refine WL_nil ?_ | (apply wl0 (hd := rfl); (first | exact QV_bin rfl rfl c1 | exact qv9); (exact gy0)) | (apply wlb (hd := rfl); exact qbx; (exact gy0); rfl) | refine wln ⟨_, rfl, rfl⟩ rfl ?_ | refine wlnu ⟨_, rfl, rfl⟩ rfl ?_ | refine wst rfl rfl rfl List.not_mem_nil rfl rfl rfl rfl rfl rfl ?_ | refine W_condT rfl ?_ | refine W_condF rfl ?_ | refine W_region ?_ | refine wN rfl ?_))
    refine Exists.intro _ ⟨Weak.refl _, Exists.intro _ ⟨resA_cell rfl rfl rfl rfl, ?_, rfl⟩⟩
    rfl
end Go.Proofs.YtkieepmkcaipaaaGreat
