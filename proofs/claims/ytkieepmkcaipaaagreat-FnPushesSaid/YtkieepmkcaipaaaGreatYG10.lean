/- Pushes at joints: PushAt, MomentsAt, IsInside, both ways. -/
import Derived.Test.YtkieepmkcaipaaaGreatYALd
import Derived.Test.YtkieepmkcaipaaaGreatYG4
import Derived.Test.YtkieepmkcaipaaaGreatYG5
import Derived.Test.YtkieepmkcaipaaaGreatZ12
import Derived.Test.YtkieepmkcaipaaaGreatYASv
import Derived.Test.YtkieepmkcaipaaaGreatYARo
import Derived.Test.YtkieepmkcaipaaaGreatYACn
import Derived.Test.YtkieepmkcaipaaaGreatYG9
namespace Go.Proofs.YtkieepmkcaipaaaGreat
open Go.Eng
set_option maxRecDepth 100000
attribute [local irreducible] QV TV WL HW W CallOk Weak

def pushB (js : List Jt) (ls : List Ld) (t : Th) (k : Int) : Bool := loadsB js ls && (thOk t && inR k 0 (js.length - 1))
theorem push_parts {js : List Jt} {ls : List Ld} {t : Th} {k : Int} (h : pushB js ls t k = true) : loadsB js ls = true ∧ thOk t = true ∧ 0 ≤ k ∧ k ≤ js.length - 1 := by
  simp only [pushB, Bool.and_eq_true, inR_true] at h
  exact h
theorem lW_at {js : List Jt} {ls : List Ld} {k : Nat} (h : loadsB js ls = true) (hk : (k : Int) ≤ js.length - 1) : lW js ls k = lwA js ls k := by
  have : inR (k : Int) 0 (js.length - 1) = true := inR_true.2 ⟨by omega, hk⟩
  simp [lW, h, this]
theorem lM_at {js : List Jt} {ls : List Ld} {k : Nat} (h : loadsB js ls = true) (hk : (k : Int) ≤ js.length - 1) : lM js ls k = lmA js ls k := by
  have : inR (k : Int) 0 (js.length - 1) = true := inR_true.2 ⟨by omega, hk⟩
  simp [lM, h, this]
theorem implPushOk_ok (js : List Jt) (ls : List Ld) (t : Th) (k : Int) (hj : js.length ≤ 1048576) (hn : ls.length ≤ 1048576) : CallOk Tryz.prog 105 [.agg [slJt js], slLd ls, t.av, vi k] (fun r => r = vb (pushB js ls t k)) := by
  have h1 := implLoadsOk_ok js ls hj hn
  have h2 := implThrustOk_ok t
  refine callOk Tryz.func105 Tryz.ntmps105 Tryz.results105 rfl rfl rfl fun B w0 M I0 V0 => ?_
  cases e1 : loadsB js ls
  · rw [e1] at h1
    (repeat (first | refine WL_nil ?_ | (apply wl0 (hd := rfl); (first | exact qv9 | exact q_callA (h1)); (exact gy0)) | (apply wlb (hd := rfl); exact qbx; (exact gy0); rfl) | refine wln ⟨_, rfl, rfl⟩ rfl ?_ | refine wlnu ⟨_, rfl, rfl⟩ rfl ?_ | refine wst rfl rfl rfl List.not_mem_nil rfl rfl rfl rfl rfl rfl ?_ | refine W_condT rfl ?_ | refine W_condF rfl ?_ | refine W_region ?_ | refine wN rfl ?_))
    refine Exists.intro _ ⟨Weak.refl _, Exists.intro _ ⟨resA_tmp rfl rfl, ?_, rfl⟩⟩
    exact vb_eq (by simp [pushB, e1])
  · rw [e1] at h1
    cases e2 : thOk t
    · rw [e2] at h2
      (repeat (first | refine WL_nil ?_ | (apply wl0 (hd := rfl); (first | exact qv9 | exact q_callA (h1) | exact q_callA (h2)); (exact gy0)) | (apply wlb (hd := rfl); exact qbx; (exact gy0); rfl) | refine wln ⟨_, rfl, rfl⟩ rfl ?_ | refine wlnu ⟨_, rfl, rfl⟩ rfl ?_ | refine wst rfl rfl rfl List.not_mem_nil rfl rfl rfl rfl rfl rfl ?_ | refine W_condT rfl ?_ | refine W_condF rfl ?_ | refine W_region ?_ | refine wN rfl ?_))
      refine Exists.intro _ ⟨Weak.refl _, Exists.intro _ ⟨resA_tmp rfl rfl, ?_, rfl⟩⟩
      exact vb_eq (by simp [pushB, e2])
    · rw [e2] at h2
      (repeat (first | refine WL_nil ?_ | (apply wl0 (hd := rfl); (first | exact qv9 | exact q_callA (h1) | exact q_callA (h2) | exact q_callA (within_ok _ _ _)); (exact gy0)) | (apply wlb (hd := rfl); exact qbx; (exact gy0); rfl) | refine wln ⟨_, rfl, rfl⟩ rfl ?_ | refine wlnu ⟨_, rfl, rfl⟩ rfl ?_ | refine wst rfl rfl rfl List.not_mem_nil rfl rfl rfl rfl rfl rfl ?_ | refine W_condT rfl ?_ | refine W_condF rfl ?_ | refine W_region ?_ | refine wN rfl ?_))
      refine Exists.intro _ ⟨Weak.refl _, Exists.intro _ ⟨resA_tmp rfl rfl, ?_, rfl⟩⟩
      exact vb_eq (by simp [pushB, e1, e2])
def upT (t : Th) (w : Int) : Int := W64 (t.v - W64 (t.d * w))
def pV (js : List Jt) (ls : List Ld) (t : Th) (k : Int) : Int := if pushB js ls t k then upT t (lwA js ls k.toNat) else 0
def pH (js : List Jt) (ls : List Ld) (t : Th) (k : Int) : Int := if pushB js ls t k then t.h else 0
theorem implPushAt_ok (js : List Jt) (ls : List Ld) (t : Th) (k : Int) (hj : js.length ≤ 1048576) (hn : ls.length ≤ 1048576) : CallOk Tryz.prog 59 [.agg [slJt js], slLd ls, t.av, vi k] (fun r => r = .tup [vi (pH js ls t k), vi (pV js ls t k)]) := by
  have h1 := implPushOk_ok js ls t k hj hn
  refine callOk Tryz.func59 Tryz.ntmps59 Tryz.results59 rfl rfl rfl fun B w0 M I0 V0 => ?_
  cases e1 : pushB js ls t k
  · rw [e1] at h1
    (repeat (first | refine WL_nil ?_ | (apply wl0 (hd := rfl); (first | exact qv9 | exact q_callA (h1)); (exact gy0)) | (apply wlb (hd := rfl); exact qbx; (exact gy0); rfl) | refine wln ⟨_, rfl, rfl⟩ rfl ?_ | refine wlnu ⟨_, rfl, rfl⟩ rfl ?_ | refine wst rfl rfl rfl List.not_mem_nil rfl rfl rfl rfl rfl rfl ?_ | refine W_condT rfl ?_ | refine W_condF rfl ?_ | refine W_region ?_ | refine wN rfl ?_))
    refine Exists.intro _ ⟨Weak.refl _, Exists.intro _ ⟨resA_tmp rfl (resA_tmp rfl rfl), ?_, rfl⟩⟩
    simp [pH, pV, e1]
    rfl
  · rw [e1] at h1
    obtain ⟨p1, p2, p3, p4⟩ := push_parts e1
    obtain ⟨kN, rfl⟩ : ∃ n : Nat, k = (n : Int) := ⟨k.toNat, by omega⟩
    have hw := implWeightLeft_ok js ls kN hj hn
    rw [lW_at p1 p4] at hw
    (repeat (first | refine WL_nil ?_ | (apply wl0 (hd := rfl); (first | exact qv9 | exact q_callA (h1)); (exact gy0)) | (apply wlb (hd := rfl); exact qbx; (exact gy0); rfl) | refine wln ⟨_, rfl, rfl⟩ rfl ?_ | refine wlnu ⟨_, rfl, rfl⟩ rfl ?_ | refine wst rfl rfl rfl List.not_mem_nil rfl rfl rfl rfl rfl rfl ?_ | refine W_condT rfl ?_ | refine W_condF rfl ?_ | refine W_region ?_ | refine wN rfl ?_))
    refine wdraw 14 (by kernel_rfl) (by kernel_rfl) (by kernel_rfl) rfl ?_
    (repeat (first | refine HW_nil ?_ | (apply hw0 (hd := rfl); (first | exact qv9 | exact q_callA (hw)); (exact gy0)) | (apply hwb (hd := rfl); exact qbx; (exact gy0); rfl) | refine hwn ⟨_, rfl, rfl⟩ rfl ?_ | refine hwnu ⟨_, rfl, rfl⟩ rfl ?_))
    (repeat (first | refine WL_nil ?_ | (apply wl0 (hd := rfl); (first | exact qv9); (exact gy0)) | (apply wlb (hd := rfl); exact qbx; (exact gy0); rfl) | refine wln ⟨_, rfl, rfl⟩ rfl ?_ | refine wlnu ⟨_, rfl, rfl⟩ rfl ?_ | refine wst rfl rfl rfl List.not_mem_nil rfl rfl rfl rfl rfl rfl ?_ | refine W_condT rfl ?_ | refine W_condF rfl ?_ | refine W_region ?_ | refine wN rfl ?_))
    refine Exists.intro _ ⟨Weak.refl _, Exists.intro _ ⟨resA_tmp rfl (resA_tmp rfl rfl), ?_, rfl⟩⟩
    simp [pH, pV, e1]
    rfl
def momT (t : Th) (w m : Int) (p : Pt) : Int := W64 (W64 (W64 (t.m - W64 (t.d * m)) - W64 (p.x * upT t w)) + W64 (p.y * t.h))
def mI (js : List Jt) (ls : List Ld) (t : Th) (k : Int) : Int := if pushB js ls t k then momT t (lwA js ls k.toNat) (lmA js ls k.toNat) (jat js k.toNat).i else 0
def mO (js : List Jt) (ls : List Ld) (t : Th) (k : Int) : Int := if pushB js ls t k then momT t (lwA js ls k.toNat) (lmA js ls k.toNat) (jat js k.toNat).o else 0
theorem moment1_ok (t : Th) (w m : Int) (p : Pt) : CallOkE Tryz.prog 107 [p.av, .eptr t.row, .eptr [vi w, vi m], .eptr [vi (upT t w)]] (fun r => r = vi (momT t w m p)) := by
  refine callOkE Tryz.func107 Tryz.ntmps107 Tryz.results107 rfl rfl rfl fun B w0 M I0 V0 => ?_
  (repeat (first | refine WL_nil ?_ | (apply wl0 (hd := rfl); (first | exact qv9); (exact gy0)) | (apply wlb (hd := rfl); exact qbx; (exact gy0); rfl) | refine wln ⟨_, rfl, rfl⟩ rfl ?_ | refine wlnu ⟨_, rfl, rfl⟩ rfl ?_ | refine wst rfl rfl rfl List.not_mem_nil rfl rfl rfl rfl rfl rfl ?_ | refine W_condT rfl ?_ | refine W_condF rfl ?_ | refine W_region ?_ | refine wN rfl ?_))
  refine Exists.intro _ ⟨Weak.refl _, Exists.intro _ ⟨resA_tmp rfl rfl, ?_, rfl⟩⟩
  rfl
theorem implMomentsAt_ok (js : List Jt) (ls : List Ld) (t : Th) (k : Int) (hj : js.length ≤ 1048576) (hn : ls.length ≤ 1048576) : CallOk Tryz.prog 58 [.agg [slJt js], slLd ls, t.av, vi k] (fun r => r = .tup [vi (mI js ls t k), vi (mO js ls t k)]) := by
  have h1 := implPushOk_ok js ls t k hj hn
  refine callOk Tryz.func58 Tryz.ntmps58 Tryz.results58 rfl rfl rfl fun B w0 M I0 V0 => ?_
  cases e1 : pushB js ls t k
  · rw [e1] at h1
    (repeat (first | refine WL_nil ?_ | (apply wl0 (hd := rfl); (first | exact qv9 | exact q_callA (h1)); (exact gy0)) | (apply wlb (hd := rfl); exact qbx; (exact gy0); rfl) | refine wln ⟨_, rfl, rfl⟩ rfl ?_ | refine wlnu ⟨_, rfl, rfl⟩ rfl ?_ | refine wst rfl rfl rfl List.not_mem_nil rfl rfl rfl rfl rfl rfl ?_ | refine W_condT rfl ?_ | refine W_condF rfl ?_ | refine W_region ?_ | refine wN rfl ?_))
    refine Exists.intro _ ⟨Weak.refl _, Exists.intro _ ⟨resA_tmp rfl (resA_tmp rfl rfl), ?_, rfl⟩⟩
    simp [mI, mO, e1]
    rfl
  · rw [e1] at h1
    obtain ⟨p1, p2, p3, p4⟩ := push_parts e1
    obtain ⟨kN, rfl⟩ : ∃ n : Nat, k = (n : Int) := ⟨k.toNat, by omega⟩
    have hl := leftOf_ok js ls kN hj hn
    rw [lW_at p1 p4, lM_at p1 p4] at hl
    have hp := jat_lt (l := js) (i := kN) (by have := arch_len (loads_arch p1); omega)
    have hc1 := moment1_ok t (lwA js ls kN) (lmA js ls kN) (jat js kN).i
    have hc2 := moment1_ok t (lwA js ls kN) (lmA js ls kN) (jat js kN).o
    (repeat (first | refine WL_nil ?_ | (apply wl0 (hd := rfl); (first | exact qv9 | exact q_callA (h1) | exact q_callA (hl)); (exact gy0)) | (apply wlb (hd := rfl); exact qbx; (exact gy0); rfl) | refine wln ⟨_, rfl, rfl⟩ rfl ?_ | refine wlnu ⟨_, rfl, rfl⟩ rfl ?_ | refine wst rfl rfl rfl List.not_mem_nil rfl rfl rfl rfl rfl rfl ?_ | refine W_condT rfl ?_ | refine W_condF rfl ?_ | refine W_region ?_ | refine wN rfl ?_))
    refine wdraw 18 (by kernel_rfl) (by kernel_rfl) (by kernel_rfl) rfl ?_
    (repeat (first | refine HW_nil ?_ | (apply hw0 (hd := rfl); (first | exact qv9 | exact QV_indexAddr rfl rfl rfl rfl (row_at hp) | exact QV_callE hc1 rfl (LeE.agg (LeDs.cons LeD.v (LeDs.cons LeD.v LeDs.nil)) (LeE.ptr rfl rfl (LeE.ptr rfl rfl (LeE.ptr rfl rfl LeE.nil)))) | exact QV_callE hc2 rfl (LeE.agg (LeDs.cons LeD.v (LeDs.cons LeD.v LeDs.nil)) (LeE.ptr rfl rfl (LeE.ptr rfl rfl (LeE.ptr rfl rfl LeE.nil))))); (exact gy0)) | (apply hwb (hd := rfl); exact qbx; (exact gy0); rfl) | refine hwn ⟨_, rfl, rfl⟩ rfl ?_ | refine hwnu ⟨_, rfl, rfl⟩ rfl ?_))
    (repeat (first | refine WL_nil ?_ | (apply wl0 (hd := rfl); (first | exact qv9); (exact gy0)) | (apply wlb (hd := rfl); exact qbx; (exact gy0); rfl) | refine wln ⟨_, rfl, rfl⟩ rfl ?_ | refine wlnu ⟨_, rfl, rfl⟩ rfl ?_ | refine wst rfl rfl rfl List.not_mem_nil rfl rfl rfl rfl rfl rfl ?_ | refine W_condT rfl ?_ | refine W_condF rfl ?_ | refine W_region ?_ | refine wN rfl ?_))
    refine Exists.intro _ ⟨Weak.refl _, Exists.intro _ ⟨resA_tmp rfl (resA_tmp rfl rfl), ?_, rfl⟩⟩
    simp [mI, mO, e1]
    rfl
def insB (js : List Jt) (ls : List Ld) (t : Th) (k : Int) : Bool := pushB js ls t k && (decide (mI js ls t k ≤ 0) && decide (0 ≤ mO js ls t k))
theorem implIsInside_ok (js : List Jt) (ls : List Ld) (t : Th) (k : Int) (hj : js.length ≤ 1048576) (hn : ls.length ≤ 1048576) : CallOk Tryz.prog 60 [.agg [slJt js], slLd ls, t.av, vi k] (fun r => r = vb (insB js ls t k)) := by
  have h1 := implPushOk_ok js ls t k hj hn
  have h2 := implMomentsAt_ok js ls t k hj hn
  refine callOk Tryz.func60 Tryz.ntmps60 Tryz.results60 rfl rfl rfl fun B w0 M I0 V0 => ?_
  cases e1 : pushB js ls t k
  · rw [e1] at h1
    (repeat (first | refine WL_nil ?_ | (apply wl0 (hd := rfl); (first | exact qv9 | exact q_callA (h1) | exact q_callA (h2)); (exact gy0)) | (apply wlb (hd := rfl); exact qbx; (exact gy0); rfl) | refine wln ⟨_, rfl, rfl⟩ rfl ?_ | refine wlnu ⟨_, rfl, rfl⟩ rfl ?_ | refine wst rfl rfl rfl List.not_mem_nil rfl rfl rfl rfl rfl rfl ?_ | refine W_condT rfl ?_ | refine W_condF rfl ?_ | refine W_region ?_ | refine wN rfl ?_))
    refine Exists.intro _ ⟨Weak.refl _, Exists.intro _ ⟨resA_tmp rfl rfl, ?_, rfl⟩⟩
    exact vb_eq (by simp [insB, e1])
  · rw [e1] at h1
    (repeat (first | refine WL_nil ?_ | (apply wl0 (hd := rfl); (first | exact qv9 | exact q_callA (h1) | exact q_callA (h2)); (exact gy0)) | (apply wlb (hd := rfl); exact qbx; (exact gy0); rfl) | refine wln ⟨_, rfl, rfl⟩ rfl ?_ | refine wlnu ⟨_, rfl, rfl⟩ rfl ?_ | refine wst rfl rfl rfl List.not_mem_nil rfl rfl rfl rfl rfl rfl ?_ | refine W_condT rfl ?_ | refine W_condF rfl ?_ | refine W_region ?_ | refine wN rfl ?_))
    (refine wls rfl rfl (fun hg => ?_) (fun hg => ?_))
    · (repeat (first | refine WL_nil ?_ | (apply wl0 (hd := rfl); (first | exact qv9); (exact gy0)) | (apply wlb (hd := rfl); exact qbx; (exact gy0); rfl) | refine wln ⟨_, rfl, rfl⟩ rfl ?_ | refine wlnu ⟨_, rfl, rfl⟩ rfl ?_ | refine wst rfl rfl rfl List.not_mem_nil rfl rfl rfl rfl rfl rfl ?_ | refine W_condT rfl ?_ | refine W_condF rfl ?_ | refine W_region ?_ | refine wN rfl ?_))
      refine Exists.intro _ ⟨Weak.refl _, Exists.intro _ ⟨resA_tmp rfl rfl, ?_, rfl⟩⟩
      simp at hg
      exact vb_eq (by simp [insB, e1]; omega)
    · (repeat (first | refine WL_nil ?_ | (apply wl0 (hd := rfl); (first | exact qv9); (exact gy0)) | (apply wlb (hd := rfl); exact qbx; (exact gy0); rfl) | refine wln ⟨_, rfl, rfl⟩ rfl ?_ | refine wlnu ⟨_, rfl, rfl⟩ rfl ?_ | refine wst rfl rfl rfl List.not_mem_nil rfl rfl rfl rfl rfl rfl ?_ | refine W_condT rfl ?_ | refine W_condF rfl ?_ | refine W_region ?_ | refine wN rfl ?_))
      refine Exists.intro _ ⟨Weak.refl _, Exists.intro _ ⟨resA_tmp rfl rfl, ?_, rfl⟩⟩
      simp at hg
      exact vb_eq (by simp [insB, e1]; omega)
end Go.Proofs.YtkieepmkcaipaaaGreat

namespace Go.Proofs.YtkieepmkcaipaaaGreat
open Go.Eng

theorem up_eq {t : Th} {w : Int} (ht : thIn t = true) (hw : -1327200 ≤ w ∧ w ≤ 1327200) : upT t w = t.v - t.d * w ∧ -11327200000000 ≤ upT t w ∧ upT t w ≤ 11327200000000 := by
  have h := thIn_true ht
  have h1 := mul_bd (a := t.d) (b := w) (m := 1000000) (n := 1327200) (by omega) (by omega)
  unfold upT
  rw [w64 (n := t.d * w) (by omega), w64 (by omega)]
  omega
theorem mom_eq {t : Th} {w m : Int} {p : Pt} (ht : thIn t = true) (hw : -1327200 ≤ w ∧ w ≤ 1327200) (hm : -61488000 ≤ m ∧ m ≤ 61488000) (hp : ptOk p = true) :
    momT t w m p = t.m - t.d * m - p.x * (t.v - t.d * w) + p.y * t.h ∧ -1000000000000000 ≤ momT t w m p ∧ momT t w m p ≤ 1000000000000000 := by
  have h := thIn_true ht
  rw [ptOk_true] at hp
  obtain ⟨u1, u2⟩ := up_eq ht hw
  have h1 := mul_bd (a := t.d) (b := m) (m := 1000000) (n := 61488000) (by omega) (by omega)
  have h2 := mul_bd (a := p.x) (b := upT t w) (m := 60) (n := 11327200000000) (by omega) (by omega)
  have h3 := mul_bd (a := p.y) (b := t.h) (m := 60) (n := 1000000000000) (by omega) (by omega)
  unfold momT
  rw [w64 (n := t.d * m) (by omega), w64 (n := t.m - t.d * m) (by omega), w64 (n := p.x * upT t w) (by omega), w64 (n := p.y * t.h) (by omega), w64 (n := t.m - t.d * m - p.x * upT t w) (by omega), w64 (by omega), u1]
  rw [u1] at h2
  omega
theorem joint_inB {js : List Jt} (h : archB js = true) {k : Nat} (hk : k < js.length) : ptOk (jat js k).i = true ∧ ptOk (jat js k).o = true := by
  have h8 := arch_len h
  have aux : ∀ a b : Jt, stoneB (quad a b) = true → (ptOk a.i = true ∧ ptOk a.o = true) ∧ ptOk b.i = true ∧ ptOk b.o = true := fun a b hs => by
    simp only [stoneB, quad, List.all_cons, List.all_nil, Bool.and_eq_true] at hs
    obtain ⟨_, ⟨h1, h2, h3, h4, _⟩, _⟩ := hs
    exact ⟨⟨h1, h4⟩, h2, h3⟩
  by_cases hk1 : k + 1 < js.length
  · exact (aux _ _ (arch_step h hk1)).1
  · obtain ⟨i, rfl⟩ : ∃ i, k = i + 1 := ⟨k - 1, by omega⟩
    exact (aux _ _ (arch_step h (k := i) (by omega))).2
theorem moments_bd (js : List Jt) (ls : List Ld) (t : Th) (k : Int) : (-1000000000000000 ≤ mI js ls t k ∧ mI js ls t k ≤ 1000000000000000) ∧ -1000000000000000 ≤ mO js ls t k ∧ mO js ls t k ≤ 1000000000000000 := by
  unfold mI mO
  cases h : pushB js ls t k
  · simp
  · obtain ⟨p1, p2, p3, p4⟩ := push_parts h
    have h8 := arch_len (loads_arch p1)
    have hj := joint_inB (loads_arch p1) (k := k.toNat) (by omega)
    simp only [if_true]
    exact ⟨(mom_eq (thOk_in p2) (lw_bd p1 (by omega)) (lm_bd p1 (by omega)) hj.1).2, (mom_eq (thOk_in p2) (lw_bd p1 (by omega)) (lm_bd p1 (by omega)) hj.2).2⟩
end Go.Proofs.YtkieepmkcaipaaaGreat

namespace Go.Proofs.YtkieepmkcaipaaaGreat
open Go.Eng
set_option maxRecDepth 100000
attribute [local irreducible] QV TV WL HW W CallOk Weak

def placB (js : List Jt) (ls : List Ld) (t : Th) (k : Int) : Bool := insB js ls t k && !(decide (mI js ls t k = 0) && decide (mO js ls t k = 0))
def plG (js : List Jt) (ls : List Ld) (t : Th) (k : Int) : Nat := Int.gcd (-mI js ls t k) (mO js ls t k - mI js ls t k)
def plN (js : List Jt) (ls : List Ld) (t : Th) (k : Int) : Int := bif placB js ls t k then W64 ((-mI js ls t k).tdiv (plG js ls t k)) else 0
def plD (js : List Jt) (ls : List Ld) (t : Th) (k : Int) : Int := bif placB js ls t k then W64 ((mO js ls t k - mI js ls t k).tdiv (plG js ls t k)) else 0
theorem plG_list (js : List Jt) (ls : List Ld) (t : Th) (k : Int) : gcdL [mI js ls t k, mO js ls t k - mI js ls t k] = plG js ls t k := by
  simp [gcdL, plG, Int.gcd]
theorem plG_ne {js : List Jt} {ls : List Ld} {t : Th} {k : Int} (h : ¬ (mI js ls t k = 0 ∧ mO js ls t k = 0)) : (plG js ls t k : Int) ≠ 0 := by
  unfold plG
  intro h0
  have h1 : Int.gcd (-mI js ls t k) (mO js ls t k - mI js ls t k) = 0 := by omega
  have := Int.gcd_eq_zero_iff.1 h1
  omega
theorem implPlaceAt_ok (js : List Jt) (ls : List Ld) (t : Th) (k : Int) (hj : js.length ≤ 1048576) (hn : ls.length ≤ 1048576) : CallOk Tryz.prog 62 [.agg [slJt js], slLd ls, t.av, vi k] (fun r => r = .tup [vi (plN js ls t k), vi (plD js ls t k), vb (placB js ls t k)]) := by
  have h1 := implMomentsAt_ok js ls t k hj hn
  have h2 := implIsInside_ok js ls t k hj hn
  have hb := moments_bd js ls t k
  have g1 := commonDivisor_ok [mI js ls t k, mO js ls t k - mI js ls t k] (by simp) (by simp; omega)
  rw [plG_list] at g1
  unfold plN plD
  refine callOk Tryz.func62 Tryz.ntmps62 Tryz.results62 rfl rfl rfl fun B w0 M I0 V0 => ?_
  cases e1 : insB js ls t k
  · rw [e1] at h2
    have e : placB js ls t k = false := by simp [placB, e1]
    rw [e]
    (repeat (first | refine WL_nil ?_ | (apply wl0 (hd := rfl); (first | exact qv9 | exact q_callA (h2)); (exact gy0)) | (apply wlb (hd := rfl); exact qbx; (exact gy0); rfl) | refine wln ⟨_, rfl, rfl⟩ rfl ?_ | refine wlnu ⟨_, rfl, rfl⟩ rfl ?_ | refine wst rfl rfl rfl List.not_mem_nil rfl rfl rfl rfl rfl rfl ?_ | refine W_condT rfl ?_ | refine W_condF rfl ?_ | refine W_region ?_ | refine wN rfl ?_))
    refine Exists.intro _ ⟨Weak.refl _, Exists.intro _ ⟨resA_tmp rfl (resA_tmp rfl (resA_tmp rfl rfl)), ?_, rfl⟩⟩
    rfl
  · rw [e1] at h2
    by_cases z1 : mI js ls t k = 0
    · have c1 : abin .eql .i64 (mI js ls t k) 0 = some (.bool true) := by simp [abin, z1]
      by_cases z2 : mO js ls t k = 0
      · have c2 : abin .eql .i64 (mO js ls t k) 0 = some (.bool true) := by simp [abin, z2]
        have e : placB js ls t k = false := by simp [placB, z1, z2]
        rw [e]
        (repeat (first | refine WL_nil ?_ | (apply wl0 (hd := rfl); (first | exact QV_bin rfl rfl c1 | exact QV_bin rfl rfl c2 | exact qv9 | exact q_callA (h1) | exact q_callA (h2)); (exact gy0)) | (apply wlb (hd := rfl); exact qbx; (exact gy0); rfl) | refine wln ⟨_, rfl, rfl⟩ rfl ?_ | refine wlnu ⟨_, rfl, rfl⟩ rfl ?_ | refine wst rfl rfl rfl List.not_mem_nil rfl rfl rfl rfl rfl rfl ?_ | refine W_condT rfl ?_ | refine W_condF rfl ?_ | refine W_region ?_ | refine wN rfl ?_))
        refine Exists.intro _ ⟨Weak.refl _, Exists.intro _ ⟨resA_tmp rfl (resA_tmp rfl (resA_tmp rfl rfl)), ?_, rfl⟩⟩
        rfl
      · have c2 : abin .eql .i64 (mO js ls t k) 0 = some (.bool false) := by simp [abin, z2]
        have e : placB js ls t k = true := by simp [placB, e1, z2]
        have hg := plG_ne (js := js) (ls := ls) (t := t) (k := k) (by omega)
        rw [e]
        (repeat (first | refine WL_nil ?_ | (apply wl0 (hd := rfl); (first | exact QV_bin rfl rfl c1 | exact QV_bin rfl rfl c2 | exact qv9 | exact q_callA (h1) | exact q_callA (h2) | exact q_callA (g1)); (exact gy0)) | (apply wlb (hd := rfl); exact qbx; (exact gy0); rfl) | refine wln ⟨_, rfl, rfl⟩ rfl ?_ | refine wlnu ⟨_, rfl, rfl⟩ rfl ?_ | (apply wln1 (hd := rfl); exact q_buildSlice 38 rfl rfl rfl rfl; (exact gy0); rfl) | refine wst rfl rfl rfl List.not_mem_nil rfl rfl rfl rfl rfl rfl ?_ | refine W_condT rfl ?_ | refine W_condF rfl ?_ | refine W_region ?_ | refine wN rfl ?_))
        refine wdraw 12 (by kernel_rfl) (by kernel_rfl) (by kernel_rfl) rfl ?_
        (repeat (first | refine HW_nil ?_ | (apply hw0 (hd := rfl); (first | exact qv9 | exact QV_div rfl rfl hg rfl); (exact gy0)) | (apply hwb (hd := rfl); exact qbx; (exact gy0); rfl) | refine hwn ⟨_, rfl, rfl⟩ rfl ?_ | refine hwnu ⟨_, rfl, rfl⟩ rfl ?_))
        (repeat (first | refine WL_nil ?_ | (apply wl0 (hd := rfl); (first | exact qv9); (exact gy0)) | (apply wlb (hd := rfl); exact qbx; (exact gy0); rfl) | refine wln ⟨_, rfl, rfl⟩ rfl ?_ | refine wlnu ⟨_, rfl, rfl⟩ rfl ?_ | refine wst rfl rfl rfl List.not_mem_nil rfl rfl rfl rfl rfl rfl ?_ | refine W_condT rfl ?_ | refine W_condF rfl ?_ | refine W_region ?_ | refine wN rfl ?_))
        refine Exists.intro _ ⟨Weak.refl _, Exists.intro _ ⟨resA_tmp rfl (resA_tmp rfl (resA_tmp rfl rfl)), ?_, rfl⟩⟩
        rfl
    · have c1 : abin .eql .i64 (mI js ls t k) 0 = some (.bool false) := by simp [abin, z1]
      have e : placB js ls t k = true := by simp [placB, e1, z1]
      have hg := plG_ne (js := js) (ls := ls) (t := t) (k := k) (by omega)
      rw [e]
      (repeat (first | refine WL_nil ?_ | (apply wl0 (hd := rfl); (first | exact QV_bin rfl rfl c1 | exact qv9 | exact q_callA (h1) | exact q_callA (h2) | exact q_callA (g1)); (exact gy0)) | (apply wlb (hd := rfl); exact qbx; (exact gy0); rfl) | refine wln ⟨_, rfl, rfl⟩ rfl ?_ | refine wlnu ⟨_, rfl, rfl⟩ rfl ?_ | (apply wln1 (hd := rfl); exact q_buildSlice 38 rfl rfl rfl rfl; (exact gy0); rfl) | refine wst rfl rfl rfl List.not_mem_nil rfl rfl rfl rfl rfl rfl ?_ | refine W_condT rfl ?_ | refine W_condF rfl ?_ | refine W_region ?_ | refine wN rfl ?_))
      refine wdraw 12 (by kernel_rfl) (by kernel_rfl) (by kernel_rfl) rfl ?_
      (repeat (first | refine HW_nil ?_ | (apply hw0 (hd := rfl); (first | exact qv9 | exact QV_div rfl rfl hg rfl); (exact gy0)) | (apply hwb (hd := rfl); exact qbx; (exact gy0); rfl) | refine hwn ⟨_, rfl, rfl⟩ rfl ?_ | refine hwnu ⟨_, rfl, rfl⟩ rfl ?_))
      (repeat (first | refine WL_nil ?_ | (apply wl0 (hd := rfl); (first | exact qv9); (exact gy0)) | (apply wlb (hd := rfl); exact qbx; (exact gy0); rfl) | refine wln ⟨_, rfl, rfl⟩ rfl ?_ | refine wlnu ⟨_, rfl, rfl⟩ rfl ?_ | refine wst rfl rfl rfl List.not_mem_nil rfl rfl rfl rfl rfl rfl ?_ | refine W_condT rfl ?_ | refine W_condF rfl ?_ | refine W_region ?_ | refine wN rfl ?_))
      refine Exists.intro _ ⟨Weak.refl _, Exists.intro _ ⟨resA_tmp rfl (resA_tmp rfl (resA_tmp rfl rfl)), ?_, rfl⟩⟩
      rfl
end Go.Proofs.YtkieepmkcaipaaaGreat

namespace Go.Proofs.YtkieepmkcaipaaaGreat
open Go.Eng
set_option maxRecDepth 100000
attribute [local irreducible] QV TV WL HW W CallOk Weak

def jstB (t : Th) (r : Rw) : Bool := thOk t && (rowB r && decide (lhs t r = rhs t r))
theorem implIsJustMet_ok (t : Th) (r : Rw) : CallOk Tryz.prog 150 [t.av, r.av] (fun x => x = vb (jstB t r)) := by
  have h1 := implThrustOk_ok t
  have h2 := implRowOk_ok r
  have h3 := sides_ok t r
  refine callOk Tryz.func150 Tryz.ntmps150 Tryz.results150 rfl rfl rfl fun B w0 M I0 V0 => ?_
  cases e1 : thOk t
  · rw [e1] at h1
    (repeat (first | refine WL_nil ?_ | (apply wl0 (hd := rfl); (first | exact qv9 | exact q_callA (h1)); (exact gy0)) | (apply wlb (hd := rfl); exact qbx; (exact gy0); rfl) | refine wln ⟨_, rfl, rfl⟩ rfl ?_ | refine wlnu ⟨_, rfl, rfl⟩ rfl ?_ | refine wst rfl rfl rfl List.not_mem_nil rfl rfl rfl rfl rfl rfl ?_ | refine W_condT rfl ?_ | refine W_condF rfl ?_ | refine W_region ?_ | refine wN rfl ?_))
    refine Exists.intro _ ⟨Weak.refl _, Exists.intro _ ⟨resA_tmp rfl rfl, ?_, rfl⟩⟩
    exact vb_eq (by simp [jstB, e1])
  · rw [e1] at h1
    cases e2 : rowB r
    · rw [e2] at h2
      (repeat (first | refine WL_nil ?_ | (apply wl0 (hd := rfl); (first | exact qv9 | exact q_callA (h1) | exact q_callA (h2)); (exact gy0)) | (apply wlb (hd := rfl); exact qbx; (exact gy0); rfl) | refine wln ⟨_, rfl, rfl⟩ rfl ?_ | refine wlnu ⟨_, rfl, rfl⟩ rfl ?_ | refine wst rfl rfl rfl List.not_mem_nil rfl rfl rfl rfl rfl rfl ?_ | refine W_condT rfl ?_ | refine W_condF rfl ?_ | refine W_region ?_ | refine wN rfl ?_))
      refine Exists.intro _ ⟨Weak.refl _, Exists.intro _ ⟨resA_tmp rfl rfl, ?_, rfl⟩⟩
      exact vb_eq (by simp [jstB, e2])
    · rw [e2] at h2
      (repeat (first | refine WL_nil ?_ | (apply wl0 (hd := rfl); (first | exact qv9 | exact q_callA (h1) | exact q_callA (h2) | exact q_callA (h3)); (exact gy0)) | (apply wlb (hd := rfl); exact qbx; (exact gy0); rfl) | refine wln ⟨_, rfl, rfl⟩ rfl ?_ | refine wlnu ⟨_, rfl, rfl⟩ rfl ?_ | refine wst rfl rfl rfl List.not_mem_nil rfl rfl rfl rfl rfl rfl ?_ | refine W_condT rfl ?_ | refine W_condF rfl ?_ | refine W_region ?_ | refine wN rfl ?_))
      refine Exists.intro _ ⟨Weak.refl _, Exists.intro _ ⟨resA_tmp rfl rfl, ?_, rfl⟩⟩
      exact vb_eq (by simp [jstB, e1, e2]; rfl)
def jstL (t : Th) (l : List Rw) : Nat → List Int
  | 0 => []
  | k + 1 => bif jstB t (wat l k) then jstL t l k ++ [(k : Int)] else jstL t l k
theorem jstL_len (t : Th) (l : List Rw) : ∀ k, (jstL t l k).length ≤ k
  | 0 => Nat.le_refl _
  | k + 1 => by
    have := jstL_len t l k
    simp only [jstL]
    cases jstB t (wat l k) <;> simp <;> omega
theorem j_app {l : List Int} {n : Int} : l.map iRow ++ [[vi n]] = (l ++ [n]).map iRow := by simp
theorem implJustMetBy_ok (t : Th) (l : List Rw) (hn : l.length ≤ 1048576) : CallOk Tryz.prog 102 [t.av, slRw l] (fun x => x = slI (jstL t l l.length)) := by
  refine callOk_dat (X := .own 5 3 1 ((jstL t l l.length).map iRow)) ?_ rfl
  refine callOk Tryz.func102 Tryz.ntmps102 Tryz.results102 rfl rfl rfl fun B w0 M I0 V0 => ?_
  (repeat (first | refine WL_nil ?_ | (apply wl0 (hd := rfl); (first | exact qv9); (exact gy0)) | (apply wlb (hd := rfl); exact qbx; (exact gy0); rfl) | refine wln ⟨_, rfl, rfl⟩ rfl ?_ | refine wlnu ⟨_, rfl, rfl⟩ rfl ?_ | refine wst rfl rfl rfl List.not_mem_nil rfl rfl rfl rfl rfl rfl ?_ | refine W_condT rfl ?_ | refine W_condF rfl ?_ | refine W_region ?_ | refine wN rfl ?_))
  refine W_loop (fun n s => ∃ k : Nat, k ≤ l.length ∧ n = l.length - k ∧ s = ⟨[(2, .ptr 2 0), (5, .own 5 3 1 ((jstL t l k).map iRow)), (8, slRw l), (9, vi l.length), (10, vi k)], [(2, t.row)], [5]⟩) ⟨_, _, ⟨0, by omega, rfl, rfl⟩, wkO⟩ ?_
  rintro n s ⟨k, hk, rfl, rfl⟩
  by_cases hlt : k < l.length
  · have c1 : abin .lss .i64 (k : Int) (l.length : Int) = some (.bool true) := by simp [abin]; omega
    have hp := wat_lt hlt
    have h1 := implIsJustMet_ok t (wat l k)
    have hlen := jstL_len t l k
    cases z : jstB t (wat l k)
    · rw [z] at h1
      (repeat (first | refine WL_nil ?_ | (apply wl0 (hd := rfl); (first | exact QV_bin rfl rfl c1 | exact qv9 | exact q_callA (h1) | exact QV_indexAddr rfl rfl rfl rfl (row_at hp)); (exact gy0)) | (apply wlb (hd := rfl); exact qbx; (exact gy0); rfl) | refine wln ⟨_, rfl, rfl⟩ rfl ?_ | refine wlnu ⟨_, rfl, rfl⟩ rfl ?_ | refine wst rfl rfl rfl List.not_mem_nil rfl rfl rfl rfl rfl rfl ?_ | refine W_condT rfl ?_ | refine W_condF rfl ?_ | refine W_region ?_ | refine wN rfl ?_))
      rw [← (show jstL t l (k + 1) = jstL t l k by simp [jstL, z])]
      refine Exists.intro _ (Exists.intro _ ⟨?_, ⟨k + 1, by omega, rfl, rfl⟩, wkA⟩)
      omega
    · rw [z] at h1
      have ha : ((jstL t l k).map iRow).length + [[vi (k : Int)]].length ≤ 1048576 := by simp; omega
      (repeat (first | refine WL_nil ?_ | (apply wl0 (hd := rfl); (first | exact QV_bin rfl rfl c1 | exact qv9 | exact q_callA (h1) | exact QV_indexAddr rfl rfl rfl rfl (row_at hp)); (exact gy0)) | (apply wlb (hd := rfl); exact qbx; (exact gy0); rfl) | refine wln ⟨_, rfl, rfl⟩ rfl ?_ | refine wlnu ⟨_, rfl, rfl⟩ rfl ?_ | (apply wln1 (hd := rfl); exact q_buildSlice 20 rfl rfl rfl rfl; (exact gy0); rfl) | refine wst rfl rfl rfl List.not_mem_nil rfl rfl rfl rfl rfl rfl ?_ | refine wappE rfl rfl rfl (one_cell _) (one_len _) ha rfl rfl j_app rfl rfl ?_ | refine W_condT rfl ?_ | refine W_condF rfl ?_ | refine W_region ?_ | refine wN rfl ?_))
      rw [← (show jstL t l (k + 1) = jstL t l k ++ [(k : Int)] by simp [jstL, z])]
      refine Exists.intro _ (Exists.intro _ ⟨?_, ⟨k + 1, by omega, rfl, rfl⟩, wkA⟩)
      omega
  · have c1 : abin .lss .i64 (k : Int) (l.length : Int) = some (.bool false) := by simp [abin]; omega
    have hk' : k = l.length := by omega
    subst hk'
    (repeat (first | refine WL_nil ?_ | (apply wl0 (hd := rfl); (first | exact QV_bin rfl rfl c1 | exact qv9); (exact gy0)) | (apply wlb (hd := rfl); exact qbx; (exact gy0); rfl) | refine wln ⟨_, rfl, rfl⟩ rfl ?_ | refine wlnu ⟨_, rfl, rfl⟩ rfl ?_ | refine wst rfl rfl rfl List.not_mem_nil rfl rfl rfl rfl rfl rfl ?_ | refine W_condT rfl ?_ | refine W_condF rfl ?_ | refine W_region ?_ | refine wN rfl ?_))
    refine Exists.intro _ ⟨Weak.refl _, Exists.intro _ ⟨resA_tmp rfl rfl, ?_, rfl⟩⟩
    rfl
def mixW (a b : Th) : Th := ⟨W64 (W64 (a.h * b.d) + W64 (b.h * a.d)), W64 (W64 (a.v * b.d) + W64 (b.v * a.d)), W64 (W64 (a.m * b.d) + W64 (b.m * a.d)), W64 (W64 (2 * a.d) * b.d)⟩
def mixO (a b : Th) : Option Th := bif thOk a && (thOk b && (decide (a.d ≤ 1000) && decide (b.d ≤ 1000))) then mkT (mixW a b) else none
theorem implMixThrusts_ok (a b : Th) : CallOk Tryz.prog 100 [a.av, b.av] (fun x => x = thO (mixO a b)) := by
  have h1 := implThrustOk_ok a
  have h2 := implThrustOk_ok b
  have h3 := implMakeThrust_ok (mixW a b)
  refine callOk Tryz.func100 Tryz.ntmps100 Tryz.results100 rfl rfl rfl fun B w0 M I0 V0 => ?_
  cases e1 : thOk a
  · rw [e1] at h1
    (repeat (first | refine WL_nil ?_ | (apply wl0 (hd := rfl); (first | exact qv9 | exact q_callA (h1)); (exact gy0)) | (apply wlb (hd := rfl); exact qbx; (exact gy0); rfl) | refine wln ⟨_, rfl, rfl⟩ rfl ?_ | refine wlnu ⟨_, rfl, rfl⟩ rfl ?_ | refine wst rfl rfl rfl List.not_mem_nil rfl rfl rfl rfl rfl rfl ?_ | refine W_condT rfl ?_ | refine W_condF rfl ?_ | refine W_region ?_ | refine wN rfl ?_))
    refine Exists.intro _ ⟨Weak.refl _, Exists.intro _ ⟨resA_cell rfl rfl rfl (resA_tmp rfl rfl), ?_, rfl⟩⟩
    rw [show mixO a b = none by simp [mixO, e1]]
    rfl
  · rw [e1] at h1
    cases e2 : thOk b
    · rw [e2] at h2
      (repeat (first | refine WL_nil ?_ | (apply wl0 (hd := rfl); (first | exact qv9 | exact q_callA (h1) | exact q_callA (h2)); (exact gy0)) | (apply wlb (hd := rfl); exact qbx; (exact gy0); rfl) | refine wln ⟨_, rfl, rfl⟩ rfl ?_ | refine wlnu ⟨_, rfl, rfl⟩ rfl ?_ | refine wst rfl rfl rfl List.not_mem_nil rfl rfl rfl rfl rfl rfl ?_ | refine W_condT rfl ?_ | refine W_condF rfl ?_ | refine W_region ?_ | refine wN rfl ?_))
      refine Exists.intro _ ⟨Weak.refl _, Exists.intro _ ⟨resA_cell rfl rfl rfl (resA_tmp rfl rfl), ?_, rfl⟩⟩
      rw [show mixO a b = none by simp [mixO, e2]]
      rfl
    · rw [e2] at h2
      by_cases d1 : a.d ≤ 1000
      · have c1 : abin .gtr .i64 a.d 1000 = some (.bool false) := by simp [abin]; omega
        by_cases d2 : b.d ≤ 1000
        · have c2 : abin .gtr .i64 b.d 1000 = some (.bool false) := by simp [abin]; omega
          rw [show mixO a b = mkT (mixW a b) by simp [mixO, e1, e2, d1, d2]]
          cases e : mkT (mixW a b) with
          | none =>
            rw [e, thO_none] at h3
            (repeat (first | refine WL_nil ?_ | (apply wl0 (hd := rfl); (first | exact QV_bin rfl rfl c1 | exact QV_bin rfl rfl c2 | exact qv9 | exact q_callA (h1) | exact q_callA (h2) | exact q_callA (h3)); (exact gy0)) | (apply wlb (hd := rfl); exact qbx; (exact gy0); rfl) | refine wln ⟨_, rfl, rfl⟩ rfl ?_ | refine wlnu ⟨_, rfl, rfl⟩ rfl ?_ | refine wst rfl rfl rfl List.not_mem_nil rfl rfl rfl rfl rfl rfl ?_ | refine W_condT rfl ?_ | refine W_condF rfl ?_ | refine W_region ?_ | refine wN rfl ?_))
            refine Exists.intro _ ⟨Weak.refl _, Exists.intro _ ⟨resA_cell rfl rfl rfl (resA_tmp rfl rfl), ?_, rfl⟩⟩
            rfl
          | some t =>
            rw [e, thO_some] at h3
            (repeat (first | refine WL_nil ?_ | (apply wl0 (hd := rfl); (first | exact QV_bin rfl rfl c1 | exact QV_bin rfl rfl c2 | exact qv9 | exact q_callA (h1) | exact q_callA (h2) | exact q_callA (h3)); (exact gy0)) | (apply wlb (hd := rfl); exact qbx; (exact gy0); rfl) | refine wln ⟨_, rfl, rfl⟩ rfl ?_ | refine wlnu ⟨_, rfl, rfl⟩ rfl ?_ | refine wst rfl rfl rfl List.not_mem_nil rfl rfl rfl rfl rfl rfl ?_ | refine W_condT rfl ?_ | refine W_condF rfl ?_ | refine W_region ?_ | refine wN rfl ?_))
            refine Exists.intro _ ⟨Weak.refl _, Exists.intro _ ⟨resA_cell rfl rfl rfl (resA_tmp rfl rfl), ?_, rfl⟩⟩
            rfl
        · have c2 : abin .gtr .i64 b.d 1000 = some (.bool true) := by simp [abin]; omega
          (repeat (first | refine WL_nil ?_ | (apply wl0 (hd := rfl); (first | exact QV_bin rfl rfl c1 | exact QV_bin rfl rfl c2 | exact qv9 | exact q_callA (h1) | exact q_callA (h2)); (exact gy0)) | (apply wlb (hd := rfl); exact qbx; (exact gy0); rfl) | refine wln ⟨_, rfl, rfl⟩ rfl ?_ | refine wlnu ⟨_, rfl, rfl⟩ rfl ?_ | refine wst rfl rfl rfl List.not_mem_nil rfl rfl rfl rfl rfl rfl ?_ | refine W_condT rfl ?_ | refine W_condF rfl ?_ | refine W_region ?_ | refine wN rfl ?_))
          refine Exists.intro _ ⟨Weak.refl _, Exists.intro _ ⟨resA_cell rfl rfl rfl (resA_tmp rfl rfl), ?_, rfl⟩⟩
          rw [show mixO a b = none by simp [mixO, d2]]
          rfl
      · have c1 : abin .gtr .i64 a.d 1000 = some (.bool true) := by simp [abin]; omega
        (repeat (first | refine WL_nil ?_ | (apply wl0 (hd := rfl); (first | exact QV_bin rfl rfl c1 | exact qv9 | exact q_callA (h1) | exact q_callA (h2)); (exact gy0)) | (apply wlb (hd := rfl); exact qbx; (exact gy0); rfl) | refine wln ⟨_, rfl, rfl⟩ rfl ?_ | refine wlnu ⟨_, rfl, rfl⟩ rfl ?_ | refine wst rfl rfl rfl List.not_mem_nil rfl rfl rfl rfl rfl rfl ?_ | refine W_condT rfl ?_ | refine W_condF rfl ?_ | refine W_region ?_ | refine wN rfl ?_))
        refine Exists.intro _ ⟨Weak.refl _, Exists.intro _ ⟨resA_cell rfl rfl rfl (resA_tmp rfl rfl), ?_, rfl⟩⟩
        rw [show mixO a b = none by simp [mixO, d1]]
        rfl
end Go.Proofs.YtkieepmkcaipaaaGreat

namespace Go.Proofs.YtkieepmkcaipaaaGreat
open Go.Eng
set_option maxRecDepth 100000
attribute [local irreducible] QV TV WL HW W CallOk Weak

end Go.Proofs.YtkieepmkcaipaaaGreat

namespace Go.Proofs.YtkieepmkcaipaaaGreat
open Go.Eng
set_option maxRecDepth 100000
attribute [local irreducible] QV TV WL HW W CallOk Weak

def brkN (t : Th) (l : List Rw) : Nat → Int
  | 0 => 0
  | k + 1 => bif rowB (wat l k) && !(fulB t (wat l k)) then brkN t l k + 1 else brkN t l k
theorem brkN_bd (t : Th) (l : List Rw) : ∀ k : Nat, 0 ≤ brkN t l k ∧ brkN t l k ≤ k
  | 0 => by simp [brkN]
  | k + 1 => by
    have := brkN_bd t l k
    simp only [brkN]
    cases rowB (wat l k) && !(fulB t (wat l k)) <;> simp <;> omega
theorem countBroken_ok (t : Th) (l : List Rw) (ht : thOk t = true) (hn : l.length ≤ 1048576) : CallOk Tryz.prog 65 [t.av, slRw l] (fun r => r = vi (brkN t l l.length)) := by
  have h1 := implThrustOk_ok t
  rw [ht] at h1
  refine callOk Tryz.func65 Tryz.ntmps65 Tryz.results65 rfl rfl rfl fun B w0 M I0 V0 => ?_
  (repeat (first | refine WL_nil ?_ | (apply wl0 (hd := rfl); (first | exact qv9 | exact q_callA (h1)); (exact gy0)) | (apply wlb (hd := rfl); exact qbx; (exact gy0); rfl) | refine wln ⟨_, rfl, rfl⟩ rfl ?_ | refine wlnu ⟨_, rfl, rfl⟩ rfl ?_ | refine wst rfl rfl rfl List.not_mem_nil rfl rfl rfl rfl rfl rfl ?_ | refine W_condT rfl ?_ | refine W_condF rfl ?_ | refine W_region ?_ | refine wN rfl ?_))
  refine W_loop (fun n s => ∃ k : Nat, k ≤ l.length ∧ n = l.length - k ∧ s = ⟨[(2, .ptr 2 0), (5, vi (brkN t l k)), (11, slRw l), (12, vi l.length), (13, vi k)], [(2, t.row)], []⟩) ⟨_, _, ⟨0, by omega, rfl, rfl⟩, wkA⟩ ?_
  rintro n s ⟨k, hk, rfl, rfl⟩
  by_cases hlt : k < l.length
  · have c1 : abin .lss .i64 (k : Int) (l.length : Int) = some (.bool true) := by simp [abin]; omega
    have hp := wat_lt hlt
    have hb := brkN_bd t l k
    have h2 := implRowOk_ok (wat l k)
    have h3 := implFulfills_ok t (wat l k)
    cases e1 : rowB (wat l k)
    · rw [e1] at h2
      (repeat (first | refine WL_nil ?_ | (apply wl0 (hd := rfl); (first | exact QV_bin rfl rfl c1 | exact qv9 | exact QV_indexAddr rfl rfl rfl rfl (row_at hp) | exact q_callA (h2)); (exact gy0)) | (apply wlb (hd := rfl); exact qbx; (exact gy0); rfl) | refine wln ⟨_, rfl, rfl⟩ rfl ?_ | refine wlnu ⟨_, rfl, rfl⟩ rfl ?_ | refine wst rfl rfl rfl List.not_mem_nil rfl rfl rfl rfl rfl rfl ?_ | refine W_condT rfl ?_ | refine W_condF rfl ?_ | refine W_region ?_ | refine wN rfl ?_))
      rw [← (show brkN t l (k + 1) = brkN t l k by simp [brkN, e1])]
      refine Exists.intro _ (Exists.intro _ ⟨?_, ⟨k + 1, by omega, rfl, rfl⟩, wkA⟩)
      omega
    · rw [e1] at h2
      cases e2 : fulB t (wat l k)
      · rw [e2] at h3
        have a1 : abin .add .i64 (brkN t l k) 1 = some (.int .i64 (brkN t l k + 1)) := by simp only [abin]; rw [i64w (by omega)]
        (repeat (first | refine WL_nil ?_ | (apply wl0 (hd := rfl); (first | exact QV_bin rfl rfl c1 | exact QV_bin rfl rfl a1 | exact qv9 | exact QV_indexAddr rfl rfl rfl rfl (row_at hp) | exact q_callA (h2) | exact q_callA (h3)); (exact gy0)) | (apply wlb (hd := rfl); exact qbx; (exact gy0); rfl) | refine wln ⟨_, rfl, rfl⟩ rfl ?_ | refine wlnu ⟨_, rfl, rfl⟩ rfl ?_ | refine wst rfl rfl rfl List.not_mem_nil rfl rfl rfl rfl rfl rfl ?_ | refine W_condT rfl ?_ | refine W_condF rfl ?_ | refine W_region ?_ | refine wN rfl ?_))
        rw [← (show brkN t l (k + 1) = brkN t l k + 1 by simp [brkN, e1, e2])]
        refine Exists.intro _ (Exists.intro _ ⟨?_, ⟨k + 1, by omega, rfl, rfl⟩, wkA⟩)
        omega
      · rw [e2] at h3
        (repeat (first | refine WL_nil ?_ | (apply wl0 (hd := rfl); (first | exact QV_bin rfl rfl c1 | exact qv9 | exact QV_indexAddr rfl rfl rfl rfl (row_at hp) | exact q_callA (h2) | exact q_callA (h3)); (exact gy0)) | (apply wlb (hd := rfl); exact qbx; (exact gy0); rfl) | refine wln ⟨_, rfl, rfl⟩ rfl ?_ | refine wlnu ⟨_, rfl, rfl⟩ rfl ?_ | refine wst rfl rfl rfl List.not_mem_nil rfl rfl rfl rfl rfl rfl ?_ | refine W_condT rfl ?_ | refine W_condF rfl ?_ | refine W_region ?_ | refine wN rfl ?_))
        rw [← (show brkN t l (k + 1) = brkN t l k by simp [brkN, e1, e2])]
        refine Exists.intro _ (Exists.intro _ ⟨?_, ⟨k + 1, by omega, rfl, rfl⟩, wkA⟩)
        omega
  · have c1 : abin .lss .i64 (k : Int) (l.length : Int) = some (.bool false) := by simp [abin]; omega
    have hk' : k = l.length := by omega
    subst hk'
    (repeat (first | refine WL_nil ?_ | (apply wl0 (hd := rfl); (first | exact QV_bin rfl rfl c1 | exact qv9); (exact gy0)) | (apply wlb (hd := rfl); exact qbx; (exact gy0); rfl) | refine wln ⟨_, rfl, rfl⟩ rfl ?_ | refine wlnu ⟨_, rfl, rfl⟩ rfl ?_ | refine wst rfl rfl rfl List.not_mem_nil rfl rfl rfl rfl rfl rfl ?_ | refine W_condT rfl ?_ | refine W_condF rfl ?_ | refine W_region ?_ | refine wN rfl ?_))
    refine Exists.intro _ ⟨Weak.refl _, Exists.intro _ ⟨resA_tmp rfl rfl, ?_, rfl⟩⟩
    rfl
theorem brk_all (t : Th) (l : List Rw) (hok : l.all rowB = true) : (brkN t l l.length = 0) ↔ l.all (fulB t) = true := by
  have key : ∀ k, k ≤ l.length → ((brkN t l k = 0) ↔ (l.take k).all (fulB t) = true) := by
    intro k
    induction k with
    | zero => intro _; simp [brkN]
    | succ k ih =>
      intro hk
      have hp := wat_lt (show k < l.length by omega)
      have hr : rowB (wat l k) = true := List.all_eq_true.1 hok _ (List.mem_of_getElem? hp)
      have hb := brkN_bd t l k
      have ih := ih (by omega)
      rw [all_take_succ hp]
      simp only [brkN, hr, Bool.true_and, Bool.and_eq_true, ← ih]
      cases fulB t (wat l k) <;> simp <;> omega
  have := key l.length (Nat.le_refl _)
  rwa [List.take_length] at this
end Go.Proofs.YtkieepmkcaipaaaGreat

namespace Go.Proofs.YtkieepmkcaipaaaGreat
open Go.Eng
set_option maxRecDepth 100000
attribute [local irreducible] QV TV WL HW W CallOk Weak

theorem l01BelowL_det (l : List Int) (hl : Bts l) (n : Int) (hn0 : 256 < n) (hn : n ≤ 10000) (i : Nat) (h : Int) : DrawsD 115 [.ptr 1000000 0, vi n] l i h n := by
  have c1 : abin .leq .i64 n 0 = some (.bool false) := by simp [abin]; omega
  have c2 : abin .leq .i64 n 256 = some (.bool false) := by simp [abin]; omega
  have hne : n ≠ 0 := by omega
  obtain ⟨x, i1, h1, x0, x1, cx⟩ := l01Byte_det l hl i h
  obtain ⟨y, i2, h2, y0, y1, cy⟩ := l01Byte_det l hl i1 h1
  obtain ⟨z, i3, h3, z0, z1, cz⟩ := l01Byte_det l hl i2 h2
  obtain ⟨u, i4, h4, u0, u1, cu⟩ := l01Byte_det l hl i3 h3
  have hr : adv .rem .i64 (x * 16777216 + y * 65536 + z * 256 + u) n = some (.int .i64 ((x * 16777216 + y * 65536 + z * 256 + u).tmod n)) := rfl
  refine ⟨(x * 16777216 + y * 65536 + z * 256 + u).tmod n, i4, h4, Int.tmod_nonneg _ (by omega), Int.tmod_lt_of_pos _ (by omega), ?_⟩
  refine callPtr Tryz.func115 Tryz.ntmps115 Tryz.results115 rfl rfl rfl fun B w0 b T I0 V0 => ?_
  (repeat (first | refine WL_nil ?_ | (apply wl0 (hd := rfl); (first | exact QV_bin rfl rfl c1 | exact QV_bin rfl rfl c2 | exact qv9); (exact gy0)) | (apply wlb (hd := rfl); exact qbx; (exact gy0); rfl) | refine wln ⟨_, rfl, rfl⟩ rfl ?_ | refine wlnu ⟨_, rfl, rfl⟩ rfl ?_ | refine wst rfl rfl rfl List.not_mem_nil rfl rfl rfl rfl rfl rfl ?_ | refine W_condT rfl ?_ | refine W_condF rfl ?_ | refine W_region ?_ | refine wN rfl ?_))
  refine wlptr 0 [] cx rfl (by repeat' (first | exact PtA.nil | refine PtA.ptr ?_ | refine PtA.v ?_)) rfl rfl List.not_mem_nil (fun r cs ⟨hr, hc⟩ => by subst hr; subst hc; exact ⟨rfl, rfl⟩) rfl rfl (fun r cs hR => ?_)
  obtain ⟨rfl, rfl⟩ := hR
  (repeat (first | refine WL_nil ?_ | (apply wl0 (hd := rfl); (first | exact qv9); (exact gy0)) | (apply wlb (hd := rfl); exact qbx; (exact gy0); rfl) | refine wln ⟨_, rfl, rfl⟩ rfl ?_ | refine wlnu ⟨_, rfl, rfl⟩ rfl ?_ | refine wst rfl rfl rfl List.not_mem_nil rfl rfl rfl rfl rfl rfl ?_ | refine W_condT rfl ?_ | refine W_condF rfl ?_ | refine W_region ?_ | refine wN rfl ?_))
  refine wlptr 0 [] cy rfl (by repeat' (first | exact PtA.nil | refine PtA.ptr ?_ | refine PtA.v ?_)) rfl rfl List.not_mem_nil (fun r cs ⟨hr, hc⟩ => by subst hr; subst hc; exact ⟨rfl, rfl⟩) rfl rfl (fun r cs hR => ?_)
  obtain ⟨rfl, rfl⟩ := hR
  (repeat (first | refine WL_nil ?_ | (apply wl0 (hd := rfl); (first | exact qv9); (exact gy0)) | (apply wlb (hd := rfl); exact qbx; (exact gy0); rfl) | refine wln ⟨_, rfl, rfl⟩ rfl ?_ | refine wlnu ⟨_, rfl, rfl⟩ rfl ?_ | refine wst rfl rfl rfl List.not_mem_nil rfl rfl rfl rfl rfl rfl ?_ | refine W_condT rfl ?_ | refine W_condF rfl ?_ | refine W_region ?_ | refine wN rfl ?_))
  refine wlptr 0 [] cz rfl (by repeat' (first | exact PtA.nil | refine PtA.ptr ?_ | refine PtA.v ?_)) rfl rfl List.not_mem_nil (fun r cs ⟨hr, hc⟩ => by subst hr; subst hc; exact ⟨rfl, rfl⟩) rfl rfl (fun r cs hR => ?_)
  obtain ⟨rfl, rfl⟩ := hR
  (repeat (first | refine WL_nil ?_ | (apply wl0 (hd := rfl); (first | exact qv9); (exact gy0)) | (apply wlb (hd := rfl); exact qbx; (exact gy0); rfl) | refine wln ⟨_, rfl, rfl⟩ rfl ?_ | refine wlnu ⟨_, rfl, rfl⟩ rfl ?_ | refine wst rfl rfl rfl List.not_mem_nil rfl rfl rfl rfl rfl rfl ?_ | refine W_condT rfl ?_ | refine W_condF rfl ?_ | refine W_region ?_ | refine wN rfl ?_))
  refine wlptr 0 [] cu rfl (by repeat' (first | exact PtA.nil | refine PtA.ptr ?_ | refine PtA.v ?_)) rfl rfl List.not_mem_nil (fun r cs ⟨hr, hc⟩ => by subst hr; subst hc; exact ⟨rfl, rfl⟩) rfl rfl (fun r cs hR => ?_)
  obtain ⟨rfl, rfl⟩ := hR
  (repeat (first | refine WL_nil ?_ | (apply wl0 (hd := rfl); (first | exact qv9 | exact QV_div rfl rfl hne hr); (exact gy0)) | (apply wlb (hd := rfl); exact qbx; (exact gy0); rfl) | refine wln ⟨_, rfl, rfl⟩ rfl ?_ | refine wlnu ⟨_, rfl, rfl⟩ rfl ?_ | refine wst rfl rfl rfl List.not_mem_nil rfl rfl rfl rfl rfl rfl ?_ | refine W_condT rfl ?_ | refine W_condF rfl ?_ | refine W_region ?_ | refine wN rfl ?_))
  refine ptrEnd (Weak.refl _) (resA_tmp rfl rfl) rfl rfl rfl ?_
  exact ⟨rfl, rfl⟩
@[reducible] def ThruR (l : List Int) (t : Th) (i : Nat) (h : Int) (r : AV) (cs : List AV) : Prop := r = t.av ∧ cs = [slU l, vi i, vi h]
theorem l08Thrust_det (l : List Int) (hl : Bts l) (i : Nat) (h : Int) : ∃ (t : Th) (i1 : Nat) (h1 : Int), thOk t = true ∧ CallPtr Tryz.prog 104 [.ptr 1000000 0] [slU l, vi i, vi h] (ThruR l t i1 h1) := by
  obtain ⟨x1, i1, h1, a0, a1, c1⟩ := l01Below_det l hl 200 (by decide) (by decide) i h
  obtain ⟨x2, i2, h2, b0, b1, c2⟩ := l01BelowL_det l hl 400 (by decide) (by decide) i1 h1
  obtain ⟨x3, i3, h3, d0, d1, c3⟩ := l01BelowL_det l hl 2001 (by decide) (by decide) i2 h2
  obtain ⟨x4, i4, h4, e0, e1, c4⟩ := l01Below_det l hl 12 (by decide) (by decide) i3 h3
  have hm := makeThrust_ok ⟨x1, x2 - 50, x3 - 1000, 1 + x4⟩
  cases e : mkT ⟨x1, x2 - 50, x3 - 1000, 1 + x4⟩ with
  | none =>
    rw [e] at hm
    refine ⟨⟨1, 0, 0, 1⟩, i4, h4, by decide, ?_⟩
    refine callPtr Tryz.func104 Tryz.ntmps104 Tryz.results104 rfl rfl rfl fun B w0 b T I0 V0 => ?_
    (repeat (first | refine WL_nil ?_ | (apply wl0 (hd := rfl); (first | exact qv9); (exact gy0)) | (apply wlb (hd := rfl); exact qbx; (exact gy0); rfl) | refine wln ⟨_, rfl, rfl⟩ rfl ?_ | refine wlnu ⟨_, rfl, rfl⟩ rfl ?_ | refine wst rfl rfl rfl List.not_mem_nil rfl rfl rfl rfl rfl rfl ?_ | refine W_condT rfl ?_ | refine W_condF rfl ?_ | refine W_region ?_ | refine wN rfl ?_))
    refine wlptr 0 [] c1 rfl (by repeat' (first | exact PtA.nil | refine PtA.ptr ?_ | refine PtA.v ?_)) rfl rfl List.not_mem_nil (fun r cs ⟨hr, hc⟩ => by subst hr; subst hc; exact ⟨rfl, rfl⟩) rfl rfl (fun r cs hR => ?_)
    obtain ⟨rfl, rfl⟩ := hR
    (repeat (first | refine WL_nil ?_ | (apply wl0 (hd := rfl); (first | exact qv9); (exact gy0)) | (apply wlb (hd := rfl); exact qbx; (exact gy0); rfl) | refine wln ⟨_, rfl, rfl⟩ rfl ?_ | refine wlnu ⟨_, rfl, rfl⟩ rfl ?_ | refine wst rfl rfl rfl List.not_mem_nil rfl rfl rfl rfl rfl rfl ?_ | refine W_condT rfl ?_ | refine W_condF rfl ?_ | refine W_region ?_ | refine wN rfl ?_))
    refine wlptr 0 [] c2 rfl (by repeat' (first | exact PtA.nil | refine PtA.ptr ?_ | refine PtA.v ?_)) rfl rfl List.not_mem_nil (fun r cs ⟨hr, hc⟩ => by subst hr; subst hc; exact ⟨rfl, rfl⟩) rfl rfl (fun r cs hR => ?_)
    obtain ⟨rfl, rfl⟩ := hR
    (repeat (first | refine WL_nil ?_ | (apply wl0 (hd := rfl); (first | exact qv9); (exact gy0)) | (apply wlb (hd := rfl); exact qbx; (exact gy0); rfl) | refine wln ⟨_, rfl, rfl⟩ rfl ?_ | refine wlnu ⟨_, rfl, rfl⟩ rfl ?_ | refine wst rfl rfl rfl List.not_mem_nil rfl rfl rfl rfl rfl rfl ?_ | refine W_condT rfl ?_ | refine W_condF rfl ?_ | refine W_region ?_ | refine wN rfl ?_))
    refine wlptr 0 [] c3 rfl (by repeat' (first | exact PtA.nil | refine PtA.ptr ?_ | refine PtA.v ?_)) rfl rfl List.not_mem_nil (fun r cs ⟨hr, hc⟩ => by subst hr; subst hc; exact ⟨rfl, rfl⟩) rfl rfl (fun r cs hR => ?_)
    obtain ⟨rfl, rfl⟩ := hR
    (repeat (first | refine WL_nil ?_ | (apply wl0 (hd := rfl); (first | exact qv9); (exact gy0)) | (apply wlb (hd := rfl); exact qbx; (exact gy0); rfl) | refine wln ⟨_, rfl, rfl⟩ rfl ?_ | refine wlnu ⟨_, rfl, rfl⟩ rfl ?_ | refine wst rfl rfl rfl List.not_mem_nil rfl rfl rfl rfl rfl rfl ?_ | refine W_condT rfl ?_ | refine W_condF rfl ?_ | refine W_region ?_ | refine wN rfl ?_))
    refine wlptr 0 [] c4 rfl (by repeat' (first | exact PtA.nil | refine PtA.ptr ?_ | refine PtA.v ?_)) rfl rfl List.not_mem_nil (fun r cs ⟨hr, hc⟩ => by subst hr; subst hc; exact ⟨rfl, rfl⟩) rfl rfl (fun r cs hR => ?_)
    obtain ⟨rfl, rfl⟩ := hR
    (repeat (first | refine WL_nil ?_ | (apply wl0 (hd := rfl); (first | exact qv9 | exact q_callA (hm)); (exact gy0)) | (apply wlb (hd := rfl); exact qbx; (exact gy0); rfl) | refine wln ⟨_, rfl, rfl⟩ rfl ?_ | refine wlnu ⟨_, rfl, rfl⟩ rfl ?_ | refine wst rfl rfl rfl List.not_mem_nil rfl rfl rfl rfl rfl rfl ?_ | refine W_condT rfl ?_ | refine W_condF rfl ?_ | refine W_region ?_ | refine wN rfl ?_))
    refine ptrEnd (s' := ⟨[(2, .ptr 2 0)], [(2, (⟨1, 0, 0, 1⟩ : Th).row), (1000000, [slU l, vi i4, vi h4])], []⟩) wkA (resA_cell rfl rfl rfl rfl) rfl rfl rfl ?_
    exact ⟨rfl, rfl⟩
  | some t =>
    rw [e] at hm
    refine ⟨t, i4, h4, mkT_ok e, ?_⟩
    refine callPtr Tryz.func104 Tryz.ntmps104 Tryz.results104 rfl rfl rfl fun B w0 b T I0 V0 => ?_
    (repeat (first | refine WL_nil ?_ | (apply wl0 (hd := rfl); (first | exact qv9); (exact gy0)) | (apply wlb (hd := rfl); exact qbx; (exact gy0); rfl) | refine wln ⟨_, rfl, rfl⟩ rfl ?_ | refine wlnu ⟨_, rfl, rfl⟩ rfl ?_ | refine wst rfl rfl rfl List.not_mem_nil rfl rfl rfl rfl rfl rfl ?_ | refine W_condT rfl ?_ | refine W_condF rfl ?_ | refine W_region ?_ | refine wN rfl ?_))
    refine wlptr 0 [] c1 rfl (by repeat' (first | exact PtA.nil | refine PtA.ptr ?_ | refine PtA.v ?_)) rfl rfl List.not_mem_nil (fun r cs ⟨hr, hc⟩ => by subst hr; subst hc; exact ⟨rfl, rfl⟩) rfl rfl (fun r cs hR => ?_)
    obtain ⟨rfl, rfl⟩ := hR
    (repeat (first | refine WL_nil ?_ | (apply wl0 (hd := rfl); (first | exact qv9); (exact gy0)) | (apply wlb (hd := rfl); exact qbx; (exact gy0); rfl) | refine wln ⟨_, rfl, rfl⟩ rfl ?_ | refine wlnu ⟨_, rfl, rfl⟩ rfl ?_ | refine wst rfl rfl rfl List.not_mem_nil rfl rfl rfl rfl rfl rfl ?_ | refine W_condT rfl ?_ | refine W_condF rfl ?_ | refine W_region ?_ | refine wN rfl ?_))
    refine wlptr 0 [] c2 rfl (by repeat' (first | exact PtA.nil | refine PtA.ptr ?_ | refine PtA.v ?_)) rfl rfl List.not_mem_nil (fun r cs ⟨hr, hc⟩ => by subst hr; subst hc; exact ⟨rfl, rfl⟩) rfl rfl (fun r cs hR => ?_)
    obtain ⟨rfl, rfl⟩ := hR
    (repeat (first | refine WL_nil ?_ | (apply wl0 (hd := rfl); (first | exact qv9); (exact gy0)) | (apply wlb (hd := rfl); exact qbx; (exact gy0); rfl) | refine wln ⟨_, rfl, rfl⟩ rfl ?_ | refine wlnu ⟨_, rfl, rfl⟩ rfl ?_ | refine wst rfl rfl rfl List.not_mem_nil rfl rfl rfl rfl rfl rfl ?_ | refine W_condT rfl ?_ | refine W_condF rfl ?_ | refine W_region ?_ | refine wN rfl ?_))
    refine wlptr 0 [] c3 rfl (by repeat' (first | exact PtA.nil | refine PtA.ptr ?_ | refine PtA.v ?_)) rfl rfl List.not_mem_nil (fun r cs ⟨hr, hc⟩ => by subst hr; subst hc; exact ⟨rfl, rfl⟩) rfl rfl (fun r cs hR => ?_)
    obtain ⟨rfl, rfl⟩ := hR
    (repeat (first | refine WL_nil ?_ | (apply wl0 (hd := rfl); (first | exact qv9); (exact gy0)) | (apply wlb (hd := rfl); exact qbx; (exact gy0); rfl) | refine wln ⟨_, rfl, rfl⟩ rfl ?_ | refine wlnu ⟨_, rfl, rfl⟩ rfl ?_ | refine wst rfl rfl rfl List.not_mem_nil rfl rfl rfl rfl rfl rfl ?_ | refine W_condT rfl ?_ | refine W_condF rfl ?_ | refine W_region ?_ | refine wN rfl ?_))
    refine wlptr 0 [] c4 rfl (by repeat' (first | exact PtA.nil | refine PtA.ptr ?_ | refine PtA.v ?_)) rfl rfl List.not_mem_nil (fun r cs ⟨hr, hc⟩ => by subst hr; subst hc; exact ⟨rfl, rfl⟩) rfl rfl (fun r cs hR => ?_)
    obtain ⟨rfl, rfl⟩ := hR
    (repeat (first | refine WL_nil ?_ | (apply wl0 (hd := rfl); (first | exact qv9 | exact q_callA (hm)); (exact gy0)) | (apply wlb (hd := rfl); exact qbx; (exact gy0); rfl) | refine wln ⟨_, rfl, rfl⟩ rfl ?_ | refine wlnu ⟨_, rfl, rfl⟩ rfl ?_ | refine wst rfl rfl rfl List.not_mem_nil rfl rfl rfl rfl rfl rfl ?_ | refine W_condT rfl ?_ | refine W_condF rfl ?_ | refine W_region ?_ | refine wN rfl ?_))
    refine ptrEnd (s' := ⟨[(2, .ptr 2 0)], [(2, t.row), (1000000, [slU l, vi i4, vi h4])], []⟩) wkA (resA_cell rfl rfl rfl rfl) rfl rfl rfl ?_
    exact ⟨rfl, rfl⟩
theorem drawThrusts_ok (l : List Int) (hl : Bts l) : CallOk Tryz.prog 57 [slU l] (fun r => ∃ t u : Th, thOk t = true ∧ thOk u = true ∧ r = .tup [t.av, u.av]) := by
  refine callOk Tryz.func57 Tryz.ntmps57 Tryz.results57 rfl rfl rfl fun B w0 M I0 V0 => ?_
  (repeat (first | refine WL_nil ?_ | (apply wl0 (hd := rfl); (first | exact qv9); (exact gy0)) | (apply wlb (hd := rfl); exact qbx; (exact gy0); rfl) | refine wln ⟨_, rfl, rfl⟩ rfl ?_ | refine wlnu ⟨_, rfl, rfl⟩ rfl ?_ | refine wst rfl rfl rfl List.not_mem_nil rfl rfl rfl rfl rfl rfl ?_ | refine W_condT rfl ?_ | refine W_condF rfl ?_ | refine W_region ?_ | refine wN rfl ?_))
  refine wlmake 77 (l01New_ok l hl) rfl (by (repeat' (first | exact LeDs.nil | refine LeDs.cons (by first | exact LeD.v | exact LeD.sl | exact LeD.own | exact LeD.nil | exact LeD.top) ?_ | refine LeDs.agg ?_ ?_)); first | done | fail "open") rfl rfl (fun cs hR => ?_)
  obtain ⟨i, h, rfl⟩ := hR
  obtain ⟨t, i1, h1, ht, c1⟩ := l08Thrust_det l hl i h
  obtain ⟨u, i2, h2, hu, c2⟩ := l08Thrust_det l hl i1 h1
  (repeat (first | refine WL_nil ?_ | (apply wl0 (hd := rfl); (first | exact qv9); (exact gy0)) | (apply wlb (hd := rfl); exact qbx; (exact gy0); rfl) | refine wln ⟨_, rfl, rfl⟩ rfl ?_ | refine wlnu ⟨_, rfl, rfl⟩ rfl ?_ | refine wst rfl rfl rfl List.not_mem_nil rfl rfl rfl rfl rfl rfl ?_ | refine W_condT rfl ?_ | refine W_condF rfl ?_ | refine W_region ?_ | refine wN rfl ?_))
  refine wlptr 0 [] c1 rfl (by repeat' (first | exact PtA.nil | refine PtA.ptr ?_ | refine PtA.v ?_)) rfl rfl List.not_mem_nil (fun r cs ⟨hr, hc⟩ => by subst hr; subst hc; exact ⟨rfl, rfl⟩) rfl rfl (fun r cs hR => ?_)
  obtain ⟨rfl, rfl⟩ := hR
  (repeat (first | refine WL_nil ?_ | (apply wl0 (hd := rfl); (first | exact qv9); (exact gy0)) | (apply wlb (hd := rfl); exact qbx; (exact gy0); rfl) | refine wln ⟨_, rfl, rfl⟩ rfl ?_ | refine wlnu ⟨_, rfl, rfl⟩ rfl ?_ | refine wst rfl rfl rfl List.not_mem_nil rfl rfl rfl rfl rfl rfl ?_ | refine W_condT rfl ?_ | refine W_condF rfl ?_ | refine W_region ?_ | refine wN rfl ?_))
  refine wdrawC 3 77 [2] (by kernel_rfl) (by kernel_rfl) (by kernel_rfl) (by kernel_rfl) (by kernel_rfl) rfl rfl rfl ?_
  (repeat (first | refine HC_nil ?_ | (apply hc0 (hd := rfl); (first | exact qv9); (exact gy0)) | refine hcn ⟨_, rfl, rfl⟩ rfl ?_ | refine hcE (evPtr (c2) rfl (by repeat' (first | exact PtA.nil | refine PtA.ptr ?_ | refine PtA.v ?_ | refine PtA.sl ?_ | refine PtA.own ?_ | refine PtA.agg (by (repeat' (first | exact LeDs.nil | refine LeDs.cons (by first | exact LeD.v | exact LeD.sl | exact LeD.own | exact LeD.nil | exact LeD.top) ?_))) ?_)) rfl rfl rfl List.not_mem_nil) rfl rfl ?_))
  (repeat (first | refine WL_nil ?_ | (apply wl0 (hd := rfl); (first | exact qv9); (exact gy0)) | (apply wlb (hd := rfl); exact qbx; (exact gy0); rfl) | refine wln ⟨_, rfl, rfl⟩ rfl ?_ | refine wlnu ⟨_, rfl, rfl⟩ rfl ?_ | refine wst rfl rfl rfl List.not_mem_nil rfl rfl rfl rfl rfl rfl ?_ | refine W_condT rfl ?_ | refine W_condF rfl ?_ | refine W_region ?_ | refine wN rfl ?_))
  refine Exists.intro _ ⟨Weak.refl _, Exists.intro _ ⟨resA_cell rfl rfl rfl (resA_cell rfl rfl rfl rfl), ?_, rfl⟩⟩
  exact ⟨t, u, ht, hu, rfl⟩
end Go.Proofs.YtkieepmkcaipaaaGreat

namespace Go.Proofs.YtkieepmkcaipaaaGreat
open Go.Eng
set_option maxRecDepth 100000
attribute [local irreducible] QV TV WL HW W CallOk Weak

@[reducible] def StandR (l : List Int) (r : AV) (cs : List AV) : Prop := ∃ (js : List Jt) (ls : List Ld), archB js = true ∧ ls.length ≤ 3 ∧ (∀ ld ∈ ls, LdOk js ld) ∧ r = .tup [.agg [slJt js], slLd ls] ∧ CurR l cs
theorem l12Standing_ok (l : List Int) (hl : Bts l) (i : Nat) (h : Int) : CallPtr Tryz.prog 103 [.ptr 1000000 0] [slU l, vi i, vi h] (StandR l) := by
  have hsh := l06Shape1_ok
  refine callPtr Tryz.func103 Tryz.ntmps103 Tryz.results103 rfl rfl rfl fun B w0 b T I0 V0 => ?_
  (repeat (first | refine WL_nil ?_ | (apply wl0 (hd := rfl); (first | exact qv9); (exact gy0)) | (apply wlb (hd := rfl); exact qbx; (exact gy0); rfl) | refine wln ⟨_, rfl, rfl⟩ rfl ?_ | refine wlnu ⟨_, rfl, rfl⟩ rfl ?_ | refine wst rfl rfl rfl List.not_mem_nil rfl rfl rfl rfl rfl rfl ?_ | refine W_condT rfl ?_ | refine W_condF rfl ?_ | refine W_region ?_ | refine wN rfl ?_))
  refine W_loop (fun n s => ∃ (k : Nat) (i : Nat) (h : Int), k ≤ 5 ∧ n = 5 - k ∧ s = ⟨[(0, .ptr 1000000 0), (2, .ptr 2 0), (4, vi k)], [(2, [.v (.slice none 0 0)]), (1000000, [slU l, vi i, vi h])], []⟩) ⟨_, _, ⟨0, i, h, by omega, rfl, rfl⟩, wkA⟩ ?_
  rintro m s ⟨k, i1, h1, hk, rfl, rfl⟩
  by_cases hlt : k < 5
  · have c1 : abin .lss .i64 (k : Int) 5 = some (.bool true) := by simp [abin]; omega
    (repeat (first | refine WL_nil ?_ | (apply wl0 (hd := rfl); (first | exact QV_bin rfl rfl c1 | exact qv9); (exact gy0)) | (apply wlb (hd := rfl); exact qbx; (exact gy0); rfl) | refine wln ⟨_, rfl, rfl⟩ rfl ?_ | refine wlnu ⟨_, rfl, rfl⟩ rfl ?_ | refine wst rfl rfl rfl List.not_mem_nil rfl rfl rfl rfl rfl rfl ?_ | refine W_condT rfl ?_ | refine W_condF rfl ?_ | refine W_region ?_ | refine wN rfl ?_))
    refine wlptr 0 [] (l06Arch_ok l hl i1 h1) rfl (by repeat' (first | exact PtA.nil | refine PtA.ptr ?_ | refine PtA.v ?_)) rfl rfl List.not_mem_nil (fun r cs ⟨s, _, _, hr, i, h, hc⟩ => by subst hr; subst hc; exact ⟨rfl, rfl⟩) rfl rfl (fun r cs hR => ?_)
    obtain ⟨js, ha, hs, rfl, i2, h2, rfl⟩ := hR
    obtain ⟨ls, i3, h3, k1, k2, cl⟩ := l07Loads_det l hl js (arch_len ha) hs i2 h2
    (repeat (first | refine WL_nil ?_ | (apply wl0 (hd := rfl); (first | exact qv9); (exact gy0)) | (apply wlb (hd := rfl); exact qbx; (exact gy0); rfl) | refine wln ⟨_, rfl, rfl⟩ rfl ?_ | refine wlnu ⟨_, rfl, rfl⟩ rfl ?_ | refine wst rfl rfl rfl List.not_mem_nil rfl rfl rfl rfl rfl rfl ?_ | refine W_condT rfl ?_ | refine W_condF rfl ?_ | refine W_region ?_ | refine wN rfl ?_))
    refine wlptr 0 [] cl rfl (by repeat' (first | exact PtA.nil | refine PtA.ptr ?_ | refine PtA.v ?_ | refine PtA.sl ?_ | refine PtA.agg (by (repeat' (first | exact LeDs.nil | refine LeDs.cons (by first | exact LeD.v | exact LeD.sl | exact LeD.own | exact LeD.nil | exact LeD.top) ?_))) ?_)) rfl rfl List.not_mem_nil (fun r cs ⟨hr, hc⟩ => by subst hr; subst hc; exact ⟨rfl, rfl⟩) rfl rfl (fun r cs hR => ?_)
    obtain ⟨rfl, rfl⟩ := hR
    have h8 := arch_len ha
    have hst := stands_ok js ls (by omega) (by omega)
    cases e : stnB js ls
    · rw [e] at hst
      (repeat (first | refine WL_nil ?_ | (apply wl0 (hd := rfl); (first | exact qv9 | exact q_callA (hst)); (exact gy0)) | (apply wlb (hd := rfl); exact qbx; (exact gy0); rfl) | refine wln ⟨_, rfl, rfl⟩ rfl ?_ | refine wlnu ⟨_, rfl, rfl⟩ rfl ?_ | refine wst rfl rfl rfl List.not_mem_nil rfl rfl rfl rfl rfl rfl ?_ | refine W_condT rfl ?_ | refine W_condF rfl ?_ | refine W_region ?_ | refine wN rfl ?_))
      refine Exists.intro _ (Exists.intro _ ⟨?_, ⟨k + 1, i3, h3, by omega, rfl, rfl⟩, wkA⟩)
      omega
    · rw [e] at hst
      (repeat (first | refine WL_nil ?_ | (apply wl0 (hd := rfl); (first | exact qv9 | exact q_callA (hst)); (exact gy0)) | (apply wlb (hd := rfl); exact qbx; (exact gy0); rfl) | refine wln ⟨_, rfl, rfl⟩ rfl ?_ | refine wlnu ⟨_, rfl, rfl⟩ rfl ?_ | refine wst rfl rfl rfl List.not_mem_nil rfl rfl rfl rfl rfl rfl ?_ | refine W_condT rfl ?_ | refine W_condF rfl ?_ | refine W_region ?_ | refine wN rfl ?_))
      refine ptrEnd (s' := ⟨[(2, .ptr 2 0), (3, slLd ls)], [(2, [slJt js]), (1000000, [slU l, vi i3, vi h3])], []⟩) wkA (resA_cell rfl rfl rfl (resA_tmp rfl rfl)) rfl rfl rfl ?_
      exact ⟨js, ls, ha, k1, k2, rfl, i3, h3, rfl⟩
  · have c1 : abin .lss .i64 (k : Int) 5 = some (.bool false) := by simp [abin]; omega
    (repeat (first | refine WL_nil ?_ | (apply wl0 (hd := rfl); (first | exact QV_bin rfl rfl c1 | exact qv9 | exact q_callA (hsh)); (exact gy0)) | (apply wlb (hd := rfl); exact qbx; (exact gy0); rfl) | refine wln ⟨_, rfl, rfl⟩ rfl ?_ | refine wlnu ⟨_, rfl, rfl⟩ rfl ?_ | (apply wln1 (hd := rfl); exact q_buildSlice 22 rfl rfl rfl rfl; (exact gy0); rfl) | refine wst rfl rfl rfl List.not_mem_nil rfl rfl rfl rfl rfl rfl ?_ | refine W_condT rfl ?_ | refine W_condF rfl ?_ | refine W_region ?_ | refine wN rfl ?_))
    refine ptrEnd (s' := ⟨[(2, .ptr 2 0), (3, slLd [])], [(2, [slJt (shp 1)]), (1000000, [slU l, vi i1, vi h1])], []⟩) wkA (resA_cell rfl rfl rfl (resA_tmp rfl rfl)) rfl rfl rfl ?_
    exact ⟨shp 1, [], shp_ok 1 (by omega), by simp, by simp, rfl, i1, h1, rfl⟩
theorem drawStanding_ok (l : List Int) (hl : Bts l) : CallOk Tryz.prog 56 [slU l] (fun r => ∃ (js : List Jt) (ls : List Ld), archB js = true ∧ ls.length ≤ 3 ∧ (∀ ld ∈ ls, LdOk js ld) ∧ r = .tup [.agg [slJt js], slLd ls]) := by
  refine callOk Tryz.func56 Tryz.ntmps56 Tryz.results56 rfl rfl rfl fun B w0 M I0 V0 => ?_
  (repeat (first | refine WL_nil ?_ | (apply wl0 (hd := rfl); (first | exact qv9); (exact gy0)) | (apply wlb (hd := rfl); exact qbx; (exact gy0); rfl) | refine wln ⟨_, rfl, rfl⟩ rfl ?_ | refine wlnu ⟨_, rfl, rfl⟩ rfl ?_ | refine wst rfl rfl rfl List.not_mem_nil rfl rfl rfl rfl rfl rfl ?_ | refine W_condT rfl ?_ | refine W_condF rfl ?_ | refine W_region ?_ | refine wN rfl ?_))
  refine wlmake 77 (l01New_ok l hl) rfl (by (repeat' (first | exact LeDs.nil | refine LeDs.cons (by first | exact LeD.v | exact LeD.sl | exact LeD.own | exact LeD.nil | exact LeD.top) ?_ | refine LeDs.agg ?_ ?_)); first | done | fail "open") rfl rfl (fun cs hR => ?_)
  obtain ⟨i, h, rfl⟩ := hR
  (repeat (first | refine WL_nil ?_ | (apply wl0 (hd := rfl); (first | exact qv9); (exact gy0)) | (apply wlb (hd := rfl); exact qbx; (exact gy0); rfl) | refine wln ⟨_, rfl, rfl⟩ rfl ?_ | refine wlnu ⟨_, rfl, rfl⟩ rfl ?_ | refine wst rfl rfl rfl List.not_mem_nil rfl rfl rfl rfl rfl rfl ?_ | refine W_condT rfl ?_ | refine W_condF rfl ?_ | refine W_region ?_ | refine wN rfl ?_))
  refine wlptr 0 [] (l12Standing_ok l hl i h) rfl (by repeat' (first | exact PtA.nil | refine PtA.ptr ?_ | refine PtA.v ?_)) rfl rfl List.not_mem_nil (fun r cs ⟨_, _, _, _, _, hr, i, h, hc⟩ => by subst hr; subst hc; exact ⟨rfl, rfl⟩) rfl rfl (fun r cs hR => ?_)
  obtain ⟨js, ls, ha, k1, k2, rfl, i1, h1, rfl⟩ := hR
  (repeat (first | refine WL_nil ?_ | (apply wl0 (hd := rfl); (first | exact qv9); (exact gy0)) | (apply wlb (hd := rfl); exact qbx; (exact gy0); rfl) | refine wln ⟨_, rfl, rfl⟩ rfl ?_ | refine wlnu ⟨_, rfl, rfl⟩ rfl ?_ | refine wst rfl rfl rfl List.not_mem_nil rfl rfl rfl rfl rfl rfl ?_ | refine W_condT rfl ?_ | refine W_condF rfl ?_ | refine W_region ?_ | refine wN rfl ?_))
  refine Exists.intro _ ⟨Weak.refl _, Exists.intro _ ⟨resA_cell rfl rfl rfl (resA_tmp rfl rfl), ?_, rfl⟩⟩
  exact ⟨js, ls, ha, k1, k2, rfl⟩
end Go.Proofs.YtkieepmkcaipaaaGreat
