/- The maths of weights and moments: nothing wraps; the fan of triangles. -/
import Derived.Test.YtkieepmkcaipaaaGreatYG3
import Derived.Test.YtkieepmkcaipaaaGreatYG9
namespace Go.Proofs.YtkieepmkcaipaaaGreat
open Go.Eng

def cr (a b : Pt) : Int := a.x * b.y - a.y * b.x
def csum (f : Nat → Int) : Nat → Int
  | 0 => 0
  | k + 1 => csum f k + f k
def tri (l : List Pt) (i : Nat) : Int := side (cor l 0) (cor l i) (cor l (i + 1))
end Go.Proofs.YtkieepmkcaipaaaGreat

namespace Go.Proofs.YtkieepmkcaipaaaGreat
open Go.Eng
set_option maxRecDepth 100000
attribute [local irreducible] QV TV WL HW W CallOk Weak

theorem four4 (x : Int) (h0 : 0 ≤ x) (h1 : x < 4) : ∃ w : Int, ([6, 20, 60, 150] : List Int)[x.toNat]? = some w ∧ 0 ≤ w ∧ w ≤ 150 := by
  have : x = 0 ∨ x = 1 ∨ x = 2 ∨ x = 3 := by omega
  rcases this with rfl | rfl | rfl | rfl
  · exact ⟨6, rfl, by decide, by decide⟩
  · exact ⟨20, rfl, by decide, by decide⟩
  · exact ⟨60, rfl, by decide, by decide⟩
  · exact ⟨150, rfl, by decide, by decide⟩
theorem l18More_det (l : List Int) (hl : Bts l) (js : List Jt) (h8 : 3 ≤ js.length ∧ js.length ≤ 8) (hs : SmJ 22 js) (i : Nat) (h : Int) : ∃ (ld : Ld) (i1 : Nat) (h1 : Int), LdOk js ld ∧ CallPtr Tryz.prog 80 [.ptr 1000000 0, .agg [slJt js]] [slU l, vi i, vi h] (LoadR l [ld] i1 h1) := by
  obtain ⟨x1, i1, g1, a0, a1, cx1⟩ := l01Below_det l hl ((js.length : Int) - 1) (by omega) (by omega) i h
  obtain ⟨x2, i2, g2, a2, a3, cx2⟩ := l01Below_det l hl 3 (by decide) (by decide) i1 g1
  obtain ⟨x3, i3, g3, a4, a5, cx3⟩ := l01Below_det l hl 4 (by decide) (by decide) i2 g2
  obtain ⟨j, rfl⟩ : ∃ j : Nat, x1 = j := ⟨x1.toNat, by omega⟩
  obtain ⟨y, rfl⟩ : ∃ y : Nat, x3 = y := ⟨x3.toNat, by omega⟩
  obtain ⟨w5, hw5, w50, w51⟩ := four4 (y : Int) a4 a5
  have hw7 : ([6, 20, 60, 150] : List Int)[y]? = some w5 := hw5
  have cp := pickInt_det (m := 4) rfl hw7 cx3
  have hjl : j < js.length := by omega
  have hat := (hs.at hjl).2
  unfold smP at hat
  have hpj := jat_lt hjl
  have s1 : abin .sub .i64 (js.length : Int) 1 = some (.int .i64 ((js.length : Int) - 1)) := by simp only [abin]; rw [i64w (by omega)]
  have c1 : abin .gtr .i64 (js.length : Int) 0 = some (.bool true) := by simp [abin]; omega
  have hmax : max 1 ((js.length : Int) - 1) = (js.length : Int) - 1 := by omega
  have hmin : min (j : Int) ((js.length : Int) - 1) = (j : Int) := by omega
  rw [← hmax] at cx1
  refine ⟨⟨j, w5, (jat js j).o.x + x2⟩, i3, g3, ⟨⟨by simp, by simp only; omega⟩, ⟨w50, by simp only; omega⟩, by simp only; omega, by simp only; omega⟩, ?_⟩
  refine callPtr Tryz.func80 Tryz.ntmps80 Tryz.results80 rfl rfl rfl fun B w0 b T I0 V0 => ?_
  (repeat (first | refine WL_nil ?_ | (apply wl0 (hd := rfl); (first | exact QV_bin rfl rfl s1 | exact qv9 | exact QV_max rfl rfl); (exact gy0)) | (apply wlb (hd := rfl); exact qbx; (exact gy0); rfl) | refine wln ⟨_, rfl, rfl⟩ rfl ?_ | refine wlnu ⟨_, rfl, rfl⟩ rfl ?_ | refine wst rfl rfl rfl List.not_mem_nil rfl rfl rfl rfl rfl rfl ?_ | refine W_condT rfl ?_ | refine W_condF rfl ?_ | refine W_region ?_ | refine wN rfl ?_))
  refine wlptr 0 [] cx1 rfl (by repeat' (first | exact PtA.nil | refine PtA.ptr ?_ | refine PtA.v ?_)) rfl rfl List.not_mem_nil (fun r cs ⟨hr, hc⟩ => by subst hr; subst hc; exact ⟨rfl, rfl⟩) rfl rfl (fun r cs hR => ?_)
  obtain ⟨rfl, rfl⟩ := hR
  (repeat (first | refine WL_nil ?_ | (apply wl0 (hd := rfl); (first | exact QV_bin rfl rfl c1 | exact qv9); (exact gy0)) | (apply wlb (hd := rfl); exact qbx; (exact gy0); rfl) | refine wln ⟨_, rfl, rfl⟩ rfl ?_ | refine wlnu ⟨_, rfl, rfl⟩ rfl ?_ | refine wst rfl rfl rfl List.not_mem_nil rfl rfl rfl rfl rfl rfl ?_ | refine W_condT rfl ?_ | refine W_condF rfl ?_ | refine W_region ?_ | refine wN rfl ?_))
  refine wdrawC 16 1000000 [13] (by kernel_rfl) (by kernel_rfl) (by kernel_rfl) (by kernel_rfl) (by kernel_rfl) rfl rfl rfl ?_
  (repeat (first | refine HC_nil ?_ | (apply hc0 (hd := rfl); (first | exact QV_bin rfl rfl s1 | exact qv9 | exact QV_min rfl rfl | exact QV_indexAddr rfl rfl rfl hmin (row_at hpj)); (exact gy0)) | refine hcn ⟨_, rfl, rfl⟩ rfl ?_ | refine hcE (evPtr (cx2) rfl (by repeat' (first | exact PtA.nil | refine PtA.ptr ?_ | refine PtA.v ?_ | refine PtA.sl ?_ | refine PtA.own ?_ | refine PtA.agg (by (repeat' (first | exact LeDs.nil | refine LeDs.cons (by first | exact LeD.v | exact LeD.sl | exact LeD.own | exact LeD.nil | exact LeD.top) ?_))) ?_)) rfl rfl rfl List.not_mem_nil) rfl rfl ?_))
  (repeat (first | refine WL_nil ?_ | (apply wl0 (hd := rfl); (first | exact qv9); (exact gy0)) | (apply wlb (hd := rfl); exact qbx; (exact gy0); rfl) | refine wln ⟨_, rfl, rfl⟩ rfl ?_ | refine wlnu ⟨_, rfl, rfl⟩ rfl ?_ | (apply wln1 (hd := rfl); exact q_buildSlice 35 rfl rfl rfl rfl; (exact gy0); rfl) | refine wst rfl rfl rfl List.not_mem_nil rfl rfl rfl rfl rfl rfl ?_ | refine W_condT rfl ?_ | refine W_condF rfl ?_ | refine W_region ?_ | refine wN rfl ?_))
  refine wlptr 0 [] cp rfl (by repeat' (first | exact PtA.nil | refine PtA.ptr ?_ | refine PtA.v ?_ | refine PtA.own ?_)) rfl rfl List.not_mem_nil (fun r cs ⟨hr, hc⟩ => by subst hr; subst hc; exact ⟨rfl, rfl⟩) rfl rfl (fun r cs hR => ?_)
  obtain ⟨rfl, rfl⟩ := hR
  (repeat (first | refine WL_nil ?_ | (apply wl0 (hd := rfl); (first | exact qv9); (exact gy0)) | (apply wlb (hd := rfl); exact qbx; (exact gy0); rfl) | refine wln ⟨_, rfl, rfl⟩ rfl ?_ | refine wlnu ⟨_, rfl, rfl⟩ rfl ?_ | (apply wln1 (hd := rfl); exact q_buildSlice 39 rfl rfl rfl rfl; (exact gy0); rfl) | refine wst rfl rfl rfl List.not_mem_nil rfl rfl rfl rfl rfl rfl ?_ | refine W_condT rfl ?_ | refine W_condF rfl ?_ | refine W_region ?_ | refine wN rfl ?_))
  refine ptrEnd (s' := ⟨[(4, .sl 3 [(⟨(j : Int), w5, (jat js j).o.x + x2⟩ : Ld).row])], [(1000000, [slU l, vi i3, vi g3])], []⟩) wkA (resA_tmp rfl rfl) rfl rfl rfl ?_
  exact ⟨rfl, rfl⟩
theorem drawMore_ok (l : List Int) (hl : Bts l) : CallOk Tryz.prog 24 [slU l] (fun r => ∃ (js : List Jt) (ls : List Ld) (ld : Ld), archB js = true ∧ ls.length ≤ 3 ∧ (∀ d ∈ ls, LdOk js d) ∧ LdOk js ld ∧ r = .tup [.agg [slJt js], slLd ls, slLd [ld]]) := by
  refine callOk Tryz.func24 Tryz.ntmps24 Tryz.results24 rfl rfl rfl fun B w0 M I0 V0 => ?_
  (repeat (first | refine WL_nil ?_ | (apply wl0 (hd := rfl); (first | exact qv9); (exact gy0)) | (apply wlb (hd := rfl); (first | exact q_box rfl rfl rfl | exact q_allocT rfl); (exact gy0); rfl) | refine wln ⟨_, rfl, rfl⟩ rfl ?_ | refine wlnu ⟨_, rfl, rfl⟩ rfl ?_ | refine wst rfl rfl rfl List.not_mem_nil rfl rfl rfl rfl rfl rfl ?_ | refine W_condT rfl ?_ | refine W_condF rfl ?_ | refine W_region ?_ | refine wN rfl ?_))
  refine wlmake 77 (l01New_ok l hl) rfl (by (repeat' (first | exact LeDs.nil | refine LeDs.cons (by first | exact LeD.v | exact LeD.sl | exact LeD.own | exact LeD.nil | exact LeD.top) ?_ | refine LeDs.agg ?_ ?_)); first | done | fail "open") rfl rfl (fun cs hR => ?_)
  obtain ⟨i, h, rfl⟩ := hR
  (repeat (first | refine WL_nil ?_ | (apply wl0 (hd := rfl); (first | exact qv9); (exact gy0)) | (apply wlb (hd := rfl); exact qbx; (exact gy0); rfl) | refine wln ⟨_, rfl, rfl⟩ rfl ?_ | refine wlnu ⟨_, rfl, rfl⟩ rfl ?_ | refine wst rfl rfl rfl List.not_mem_nil rfl rfl rfl rfl rfl rfl ?_ | refine W_condT rfl ?_ | refine W_condF rfl ?_ | refine W_region ?_ | refine wN rfl ?_))
  refine wlptr 0 [] (l06Arch_ok l hl i h) rfl (by repeat' (first | exact PtA.nil | refine PtA.ptr ?_ | refine PtA.v ?_)) rfl rfl List.not_mem_nil (fun r cs ⟨s, _, _, hr, i, h, hc⟩ => by subst hr; subst hc; exact ⟨rfl, rfl⟩) rfl rfl (fun r cs hR => ?_)
  obtain ⟨js, ha, hs, rfl, i1, h1, rfl⟩ := hR
  obtain ⟨ls, i2, h2, k1, k2, cl⟩ := l07Loads_det l hl js (arch_len ha) hs i1 h1
  obtain ⟨ld, i3, h3, k3, cm⟩ := l18More_det l hl js (arch_len ha) hs i2 h2
  (repeat (first | refine WL_nil ?_ | (apply wl0 (hd := rfl); (first | exact qv9); (exact gy0)) | (apply wlb (hd := rfl); exact qbx; (exact gy0); rfl) | refine wln ⟨_, rfl, rfl⟩ rfl ?_ | refine wlnu ⟨_, rfl, rfl⟩ rfl ?_ | refine wst rfl rfl rfl List.not_mem_nil rfl rfl rfl rfl rfl rfl ?_ | refine W_condT rfl ?_ | refine W_condF rfl ?_ | refine W_region ?_ | refine wN rfl ?_))
  refine wlptr 0 [] cl rfl (by repeat' (first | exact PtA.nil | refine PtA.ptr ?_ | refine PtA.v ?_ | refine PtA.agg (by (repeat' (first | exact LeDs.nil | refine LeDs.cons (by first | exact LeD.v | exact LeD.sl | exact LeD.own | exact LeD.nil | exact LeD.top) ?_ | refine LeDs.agg ?_ ?_)); first | done | fail "open") ?_)) rfl rfl List.not_mem_nil (fun r cs ⟨hr, hc⟩ => by subst hr; subst hc; exact ⟨rfl, rfl⟩) rfl rfl (fun r cs hR => ?_)
  obtain ⟨rfl, rfl⟩ := hR
  (repeat (first | refine WL_nil ?_ | (apply wl0 (hd := rfl); (first | exact qv9); (exact gy0)) | (apply wlb (hd := rfl); exact qbx; (exact gy0); rfl) | refine wln ⟨_, rfl, rfl⟩ rfl ?_ | refine wlnu ⟨_, rfl, rfl⟩ rfl ?_ | refine wst rfl rfl rfl List.not_mem_nil rfl rfl rfl rfl rfl rfl ?_ | refine W_condT rfl ?_ | refine W_condF rfl ?_ | refine W_region ?_ | refine wN rfl ?_))
  refine wdrawC 8 77 [4] (by kernel_rfl) (by kernel_rfl) (by kernel_rfl) (by kernel_rfl) (by kernel_rfl) rfl rfl rfl ?_
  (repeat (first | refine HC_nil ?_ | (apply hc0 (hd := rfl); (first | exact qv9); (exact gy0)) | refine hcn ⟨_, rfl, rfl⟩ rfl ?_ | refine hcE (evPtr (cm) rfl (by repeat' (first | exact PtA.nil | refine PtA.ptr ?_ | refine PtA.v ?_ | refine PtA.sl ?_ | refine PtA.own ?_ | refine PtA.agg (by (repeat' (first | exact LeDs.nil | refine LeDs.cons (by first | exact LeD.v | exact LeD.sl | exact LeD.own | exact LeD.nil | exact LeD.top) ?_))) ?_)) rfl rfl rfl List.not_mem_nil) rfl rfl ?_ | refine hci rfl rfl List.not_mem_nil rfl rfl rfl rfl rfl rfl ?_))
  (repeat (first | refine WL_nil ?_ | (apply wl0 (hd := rfl); (first | exact qv9); (exact gy0)) | (apply wlb (hd := rfl); exact qbx; (exact gy0); rfl) | refine wln ⟨_, rfl, rfl⟩ rfl ?_ | refine wlnu ⟨_, rfl, rfl⟩ rfl ?_ | refine wst rfl rfl rfl List.not_mem_nil rfl rfl rfl rfl rfl rfl ?_ | refine W_condT rfl ?_ | refine W_condF rfl ?_ | refine W_region ?_ | refine wN rfl ?_))
  refine Exists.intro _ ⟨Weak.refl _, Exists.intro _ ⟨resA_cell rfl rfl rfl (resA_tmp rfl (resA_tmp rfl rfl)), ?_, rfl⟩⟩
  exact ⟨js, ls, ld, ha, k1, k2, k3, rfl⟩
end Go.Proofs.YtkieepmkcaipaaaGreat
