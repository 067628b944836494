/- Drawn arches: small, and arches. -/
import Derived.Test.YtkieepmkcaipaaaGreatYG5
import Derived.Test.YtkieepmkcaipaaaGreatZ10
import Derived.Test.YtkieepmkcaipaaaGreatZ11
import Derived.Test.YtkieepmkcaipaaaGreatZ5
import Derived.Test.YtkieepmkcaipaaaGreatYALd
import Derived.Test.YtkieepmkcaipaaaGreatYG1
namespace Go.Proofs.YtkieepmkcaipaaaGreat
open Go.Eng
set_option maxRecDepth 100000
attribute [local irreducible] QV TV WL HW W CallOk Weak

theorem jt_cells (l : List Jt) : ∀ x ∈ (l.map Jt.row).flatten, isCell x = true := by
  intro x hx
  obtain ⟨r, hr, hx⟩ := List.mem_flatten.1 hx
  obtain ⟨p, _, rfl⟩ := List.mem_map.1 hr
  simp only [Jt.row, List.mem_cons, List.not_mem_nil, or_false] at hx
  rcases hx with rfl | rfl | rfl | rfl <;> rfl
theorem jt_lens (l : List Jt) : ∀ r ∈ l.map Jt.row, r.length = 4 := by
  intro r hr
  obtain ⟨p, _, rfl⟩ := List.mem_map.1 hr
  rfl
theorem l06Shape0_ok : CallOk Tryz.prog 118 [vi 0] (fun r => r = .agg [slJt (shp 0)]) := by
  refine callOk_dat (X := .agg [.own 200 79 4 ((shp 0).map Jt.row)]) ?_ rfl
  refine callOk Tryz.func118 Tryz.ntmps118 Tryz.results118 rfl rfl rfl fun B w0 M I0 V0 => ?_
  (repeat (first | refine WL_nil ?_ | (apply wl0 (hd := rfl); (first | exact qv9); (exact gy0)) | (apply wlb (hd := rfl); exact qbx; (exact gy0); rfl) | refine wln ⟨_, rfl, rfl⟩ rfl ?_ | refine wlnu ⟨_, rfl, rfl⟩ rfl ?_ | (apply wln1 (hd := rfl); exact q_buildSlice 200 rfl rfl rfl rfl; (exact gy0); rfl) | refine wst rfl rfl rfl List.not_mem_nil rfl rfl rfl rfl rfl rfl ?_ | refine W_condT rfl ?_ | refine W_condF rfl ?_ | refine W_region ?_ | refine wN rfl ?_))
  refine Exists.intro _ ⟨Weak.refl _, Exists.intro _ ⟨resA_cell rfl rfl rfl rfl, ?_, rfl⟩⟩
  rfl
theorem l06Shape1_ok : CallOk Tryz.prog 118 [vi 1] (fun r => r = .agg [slJt (shp 1)]) := by
  refine callOk_dat (X := .agg [.own 200 79 4 ((shp 1).map Jt.row)]) ?_ rfl
  refine callOk Tryz.func118 Tryz.ntmps118 Tryz.results118 rfl rfl rfl fun B w0 M I0 V0 => ?_
  (repeat (first | refine WL_nil ?_ | (apply wl0 (hd := rfl); (first | exact qv9); (exact gy0)) | (apply wlb (hd := rfl); exact qbx; (exact gy0); rfl) | refine wln ⟨_, rfl, rfl⟩ rfl ?_ | refine wlnu ⟨_, rfl, rfl⟩ rfl ?_ | (apply wln1 (hd := rfl); exact q_buildSlice 200 rfl rfl rfl rfl; (exact gy0); rfl) | refine wst rfl rfl rfl List.not_mem_nil rfl rfl rfl rfl rfl rfl ?_ | refine W_condT rfl ?_ | refine W_condF rfl ?_ | refine W_region ?_ | refine wN rfl ?_))
  refine Exists.intro _ ⟨Weak.refl _, Exists.intro _ ⟨resA_cell rfl rfl rfl rfl, ?_, rfl⟩⟩
  rfl
theorem l06Shape2_ok : CallOk Tryz.prog 118 [vi 2] (fun r => r = .agg [slJt (shp 2)]) := by
  refine callOk_dat (X := .agg [.own 200 79 4 ((shp 2).map Jt.row)]) ?_ rfl
  refine callOk Tryz.func118 Tryz.ntmps118 Tryz.results118 rfl rfl rfl fun B w0 M I0 V0 => ?_
  (repeat (first | refine WL_nil ?_ | (apply wl0 (hd := rfl); (first | exact qv9); (exact gy0)) | (apply wlb (hd := rfl); exact qbx; (exact gy0); rfl) | refine wln ⟨_, rfl, rfl⟩ rfl ?_ | refine wlnu ⟨_, rfl, rfl⟩ rfl ?_ | (apply wln1 (hd := rfl); exact q_buildSlice 200 rfl rfl rfl rfl; (exact gy0); rfl) | refine wst rfl rfl rfl List.not_mem_nil rfl rfl rfl rfl rfl rfl ?_ | refine W_condT rfl ?_ | refine W_condF rfl ?_ | refine W_region ?_ | refine wN rfl ?_))
  refine Exists.intro _ ⟨Weak.refl _, Exists.intro _ ⟨resA_cell rfl rfl rfl rfl, ?_, rfl⟩⟩
  rfl
theorem l06Shape3_ok : CallOk Tryz.prog 118 [vi 3] (fun r => r = .agg [slJt (shp 3)]) := by
  refine callOk_dat (X := .agg [.own 200 79 4 ((shp 3).map Jt.row)]) ?_ rfl
  refine callOk Tryz.func118 Tryz.ntmps118 Tryz.results118 rfl rfl rfl fun B w0 M I0 V0 => ?_
  (repeat (first | refine WL_nil ?_ | (apply wl0 (hd := rfl); (first | exact qv9); (exact gy0)) | (apply wlb (hd := rfl); exact qbx; (exact gy0); rfl) | refine wln ⟨_, rfl, rfl⟩ rfl ?_ | refine wlnu ⟨_, rfl, rfl⟩ rfl ?_ | (apply wln1 (hd := rfl); exact q_buildSlice 200 rfl rfl rfl rfl; (exact gy0); rfl) | refine wst rfl rfl rfl List.not_mem_nil rfl rfl rfl rfl rfl rfl ?_ | refine W_condT rfl ?_ | refine W_condF rfl ?_ | refine W_region ?_ | refine wN rfl ?_))
  refine Exists.intro _ ⟨Weak.refl _, Exists.intro _ ⟨resA_cell rfl rfl rfl rfl, ?_, rfl⟩⟩
  rfl
theorem l06Shape4_ok : CallOk Tryz.prog 118 [vi 4] (fun r => r = .agg [slJt (shp 4)]) := by
  refine callOk_dat (X := .agg [.own 200 79 4 ((shp 4).map Jt.row)]) ?_ rfl
  refine callOk Tryz.func118 Tryz.ntmps118 Tryz.results118 rfl rfl rfl fun B w0 M I0 V0 => ?_
  (repeat (first | refine WL_nil ?_ | (apply wl0 (hd := rfl); (first | exact qv9); (exact gy0)) | (apply wlb (hd := rfl); exact qbx; (exact gy0); rfl) | refine wln ⟨_, rfl, rfl⟩ rfl ?_ | refine wlnu ⟨_, rfl, rfl⟩ rfl ?_ | (apply wln1 (hd := rfl); exact q_buildSlice 200 rfl rfl rfl rfl; (exact gy0); rfl) | refine wst rfl rfl rfl List.not_mem_nil rfl rfl rfl rfl rfl rfl ?_ | refine W_condT rfl ?_ | refine W_condF rfl ?_ | refine W_region ?_ | refine wN rfl ?_))
  refine Exists.intro _ ⟨Weak.refl _, Exists.intro _ ⟨resA_cell rfl rfl rfl rfl, ?_, rfl⟩⟩
  rfl
theorem l06Shape5_ok : CallOk Tryz.prog 118 [vi 5] (fun r => r = .agg [slJt (shp 5)]) := by
  refine callOk_dat (X := .agg [.own 200 79 4 ((shp 5).map Jt.row)]) ?_ rfl
  refine callOk Tryz.func118 Tryz.ntmps118 Tryz.results118 rfl rfl rfl fun B w0 M I0 V0 => ?_
  (repeat (first | refine WL_nil ?_ | (apply wl0 (hd := rfl); (first | exact qv9); (exact gy0)) | (apply wlb (hd := rfl); exact qbx; (exact gy0); rfl) | refine wln ⟨_, rfl, rfl⟩ rfl ?_ | refine wlnu ⟨_, rfl, rfl⟩ rfl ?_ | (apply wln1 (hd := rfl); exact q_buildSlice 200 rfl rfl rfl rfl; (exact gy0); rfl) | refine wst rfl rfl rfl List.not_mem_nil rfl rfl rfl rfl rfl rfl ?_ | refine W_condT rfl ?_ | refine W_condF rfl ?_ | refine W_region ?_ | refine wN rfl ?_))
  refine Exists.intro _ ⟨Weak.refl _, Exists.intro _ ⟨resA_cell rfl rfl rfl rfl, ?_, rfl⟩⟩
  rfl
theorem l06Shape_ok (k : Nat) (hk : k < 6) : CallOk Tryz.prog 118 [vi k] (fun r => r = .agg [slJt (shp k)]) := by
  have h : k = 0 ∨ k = 1 ∨ k = 2 ∨ k = 3 ∨ k = 4 ∨ k = 5 := by omega
  rcases h with rfl | rfl | rfl | rfl | rfl | rfl
  · exact l06Shape0_ok
  · exact l06Shape1_ok
  · exact l06Shape2_ok
  · exact l06Shape3_ok
  · exact l06Shape4_ok
  · exact l06Shape5_ok
theorem l06Copy_ok (js : List Jt) (hn : js.length ≤ 1048576) : CallOk Tryz.prog 129 [.agg [slJt js]] (fun r => r = .agg [.own 3 79 4 (js.map Jt.row)]) := by
  refine callOk Tryz.func129 Tryz.ntmps129 Tryz.results129 rfl rfl rfl fun B w0 M I0 V0 => ?_
  (repeat (first | refine WL_nil ?_ | (apply wl0 (hd := rfl); (first | exact qv9); (exact gy0)) | (apply wlb (hd := rfl); exact qbx; (exact gy0); rfl) | refine wln ⟨_, rfl, rfl⟩ rfl ?_ | refine wlnu ⟨_, rfl, rfl⟩ rfl ?_ | (apply wln1 (hd := rfl); exact q_buildSlice 3 rfl rfl rfl rfl; (exact gy0); rfl) | refine wst rfl rfl rfl List.not_mem_nil rfl rfl rfl rfl rfl rfl ?_ | refine wappE (rows := []) (rows2 := js.map Jt.row) rfl rfl rfl (jt_cells js) (jt_lens js) (by simpa using hn) rfl rfl rfl rfl rfl ?_ | refine W_condT rfl ?_ | refine W_condF rfl ?_ | refine W_region ?_ | refine wN rfl ?_))
  refine Exists.intro _ ⟨Weak.refl _, Exists.intro _ ⟨resA_cell rfl rfl rfl rfl, ?_, rfl⟩⟩
  rfl
@[reducible] def OnceR (l : List Int) (r : AV) (cs : List AV) : Prop := ∃ b : Bool, r = vb b ∧ CurR l cs
theorem l01Once_ok (l : List Int) (hl : Bts l) (n : Int) (hn0 : 0 < n) (hn : n ≤ 10000) (i : Nat) (h : Int) : CallPtr Tryz.prog 67 [.ptr 1000000 0, vi n] [slU l, vi i, vi h] (OnceR l) := by
  refine callPtr Tryz.func67 Tryz.ntmps67 Tryz.results67 rfl rfl rfl fun B w0 b T I0 V0 => ?_
  (repeat (first | refine WL_nil ?_ | (apply wl0 (hd := rfl); (first | exact qv9); (exact gy0)) | (apply wlb (hd := rfl); exact qbx; (exact gy0); rfl) | refine wln ⟨_, rfl, rfl⟩ rfl ?_ | refine wlnu ⟨_, rfl, rfl⟩ rfl ?_ | refine wst rfl rfl rfl List.not_mem_nil rfl rfl rfl rfl rfl rfl ?_ | refine W_condT rfl ?_ | refine W_condF rfl ?_ | refine W_region ?_ | refine wN rfl ?_))
  refine wldraw (l01Below_ok l hl n hn0 hn i h) rfl (by repeat' (first | exact PtA.nil | refine PtA.ptr ?_ | refine PtA.v ?_)) rfl rfl List.not_mem_nil rfl (fun x i1 h1 hx0 hx1 => ?_)
  (repeat (first | refine WL_nil ?_ | (apply wl0 (hd := rfl); (first | exact qv9); (exact gy0)) | (apply wlb (hd := rfl); exact qbx; (exact gy0); rfl) | refine wln ⟨_, rfl, rfl⟩ rfl ?_ | refine wlnu ⟨_, rfl, rfl⟩ rfl ?_ | refine wst rfl rfl rfl List.not_mem_nil rfl rfl rfl rfl rfl rfl ?_ | refine W_condT rfl ?_ | refine W_condF rfl ?_ | refine W_region ?_ | refine wN rfl ?_))
  refine ptrEnd (Weak.refl _) (resA_tmp rfl rfl) rfl rfl rfl ?_
  exact ⟨_, rfl, i1, h1, rfl⟩
@[reducible] def ArchD (l : List Int) (r : AV) (cs : List AV) : Prop := ∃ js : List Jt, archB js = true ∧ SmJ 22 js ∧ r = .agg [slJt js] ∧ CurR l cs
theorem l06Arch_ok (l : List Int) (hl : Bts l) (i : Nat) (h : Int) : CallPtr Tryz.prog 78 [.ptr 1000000 0] [slU l, vi i, vi h] (ArchD l) := by
  refine callPtr Tryz.func78 Tryz.ntmps78 Tryz.results78 rfl rfl rfl fun B w0 b T I0 V0 => ?_
  (repeat (first | refine WL_nil ?_ | (apply wl0 (hd := rfl); (first | exact qv9); (exact gy0)) | (apply wlb (hd := rfl); exact qbx; (exact gy0); rfl) | refine wln ⟨_, rfl, rfl⟩ rfl ?_ | refine wlnu ⟨_, rfl, rfl⟩ rfl ?_ | refine wst rfl rfl rfl List.not_mem_nil rfl rfl rfl rfl rfl rfl ?_ | refine W_condT rfl ?_ | refine W_condF rfl ?_ | refine W_region ?_ | refine wN rfl ?_))
  refine wldraw (l01Below_ok l hl 6 (by decide) (by decide) i h) rfl (by repeat' (first | exact PtA.nil | refine PtA.ptr ?_ | refine PtA.v ?_)) rfl rfl List.not_mem_nil rfl (fun x i1 h1 hx0 hx1 => ?_)
  obtain ⟨q, rfl⟩ : ∃ q : Nat, x = q := ⟨x.toNat, by omega⟩
  have cq := l06Shape_ok q (by omega)
  have aq := shp_ok q (by omega)
  have mq := shp_sm q (by omega)
  (repeat (first | refine WL_nil ?_ | (apply wl0 (hd := rfl); (first | exact qv9 | exact q_callA (cq)); (exact gy0)) | (apply wlb (hd := rfl); exact qbx; (exact gy0); rfl) | refine wln ⟨_, rfl, rfl⟩ rfl ?_ | refine wlnu ⟨_, rfl, rfl⟩ rfl ?_ | refine wst rfl rfl rfl List.not_mem_nil rfl rfl rfl rfl rfl rfl ?_ | refine W_condT rfl ?_ | refine W_condF rfl ?_ | refine W_region ?_ | refine wN rfl ?_))
  refine wldraw (l01Below_ok l hl 5 (by decide) (by decide) i1 h1) rfl (by repeat' (first | exact PtA.nil | refine PtA.ptr ?_ | refine PtA.v ?_)) rfl rfl List.not_mem_nil rfl (fun y i2 h2 hy0 hy1 => ?_)
  obtain ⟨k, rfl⟩ : ∃ k : Nat, y = k := ⟨y.toNat, by omega⟩
  (repeat (first | refine WL_nil ?_ | (apply wl0 (hd := rfl); (first | exact qv9); (exact gy0)) | (apply wlb (hd := rfl); exact qbx; (exact gy0); rfl) | refine wln ⟨_, rfl, rfl⟩ rfl ?_ | refine wlnu ⟨_, rfl, rfl⟩ rfl ?_ | refine wst rfl rfl rfl List.not_mem_nil rfl rfl rfl rfl rfl rfl ?_ | refine W_condT rfl ?_ | refine W_condF rfl ?_ | refine W_region ?_ | refine wN rfl ?_))
  refine W_loop (fun n s => ∃ (m : Nat) (u : Int) (js : List Jt) (i : Nat) (h : Int), m ≤ 4 ∧ n = m ∧ u = m ∧ archB js = true ∧ SmJ (22 - m) js ∧ s = ⟨[(0, .ptr 1000000 0), (2, .ptr 2 0), (3, .ptr 3 0), (4, vi u)], [(3, [slJt js]), (2, [.v (.slice none 0 0)]), (1000000, [slU l, vi i, vi h])], []⟩) ⟨_, _, ⟨k, k, shp q, i2, h2, by omega, rfl, rfl, aq, mq.le (by omega), rfl⟩, wkA⟩ ?_
  rintro m s ⟨_, u, js, i3, h3, hm, rfl, hu, ha, hs, rfl⟩
  have h8 := arch_len ha
  have hne : 0 < (js.map Jt.row).length := by simp; omega
  cases m with
  | zero =>
    have c1 : abin .gtr .i64 u 0 = some (.bool false) := by simp [abin]; omega
    (repeat (first | refine WL_nil ?_ | (apply wl0 (hd := rfl); (first | exact QV_bin rfl rfl c1 | exact qv9); (exact gy0)) | (apply wlb (hd := rfl); exact qbx; (exact gy0); rfl) | refine wln ⟨_, rfl, rfl⟩ rfl ?_ | refine wlnu ⟨_, rfl, rfl⟩ rfl ?_ | refine wst rfl rfl rfl List.not_mem_nil rfl rfl rfl rfl rfl rfl ?_ | refine W_condT rfl ?_ | refine W_condF rfl ?_ | refine W_region ?_ | refine wN rfl ?_))
    refine ptrEnd (s' := ⟨[(2, .ptr 2 0)], [(2, [slJt js]), (1000000, [slU l, vi i3, vi h3])], []⟩) wkA (resA_cell rfl rfl rfl rfl) rfl rfl rfl ?_
    exact ⟨js, ha, hs, rfl, i3, h3, rfl⟩
  | succ m =>
    have c1 : abin .gtr .i64 u 0 = some (.bool true) := by simp [abin]; omega
    (repeat (first | refine WL_nil ?_ | (apply wl0 (hd := rfl); (first | exact QV_bin rfl rfl c1 | exact qv9 | exact QV_lenA rfl); (exact gy0)) | (apply wlb (hd := rfl); exact qbx; (exact gy0); rfl) | refine wln ⟨_, rfl, rfl⟩ rfl ?_ | refine wlnu ⟨_, rfl, rfl⟩ rfl ?_ | refine wst rfl rfl rfl List.not_mem_nil rfl rfl rfl rfl rfl rfl ?_ | refine wlmu (n := 3) (N := 2000000) (l06Copy_ok js (by omega)) rfl hne (map_plainB (fun _ => rfl)) rfl (by (repeat' (first | exact LeS.nil | refine LeS.v ?_ | refine LeS.sl ?_ | refine LeS.own ?_ | refine LeS.arr rfl (by first | exact len_map | exact len_mks) (map_lens (fun _ => rfl)) (map_plainB (fun _ => rfl)) ?_ | refine LeS.nilS ?_ | refine LeS.agg ?_ ?_)); first | done | fail "open") (by first | exact MutA.own | exact MutA.agg | exact MutA.tup | exact MutA.tupS) (List.length_map _) rfl rfl (fun more2000000 hmore2000000 => ?_) | refine W_condT rfl ?_ | refine W_condF rfl ?_ | refine W_region ?_ | refine wN rfl ?_))
    refine wldraw (l01Below_ok l hl js.length (by omega) (by omega) i3 h3) rfl (by repeat' (first | exact PtA.nil | refine PtA.ptr ?_ | refine PtA.v ?_)) rfl rfl List.not_mem_nil rfl (fun p i4 h4 hp0 hp1 => ?_)
    obtain ⟨j, rfl⟩ : ∃ j : Nat, p = j := ⟨p.toNat, by omega⟩
    have hj : j < js.length := by omega
    (repeat (first | refine WL_nil ?_ | (apply wl0 (hd := rfl); (first | exact qv9); (exact gy0)) | (apply wlb (hd := rfl); exact qbx; (exact gy0); rfl) | refine wln ⟨_, rfl, rfl⟩ rfl ?_ | refine wlnu ⟨_, rfl, rfl⟩ rfl ?_ | refine wst rfl rfl rfl List.not_mem_nil rfl rfl rfl rfl rfl rfl ?_ | refine W_condT rfl ?_ | refine W_condF rfl ?_ | refine W_region ?_ | refine wN rfl ?_))
    refine wldraw (l01Below_ok l hl 3 (by decide) (by decide) i4 h4) rfl (by repeat' (first | exact PtA.nil | refine PtA.ptr ?_ | refine PtA.v ?_)) rfl rfl List.not_mem_nil rfl (fun dx i5 h5 hdx0 hdx1 => ?_)
    (repeat (first | refine WL_nil ?_ | (apply wl0 (hd := rfl); (first | exact qv9); (exact gy0)) | (apply wlb (hd := rfl); exact qbx; (exact gy0); rfl) | refine wln ⟨_, rfl, rfl⟩ rfl ?_ | refine wlnu ⟨_, rfl, rfl⟩ rfl ?_ | refine wst rfl rfl rfl List.not_mem_nil rfl rfl rfl rfl rfl rfl ?_ | refine W_condT rfl ?_ | refine W_condF rfl ?_ | refine W_region ?_ | refine wN rfl ?_))
    refine wldraw (l01Below_ok l hl 3 (by decide) (by decide) i5 h5) rfl (by repeat' (first | exact PtA.nil | refine PtA.ptr ?_ | refine PtA.v ?_)) rfl rfl List.not_mem_nil rfl (fun dy i6 h6 hdy0 hdy1 => ?_)
    (repeat (first | refine WL_nil ?_ | (apply wl0 (hd := rfl); (first | exact qv9); (exact gy0)) | (apply wlb (hd := rfl); exact qbx; (exact gy0); rfl) | refine wln ⟨_, rfl, rfl⟩ rfl ?_ | refine wlnu ⟨_, rfl, rfl⟩ rfl ?_ | refine wst rfl rfl rfl List.not_mem_nil rfl rfl rfl rfl rfl rfl ?_ | refine W_condT rfl ?_ | refine W_condF rfl ?_ | refine W_region ?_ | refine wN rfl ?_))
    refine wlptr 0 [] (l01Once_ok l hl 2 (by decide) (by decide) i6 h6) rfl (by repeat' (first | exact PtA.nil | refine PtA.ptr ?_ | refine PtA.v ?_)) rfl rfl List.not_mem_nil (fun r cs ⟨b, hr, i, h, hc⟩ => by subst hr; subst hc; exact ⟨rfl, rfl⟩) rfl rfl (fun r cs hR => ?_)
    obtain ⟨b, rfl, i7, h7, rfl⟩ := hR
    have hat := hs.at hj
    unfold smP at hat
    have r0 : RowAt (js.map Jt.row ++ more2000000) j 4 (jat js j).row := ⟨by rw [List.getElem?_append_left (by simpa using hj)]; exact row_at (jat_lt hj), fun r hr => by
      rcases List.mem_append.1 hr with hr | hr
      · exact jt_lens js r hr
      · exact (hmore2000000 r hr).1⟩
    cases b
    · (repeat (first | refine WL_nil ?_ | (apply wl0 (hd := rfl); (first | exact qv9); (exact gy0)) | (apply wlb (hd := rfl); exact qbx; (exact gy0); rfl) | refine wln ⟨_, rfl, rfl⟩ rfl ?_ | refine wlnu ⟨_, rfl, rfl⟩ rfl ?_ | refine wst rfl rfl rfl List.not_mem_nil rfl rfl rfl rfl rfl rfl ?_ | refine W_condT rfl ?_ | refine W_condF rfl ?_ | refine W_region ?_ | refine wN rfl ?_))
      refine wdraw 24 (by kernel_rfl) (by kernel_rfl) (by kernel_rfl) rfl ?_
      (repeat (first | refine HW_nil ?_ | (apply hw0 (hd := rfl); (first | exact qv9 | exact QV_indexA rfl rfl rfl hj | exact q_loadA (j := j) (o := 2) rfl rfl r0.len r0.at_ rfl rfl | exact q_loadA (j := j) (o := 3) rfl rfl r0.len r0.at_ rfl rfl); (exact gy0)) | (apply hwb (hd := rfl); exact qbx; (exact gy0); rfl) | refine hwn ⟨_, rfl, rfl⟩ rfl ?_ | refine hwnu ⟨_, rfl, rfl⟩ rfl ?_))
      obtain ⟨js', hjs⟩ : ∃ js' : List Jt, js' = js.set j (⟨(jat js j).i, ⟨(jat js j).o.x + (dx - 1), (jat js j).o.y + (dy - 1)⟩⟩) := ⟨_, rfl⟩
      have hlen : js'.length = js.length := by rw [hjs, List.length_set]
      have hset : (js.map Jt.row ++ more2000000).set j (Jt.row (⟨(jat js j).i, ⟨(jat js j).o.x + (dx - 1), (jat js j).o.y + (dy - 1)⟩⟩)) = js'.map Jt.row ++ more2000000 := by
        rw [List.set_append_left _ _ (by simpa using hj), hjs, List.map_set]
      have hs' : SmJ (22 - m) js' := by
        rw [hjs]
        refine (hs.le (by omega)).set j ?_
        unfold smP
        exact ⟨by simp only; omega, by simp only; omega⟩
      (repeat (first | refine WL_nil ?_ | (apply wl0 (hd := rfl); (first | exact qv9); (exact gy0)) | (apply wlb (hd := rfl); exact qbx; (exact gy0); rfl) | refine wln ⟨_, rfl, rfl⟩ rfl ?_ | refine wlnu ⟨_, rfl, rfl⟩ rfl ?_ | refine wst rfl rfl rfl List.not_mem_nil rfl rfl rfl rfl rfl rfl ?_ | refine wstP (j := j) (e := 4) (o := 2) rfl rfl rfl List.not_mem_nil rfl rfl rfl rfl r0.at_ rfl r0.len rfl ?_ | refine W_condT rfl ?_ | refine W_condF rfl ?_ | refine W_region ?_ | refine wN rfl ?_))
      rw [hset]
      cases ha' : archB js'
      · have hok := archOk_ok js' (by omega)
        rw [ha'] at hok
        rw [← hlen]
        (repeat (first | refine WL_nil ?_ | (apply wl0 (hd := rfl); (first | exact qv9 | exact q_callSA (hok)); (exact gy0)) | (apply wlb (hd := rfl); exact qbx; (exact gy0); rfl) | refine wln ⟨_, rfl, rfl⟩ rfl ?_ | refine wlnu ⟨_, rfl, rfl⟩ rfl ?_ | refine wst rfl rfl rfl List.not_mem_nil rfl rfl rfl rfl rfl rfl ?_ | refine W_condT rfl ?_ | refine W_condF rfl ?_ | refine W_region ?_ | refine wN rfl ?_))
        refine Exists.intro _ (Exists.intro _ ⟨?_, ⟨m, u - 1, js, i7, h7, by omega, rfl, by omega, ha, hs.le (by omega), rfl⟩, wkA⟩)
        omega
      · have hok := archOk_ok js' (by omega)
        rw [ha'] at hok
        rw [← hlen]
        (repeat (first | refine WL_nil ?_ | (apply wl0 (hd := rfl); (first | exact qv9 | exact q_callSA (hok)); (exact gy0)) | (apply wlb (hd := rfl); exact qbx; (exact gy0); rfl) | refine wln ⟨_, rfl, rfl⟩ rfl ?_ | refine wlnu ⟨_, rfl, rfl⟩ rfl ?_ | refine wst rfl rfl rfl List.not_mem_nil rfl rfl rfl rfl rfl rfl ?_ | refine W_condT rfl ?_ | refine W_condF rfl ?_ | refine W_region ?_ | refine wN rfl ?_))
        refine Exists.intro _ (Exists.intro _ ⟨?_, ⟨m, u - 1, js', i7, h7, by omega, rfl, by omega, ha', hs', rfl⟩, ?_⟩)
        · omega
        · exact weak_dat 2000000 79 4 (js'.map Jt.row) more2000000.flatten rfl (by rw [← List.flatten_append]; rfl) (jt_lens js') (map_plainB (fun _ => rfl)) (by repeat' (first | exact trivial | refine And.intro ?_ ?_ | exact .inr (.inl rfl))) ⟨⟨_, rfl, .cons (.inl ⟨congrArg (AV.arr 2000000 79 4) (List.length_map _).symm, rfl⟩) .nil⟩, ⟨_, rfl, DLes.refl _⟩, ⟨_, rfl, DLes.refl _⟩, trivial⟩ rfl (by repeat' (first | exact trivial | refine And.intro ?_ ?_ | exact rfl)) rfl rfl (fun k b U hp => by obtain ⟨rfl, rfl, rfl⟩ := hp; simp)
    · (repeat (first | refine WL_nil ?_ | (apply wl0 (hd := rfl); (first | exact qv9); (exact gy0)) | (apply wlb (hd := rfl); exact qbx; (exact gy0); rfl) | refine wln ⟨_, rfl, rfl⟩ rfl ?_ | refine wlnu ⟨_, rfl, rfl⟩ rfl ?_ | refine wst rfl rfl rfl List.not_mem_nil rfl rfl rfl rfl rfl rfl ?_ | refine W_condT rfl ?_ | refine W_condF rfl ?_ | refine W_region ?_ | refine wN rfl ?_))
      refine wdraw 24 (by kernel_rfl) (by kernel_rfl) (by kernel_rfl) rfl ?_
      (repeat (first | refine HW_nil ?_ | (apply hw0 (hd := rfl); (first | exact qv9 | exact QV_indexA rfl rfl rfl hj | exact q_loadA (j := j) (o := 0) rfl rfl r0.len r0.at_ rfl rfl | exact q_loadA (j := j) (o := 1) rfl rfl r0.len r0.at_ rfl rfl); (exact gy0)) | (apply hwb (hd := rfl); exact qbx; (exact gy0); rfl) | refine hwn ⟨_, rfl, rfl⟩ rfl ?_ | refine hwnu ⟨_, rfl, rfl⟩ rfl ?_))
      obtain ⟨js', hjs⟩ : ∃ js' : List Jt, js' = js.set j (⟨⟨(jat js j).i.x + (dx - 1), (jat js j).i.y + (dy - 1)⟩, (jat js j).o⟩) := ⟨_, rfl⟩
      have hlen : js'.length = js.length := by rw [hjs, List.length_set]
      have hset : (js.map Jt.row ++ more2000000).set j (Jt.row (⟨⟨(jat js j).i.x + (dx - 1), (jat js j).i.y + (dy - 1)⟩, (jat js j).o⟩)) = js'.map Jt.row ++ more2000000 := by
        rw [List.set_append_left _ _ (by simpa using hj), hjs, List.map_set]
      have hs' : SmJ (22 - m) js' := by
        rw [hjs]
        refine (hs.le (by omega)).set j ?_
        unfold smP
        exact ⟨by simp only; omega, by simp only; omega⟩
      (repeat (first | refine WL_nil ?_ | (apply wl0 (hd := rfl); (first | exact qv9); (exact gy0)) | (apply wlb (hd := rfl); exact qbx; (exact gy0); rfl) | refine wln ⟨_, rfl, rfl⟩ rfl ?_ | refine wlnu ⟨_, rfl, rfl⟩ rfl ?_ | refine wst rfl rfl rfl List.not_mem_nil rfl rfl rfl rfl rfl rfl ?_ | refine wstP (j := j) (e := 4) (o := 0) rfl rfl rfl List.not_mem_nil rfl rfl rfl rfl r0.at_ rfl r0.len rfl ?_ | refine W_condT rfl ?_ | refine W_condF rfl ?_ | refine W_region ?_ | refine wN rfl ?_))
      rw [hset]
      cases ha' : archB js'
      · have hok := archOk_ok js' (by omega)
        rw [ha'] at hok
        rw [← hlen]
        (repeat (first | refine WL_nil ?_ | (apply wl0 (hd := rfl); (first | exact qv9 | exact q_callSA (hok)); (exact gy0)) | (apply wlb (hd := rfl); exact qbx; (exact gy0); rfl) | refine wln ⟨_, rfl, rfl⟩ rfl ?_ | refine wlnu ⟨_, rfl, rfl⟩ rfl ?_ | refine wst rfl rfl rfl List.not_mem_nil rfl rfl rfl rfl rfl rfl ?_ | refine W_condT rfl ?_ | refine W_condF rfl ?_ | refine W_region ?_ | refine wN rfl ?_))
        refine Exists.intro _ (Exists.intro _ ⟨?_, ⟨m, u - 1, js, i7, h7, by omega, rfl, by omega, ha, hs.le (by omega), rfl⟩, wkA⟩)
        omega
      · have hok := archOk_ok js' (by omega)
        rw [ha'] at hok
        rw [← hlen]
        (repeat (first | refine WL_nil ?_ | (apply wl0 (hd := rfl); (first | exact qv9 | exact q_callSA (hok)); (exact gy0)) | (apply wlb (hd := rfl); exact qbx; (exact gy0); rfl) | refine wln ⟨_, rfl, rfl⟩ rfl ?_ | refine wlnu ⟨_, rfl, rfl⟩ rfl ?_ | refine wst rfl rfl rfl List.not_mem_nil rfl rfl rfl rfl rfl rfl ?_ | refine W_condT rfl ?_ | refine W_condF rfl ?_ | refine W_region ?_ | refine wN rfl ?_))
        refine Exists.intro _ (Exists.intro _ ⟨?_, ⟨m, u - 1, js', i7, h7, by omega, rfl, by omega, ha', hs', rfl⟩, ?_⟩)
        · omega
        · exact weak_dat 2000000 79 4 (js'.map Jt.row) more2000000.flatten rfl (by rw [← List.flatten_append]; rfl) (jt_lens js') (map_plainB (fun _ => rfl)) (by repeat' (first | exact trivial | refine And.intro ?_ ?_ | exact .inr (.inl rfl))) ⟨⟨_, rfl, .cons (.inl ⟨congrArg (AV.arr 2000000 79 4) (List.length_map _).symm, rfl⟩) .nil⟩, ⟨_, rfl, DLes.refl _⟩, ⟨_, rfl, DLes.refl _⟩, trivial⟩ rfl (by repeat' (first | exact trivial | refine And.intro ?_ ?_ | exact rfl)) rfl rfl (fun k b U hp => by obtain ⟨rfl, rfl, rfl⟩ := hp; simp)
end Go.Proofs.YtkieepmkcaipaaaGreat

namespace Go.Proofs.YtkieepmkcaipaaaGreat
open Go.Eng
set_option maxRecDepth 100000
attribute [local irreducible] QV TV WL HW W CallOk Weak

theorem ld_cells1 (l : Ld) : ∀ x ∈ [l.row].flatten, isCell x = true := by
  intro x hx
  simp only [List.flatten_cons, List.flatten_nil, List.append_nil, Ld.row, List.mem_cons, List.not_mem_nil, or_false] at hx
  rcases hx with rfl | rfl | rfl <;> rfl
theorem ld_lens1 (l : Ld) : ∀ r ∈ [l.row], r.length = 3 := by
  intro r hr
  simp only [List.mem_singleton] at hr
  subst hr; rfl
theorem draws_fn (l : List Int) (hl : Bts l) : ∃ B : Int → Nat → Int → Int × Nat × Int, ∀ n i h, 0 < n → n ≤ 256 → 0 ≤ (B n i h).1 ∧ (B n i h).1 < n ∧ CallPtr Tryz.prog 115 [.ptr 1000000 0, vi n] [slU l, vi i, vi h] (DetR l (B n i h).1 (B n i h).2.1 (B n i h).2.2) := by
  have H : ∀ q : Int × Nat × Int, ∃ p : Int × Nat × Int, 0 < q.1 → q.1 ≤ 256 → 0 ≤ p.1 ∧ p.1 < q.1 ∧ CallPtr Tryz.prog 115 [.ptr 1000000 0, vi q.1] [slU l, vi q.2.1, vi q.2.2] (DetR l p.1 p.2.1 p.2.2) := by
    rintro ⟨n, i, h⟩
    by_cases hn : 0 < n ∧ n ≤ 256
    · obtain ⟨x, i1, h1, k0, k1, k2⟩ := l01Below_det l hl n hn.1 hn.2 i h
      exact ⟨⟨x, i1, h1⟩, fun _ _ => ⟨k0, k1, k2⟩⟩
    · exact ⟨⟨0, 0, 0⟩, fun a b => absurd ⟨a, b⟩ hn⟩
  obtain ⟨B, hB⟩ := Classical.axiomOfChoice H
  exact ⟨fun n i h => B ⟨n, i, h⟩, fun n i h h0 h1 => hB ⟨n, i, h⟩ h0 h1⟩
theorem pickInt_det {l : List Int} {xs : List Int} {j : Nat} {i i1 : Nat} {h h1 : Int} {p m : Int} (hm : (xs.length : Int) = m) (hj : xs[j]? = some p) (c : CallPtr Tryz.prog 115 [.ptr 1000000 0, vi m] [slU l, vi i, vi h] (DetR l j i1 h1)) : CallPtr Tryz.prog 117 [.ptr 1000000 0, .sl 1 (xs.map fun n => [vi n])] [slU l, vi i, vi h] (DetR l p i1 h1) := by
  subst hm
  refine callPtr Tryz.func117 Tryz.ntmps117 Tryz.results117 rfl rfl rfl fun B w0 b T I0 V0 => ?_
  (repeat (first | refine WL_nil ?_ | (apply wl0 (hd := rfl); (first | exact qv9); (exact gy0)) | (apply wlb (hd := rfl); exact qbx; (exact gy0); rfl) | refine wln ⟨_, rfl, rfl⟩ rfl ?_ | refine wlnu ⟨_, rfl, rfl⟩ rfl ?_ | refine wst rfl rfl rfl List.not_mem_nil rfl rfl rfl rfl rfl rfl ?_ | refine W_condT rfl ?_ | refine W_condF rfl ?_ | refine W_region ?_ | refine wN rfl ?_))
  refine wlptr 0 [] c rfl (by repeat' (first | exact PtA.nil | refine PtA.ptr ?_ | (rw [List.length_map]; refine PtA.v ?_) | refine PtA.v ?_)) rfl rfl List.not_mem_nil (fun r cs ⟨hr, hc⟩ => by subst hr; subst hc; exact ⟨rfl, rfl⟩) rfl rfl (fun r cs hR => ?_)
  obtain ⟨rfl, rfl⟩ := hR
  (repeat (first | refine WL_nil ?_ | (apply wl0 (hd := rfl); (first | exact qv9 | exact QV_indexAddr rfl rfl rfl rfl (row_at (f := fun n => [vi n]) hj)); (exact gy0)) | (apply wlb (hd := rfl); exact qbx; (exact gy0); rfl) | refine wln ⟨_, rfl, rfl⟩ rfl ?_ | refine wlnu ⟨_, rfl, rfl⟩ rfl ?_ | refine wst rfl rfl rfl List.not_mem_nil rfl rfl rfl rfl rfl rfl ?_ | refine W_condT rfl ?_ | refine W_condF rfl ?_ | refine W_region ?_ | refine wN rfl ?_))
  refine ptrEnd (Weak.refl _) (resA_tmp rfl rfl) rfl rfl rfl ?_
  exact ⟨rfl, rfl⟩
def LdOk (js : List Jt) (ld : Ld) : Prop := (0 ≤ ld.s ∧ ld.s < (js.length : Int) - 1) ∧ (0 ≤ ld.w ∧ ld.w ≤ 200) ∧ -60 ≤ ld.x ∧ ld.x ≤ 60
@[reducible] def LoadR (l : List Int) (ls : List Ld) (i : Nat) (h : Int) (r : AV) (cs : List AV) : Prop := r = slLd ls ∧ cs = [slU l, vi i, vi h]
theorem l07Loads_det (l : List Int) (hl : Bts l) (js : List Jt) (h8 : 3 ≤ js.length ∧ js.length ≤ 8) (hs : SmJ 22 js) (i : Nat) (h : Int) : ∃ (ls : List Ld) (i1 : Nat) (h1 : Int), ls.length ≤ 3 ∧ (∀ ld ∈ ls, LdOk js ld) ∧ CallPtr Tryz.prog 79 [.ptr 1000000 0, .agg [slJt js]] [slU l, vi i, vi h] (LoadR l ls i1 h1) := by
  obtain ⟨D, hD⟩ := draws_fn l hl
  obtain ⟨n0, i0, h0, e0⟩ : ∃ n0 i0 h0, D 4 i h = (n0, i0, h0) := ⟨_, _, _, rfl⟩
  have b0 := hD 4 i h (by decide) (by decide)
  rw [e0] at b0
  obtain ⟨k00, k01, c0⟩ := b0
  obtain ⟨n, rfl⟩ : ∃ n : Nat, n0 = n := ⟨n0.toNat, by omega⟩
  simp only at k01
  let list5 : List Int := [0, 6, 20, 60, 200]
  let stepL : Nat × Int → Ld × (Nat × Int) := fun p =>
    let b1 := D ((js.length : Int) - 1) p.1 p.2
    let b2 := D 5 b1.2.1 b1.2.2
    let b3 := D 4 b2.2.1 b2.2.2
    (⟨b1.1, list5.getD b2.1.toNat 0, (jat js b1.1.toNat).o.x + b3.1⟩, b3.2)
  let iter : Nat → List Ld × (Nat × Int) := fun k => Nat.rec ([], (i0, h0)) (fun _ r => (r.1 ++ [(stepL r.2).1], (stepL r.2).2)) k
  have iter_s : ∀ k, iter (k + 1) = ((iter k).1 ++ [(stepL (iter k).2).1], (stepL (iter k).2).2) := fun _ => rfl
  have len : ∀ k, (iter k).1.length = k := by
    intro k
    induction k with
    | zero => rfl
    | succ k ih => rw [iter_s]; simp [ih]
  have five : ∀ x : Int, 0 ≤ x → x < 5 → ∃ p, list5[x.toNat]? = some p ∧ 0 ≤ p ∧ p ≤ 200 ∧ list5.getD x.toNat 0 = p := fun x a b => by
    have : x = 0 ∨ x = 1 ∨ x = 2 ∨ x = 3 ∨ x = 4 := by omega
    rcases this with rfl | rfl | rfl | rfl | rfl <;> exact ⟨_, rfl, by decide, by decide, rfl⟩
  have ok1 : ∀ p, LdOk js (stepL p).1 := fun p => by
    obtain ⟨a0, a1, _⟩ := hD ((js.length : Int) - 1) p.1 p.2 (by omega) (by omega)
    obtain ⟨d0, d1, _⟩ := hD 5 (D ((js.length : Int) - 1) p.1 p.2).2.1 (D ((js.length : Int) - 1) p.1 p.2).2.2 (by decide) (by decide)
    obtain ⟨f0, f1, _⟩ := hD 4 (D 5 (D ((js.length : Int) - 1) p.1 p.2).2.1 (D ((js.length : Int) - 1) p.1 p.2).2.2).2.1 (D 5 (D ((js.length : Int) - 1) p.1 p.2).2.1 (D ((js.length : Int) - 1) p.1 p.2).2.2).2.2 (by decide) (by decide)
    obtain ⟨q, _, q1, q2, q3⟩ := five _ d0 d1
    have hat := (hs.at (k := (D ((js.length : Int) - 1) p.1 p.2).1.toNat) (by omega)).2
    unfold smP at hat
    refine ⟨⟨a0, a1⟩, ?_, ?_⟩
    · show 0 ≤ list5.getD _ 0 ∧ list5.getD _ 0 ≤ 200
      rw [q3]; exact ⟨q1, q2⟩
    · show -60 ≤ _ + _ ∧ _ + _ ≤ 60
      omega
  have okk : ∀ k, ∀ ld ∈ (iter k).1, LdOk js ld := by
    intro k
    induction k with
    | zero => intro ld hld; have h9 : ld ∈ ([] : List Ld) := hld; cases h9
    | succ k ih =>
      intro ld hld
      rw [iter_s] at hld
      rcases List.mem_append.1 hld with h1 | h1
      · exact ih ld h1
      · rw [List.mem_singleton.1 h1]; exact ok1 _
  refine ⟨(iter n).1, (iter n).2.1, (iter n).2.2, by rw [len]; omega, okk n, ?_⟩
  refine callPtr Tryz.func79 Tryz.ntmps79 Tryz.results79 rfl rfl rfl fun B w0 b T I0 V0 => ?_
  (repeat (first | refine WL_nil ?_ | (apply wl0 (hd := rfl); (first | exact qv9); (exact gy0)) | (apply wlb (hd := rfl); exact qbx; (exact gy0); rfl) | refine wln ⟨_, rfl, rfl⟩ rfl ?_ | refine wlnu ⟨_, rfl, rfl⟩ rfl ?_ | (apply wln1 (hd := rfl); exact q_buildSlice 10 rfl rfl rfl rfl; (exact gy0); rfl) | refine wst rfl rfl rfl List.not_mem_nil rfl rfl rfl rfl rfl rfl ?_ | refine W_condT rfl ?_ | refine W_condF rfl ?_ | refine W_region ?_ | refine wN rfl ?_))
  refine wlptr 0 [] c0 rfl (by repeat' (first | exact PtA.nil | refine PtA.ptr ?_ | refine PtA.v ?_)) rfl rfl List.not_mem_nil (fun r cs ⟨hr, hc⟩ => by subst hr; subst hc; exact ⟨rfl, rfl⟩) rfl rfl (fun r cs hR => ?_)
  obtain ⟨rfl, rfl⟩ := hR
  (repeat (first | refine WL_nil ?_ | (apply wl0 (hd := rfl); (first | exact qv9); (exact gy0)) | (apply wlb (hd := rfl); exact qbx; (exact gy0); rfl) | refine wln ⟨_, rfl, rfl⟩ rfl ?_ | refine wlnu ⟨_, rfl, rfl⟩ rfl ?_ | refine wst rfl rfl rfl List.not_mem_nil rfl rfl rfl rfl rfl rfl ?_ | refine W_condT rfl ?_ | refine W_condF rfl ?_ | refine W_region ?_ | refine wN rfl ?_))
  refine W_loop (fun m s => ∃ (k : Nat) (rows : List (List AV)) (pi : Nat) (ph : Int), k ≤ n ∧ m = n - k ∧ rows = (iter k).1.map Ld.row ∧ (iter k).2 = (pi, ph) ∧ s = ⟨[(0, .ptr 1000000 0), (3, .ptr 3 0), (5, .own 10 91 3 rows), (6, vi n), (7, vi k)], [(3, [slJt js]), (1000000, [slU l, vi pi, vi ph])], [10]⟩) ⟨_, _, ⟨0, [], i0, h0, by omega, rfl, rfl, rfl, rfl⟩, wkA⟩ ?_
  rintro m s ⟨k, rows, pi, ph, hk, rfl, hrows, hp, rfl⟩
  by_cases hlt : k < n
  · have c1 : abin .lss .i64 (k : Int) (n : Int) = some (.bool true) := by simp [abin]; omega
    have c2 : abin .gtr .i64 (js.length : Int) 1 = some (.bool true) := by simp [abin]; omega
    have d1 := hD ((js.length : Int) - 1) pi ph (by omega) (by omega)
    obtain ⟨x1, i1, g1, e1⟩ : ∃ x i h, D ((js.length : Int) - 1) pi ph = (x, i, h) := ⟨_, _, _, rfl⟩
    rw [e1] at d1
    obtain ⟨a0, a1, cx1⟩ := d1
    have d2 := hD 5 i1 g1 (by decide) (by decide)
    obtain ⟨x2, i2, g2, e2⟩ : ∃ x i h, D 5 i1 g1 = (x, i, h) := ⟨_, _, _, rfl⟩
    rw [e2] at d2
    obtain ⟨a2, a3, cx2⟩ := d2
    have d3 := hD 4 i2 g2 (by decide) (by decide)
    obtain ⟨x3, i3, g3, e3⟩ : ∃ x i h, D 4 i2 g2 = (x, i, h) := ⟨_, _, _, rfl⟩
    rw [e3] at d3
    obtain ⟨a4, a5, cx3⟩ := d3
    simp only at a0 a1 a2 a3 a4 a5 cx1 cx2 cx3
    obtain ⟨j, rfl⟩ : ∃ j : Nat, x1 = j := ⟨x1.toNat, by omega⟩
    obtain ⟨y, rfl⟩ : ∃ y : Nat, x2 = y := ⟨x2.toNat, by omega⟩
    obtain ⟨w5, hw5, _, _, hw6⟩ := five (y : Int) a2 a3
    have hw7 : ([0, 6, 20, 60, 200] : List Int)[y]? = some w5 := hw5
    have cp := pickInt_det (m := 5) rfl hw7 cx2
    have hst : stepL (iter k).2 = (⟨(j : Int), w5, (jat js j).o.x + x3⟩, (i3, g3)) := by
      rw [hp]
      have hw8 : list5.getD y 0 = w5 := hw6
      simp only [stepL, e1, e2, e3, Int.toNat_natCast, hw8]
    have hjl : j < js.length := by omega
    have hat := (hs.at hjl).2
    unfold smP at hat
    have hpj := jat_lt hjl
    have hr : rows.length + [(⟨(j : Int), w5, (jat js j).o.x + x3⟩ : Ld).row].length ≤ 1048576 := by rw [hrows, List.length_map, len]; simp; omega
    (repeat (first | refine WL_nil ?_ | (apply wl0 (hd := rfl); (first | exact QV_bin rfl rfl c1 | exact QV_bin rfl rfl c2 | exact qv9); (exact gy0)) | (apply wlb (hd := rfl); exact qbx; (exact gy0); rfl) | refine wln ⟨_, rfl, rfl⟩ rfl ?_ | refine wlnu ⟨_, rfl, rfl⟩ rfl ?_ | refine wst rfl rfl rfl List.not_mem_nil rfl rfl rfl rfl rfl rfl ?_ | refine W_condT rfl ?_ | refine W_condF rfl ?_ | refine W_region ?_ | refine wN rfl ?_))
    refine wlptr 0 [] cx1 rfl (by repeat' (first | exact PtA.nil | refine PtA.ptr ?_ | refine PtA.v ?_)) rfl rfl List.not_mem_nil (fun r cs ⟨hr, hc⟩ => by subst hr; subst hc; exact ⟨rfl, rfl⟩) rfl rfl (fun r cs hR => ?_)
    obtain ⟨rfl, rfl⟩ := hR
    (repeat (first | refine WL_nil ?_ | (apply wl0 (hd := rfl); (first | exact qv9); (exact gy0)) | (apply wlb (hd := rfl); exact qbx; (exact gy0); rfl) | refine wln ⟨_, rfl, rfl⟩ rfl ?_ | refine wlnu ⟨_, rfl, rfl⟩ rfl ?_ | (apply wln1 (hd := rfl); exact q_buildSlice 31 rfl rfl rfl rfl; (exact gy0); rfl) | refine wst rfl rfl rfl List.not_mem_nil rfl rfl rfl rfl rfl rfl ?_ | refine W_condT rfl ?_ | refine W_condF rfl ?_ | refine W_region ?_ | refine wN rfl ?_))
    refine wlptr 0 [] cp rfl (by repeat' (first | exact PtA.nil | refine PtA.ptr ?_ | refine PtA.v ?_ | refine PtA.own ?_)) rfl rfl List.not_mem_nil (fun r cs ⟨hr, hc⟩ => by subst hr; subst hc; exact ⟨rfl, rfl⟩) rfl rfl (fun r cs hR => ?_)
    obtain ⟨rfl, rfl⟩ := hR
    (repeat (first | refine WL_nil ?_ | (apply wl0 (hd := rfl); (first | exact qv9); (exact gy0)) | (apply wlb (hd := rfl); exact qbx; (exact gy0); rfl) | refine wln ⟨_, rfl, rfl⟩ rfl ?_ | refine wlnu ⟨_, rfl, rfl⟩ rfl ?_ | refine wst rfl rfl rfl List.not_mem_nil rfl rfl rfl rfl rfl rfl ?_ | refine W_condT rfl ?_ | refine W_condF rfl ?_ | refine W_region ?_ | refine wN rfl ?_))
    refine wdrawC 15 1000000 [11] (by kernel_rfl) (by kernel_rfl) (by kernel_rfl) (by kernel_rfl) (by kernel_rfl) rfl rfl rfl ?_
    (repeat (first | refine HC_nil ?_ | (apply hc0 (hd := rfl); (first | exact qv9 | exact QV_indexAddr rfl rfl rfl rfl (row_at hpj)); (exact gy0)) | refine hcn ⟨_, rfl, rfl⟩ rfl ?_ | (apply hcn1 (hd := rfl); exact q_buildSlice 47 rfl rfl rfl rfl; (exact gy0); rfl) | refine hcE (evPtr (cx3) rfl (by repeat' (first | exact PtA.nil | refine PtA.ptr ?_ | refine PtA.v ?_ | refine PtA.sl ?_ | refine PtA.own ?_ | refine PtA.agg (by (repeat' (first | exact LeDs.nil | refine LeDs.cons (by first | exact LeD.v | exact LeD.sl | exact LeD.own | exact LeD.nil | exact LeD.top) ?_))) ?_)) rfl rfl rfl List.not_mem_nil) rfl rfl ?_))
    (repeat (first | refine WL_nil ?_ | (apply wl0 (hd := rfl); (first | exact qv9); (exact gy0)) | (apply wlb (hd := rfl); exact qbx; (exact gy0); rfl) | refine wln ⟨_, rfl, rfl⟩ rfl ?_ | refine wlnu ⟨_, rfl, rfl⟩ rfl ?_ | refine wst rfl rfl rfl List.not_mem_nil rfl rfl rfl rfl rfl rfl ?_ | refine wapp (rows2 := [(⟨(j : Int), w5, (jat js j).o.x + x3⟩ : Ld).row]) rfl rfl rfl (ld_cells1 _) (ld_lens1 _) hr rfl rfl rfl rfl ?_ | refine W_condT rfl ?_ | refine W_condF rfl ?_ | refine W_region ?_ | refine wN rfl ?_))
    refine Exists.intro _ (Exists.intro _ ⟨?_, ⟨k + 1, rows ++ [(⟨(j : Int), w5, (jat js j).o.x + x3⟩ : Ld).row], i3, g3, by omega, rfl, by rw [hrows, iter_s, hst]; simp, by rw [iter_s, hst], rfl⟩, wkA⟩)
    omega
  · have c1 : abin .lss .i64 (k : Int) (n : Int) = some (.bool false) := by simp [abin]; omega
    have hk' : k = n := by omega
    subst hk'
    (repeat (first | refine WL_nil ?_ | (apply wl0 (hd := rfl); (first | exact QV_bin rfl rfl c1 | exact qv9); (exact gy0)) | (apply wlb (hd := rfl); exact qbx; (exact gy0); rfl) | refine wln ⟨_, rfl, rfl⟩ rfl ?_ | refine wlnu ⟨_, rfl, rfl⟩ rfl ?_ | refine wst rfl rfl rfl List.not_mem_nil rfl rfl rfl rfl rfl rfl ?_ | refine W_condT rfl ?_ | refine W_condF rfl ?_ | refine W_region ?_ | refine wN rfl ?_))
    refine ptrEnd (s' := ⟨[(4, .sl 3 rows)], [(1000000, [slU l, vi pi, vi ph])], []⟩) wkA (resA_tmp rfl rfl) rfl rfl rfl ?_
    rw [hp]
    exact ⟨by rw [hrows]; rfl, rfl⟩
theorem loadsB_of {js : List Jt} {ls : List Ld} (ha : archB js = true) (h6 : ls.length ≤ 6) (h : ∀ ld ∈ ls, (0 ≤ ld.s ∧ ld.s < (js.length : Int) - 1) ∧ (0 ≤ ld.w ∧ ld.w ≤ 10000) ∧ -60 ≤ ld.x ∧ ld.x ≤ 60) : loadsB js ls = true := by
  simp only [loadsB, ha, Bool.true_and, Bool.and_eq_true, decide_eq_true_eq, List.all_eq_true]
  refine ⟨h6, fun ld hld => ?_⟩
  have := h ld hld
  simp only [ldOk, Bool.and_eq_true, inR_true]
  omega
end Go.Proofs.YtkieepmkcaipaaaGreat

namespace Go.Proofs.YtkieepmkcaipaaaGreat
open Go.Eng
set_option maxRecDepth 100000
attribute [local irreducible] QV TV WL HW W CallOk Weak

theorem lbig_ok (l : List Int) : CallOk Tryz.prog 15 [slU l] (fun r => r = vb (decide ((1048576 : Int) < l.length))) := by
  refine callOk Tryz.func15 Tryz.ntmps15 Tryz.results15 rfl rfl rfl fun B w0 M I0 V0 => ?_
  (repeat (first | refine WL_nil ?_ | (apply wl0 (hd := rfl); (first | exact qv9); (exact gy0)) | (apply wlb (hd := rfl); exact qbx; (exact gy0); rfl) | refine wln ⟨_, rfl, rfl⟩ rfl ?_ | refine wlnu ⟨_, rfl, rfl⟩ rfl ?_ | refine wst rfl rfl rfl List.not_mem_nil rfl rfl rfl rfl rfl rfl ?_ | refine W_condT rfl ?_ | refine W_condF rfl ?_ | refine W_region ?_ | refine wN rfl ?_))
  refine Exists.intro _ ⟨Weak.refl _, Exists.intro _ ⟨resA_tmp rfl rfl, ?_, rfl⟩⟩
  rfl
def atL (l : List Int) : Int := if l.length = 0 then 0 else l.getD (1 % l.length) 0
theorem lat_ok (l : List Int) (hl : Bts l) : CallOk Tryz.prog 25 [slU l, vi 0] (fun r => r = vi (atL l)) := by
  have hn := hl.n
  by_cases h0 : l.length = 0
  · have c1 : abin .eql .i64 (l.length : Int) 0 = some (.bool true) := by simp [abin, h0]
    refine callOk Tryz.func25 Tryz.ntmps25 Tryz.results25 rfl rfl rfl fun B w0 M I0 V0 => ?_
    (repeat (first | refine WL_nil ?_ | (apply wl0 (hd := rfl); (first | exact QV_bin rfl rfl c1 | exact qv9); (exact gy0)) | (apply wlb (hd := rfl); exact qbx; (exact gy0); rfl) | refine wln ⟨_, rfl, rfl⟩ rfl ?_ | refine wlnu ⟨_, rfl, rfl⟩ rfl ?_ | refine wst rfl rfl rfl List.not_mem_nil rfl rfl rfl rfl rfl rfl ?_ | refine W_condT rfl ?_ | refine W_condF rfl ?_ | refine W_region ?_ | refine wN rfl ?_))
    refine Exists.intro _ ⟨Weak.refl _, Exists.intro _ ⟨resA_tmp rfl rfl, ?_, rfl⟩⟩
    rw [atL, if_pos h0]; rfl
  · have c1 : abin .eql .i64 (l.length : Int) 0 = some (.bool false) := by simp [abin, h0]
    obtain ⟨x, hx⟩ : ∃ x, l[1 % l.length]? = some x := ⟨_, List.getElem?_eq_getElem (Nat.mod_lt _ (by omega))⟩
    have hxu := hl.u x (List.mem_of_getElem? hx)
    unfold isU8 at hxu
    have hne : (l.length : Int) ≠ 0 := by omega
    have hr : adv .rem .i64 1 (l.length : Int) = some (.int .i64 ((1 % l.length : Nat) : Int)) := by
      simp only [adv]; rw [show (1 : Int) = ((1 : Nat) : Int) from rfl, ← Int.ofNat_tmod]
    refine callOk Tryz.func25 Tryz.ntmps25 Tryz.results25 rfl rfl rfl fun B w0 M I0 V0 => ?_
    (repeat (first | refine WL_nil ?_ | (apply wl0 (hd := rfl); (first | exact QV_bin rfl rfl c1 | exact qv9 | exact QV_div rfl rfl hne hr | exact QV_indexAddr rfl rfl rfl rfl (row_at hx) | exact q_convE Tryz.underlying5 Tryz.underlying3 rfl (i64w (by omega))); (exact gy0)) | (apply wlb (hd := rfl); exact qbx; (exact gy0); rfl) | refine wln ⟨_, rfl, rfl⟩ rfl ?_ | refine wlnu ⟨_, rfl, rfl⟩ rfl ?_ | refine wst rfl rfl rfl List.not_mem_nil rfl rfl rfl rfl rfl rfl ?_ | refine W_condT rfl ?_ | refine W_condF rfl ?_ | refine W_region ?_ | refine wN rfl ?_))
    refine Exists.intro _ ⟨Weak.refl _, Exists.intro _ ⟨resA_tmp rfl rfl, ?_, rfl⟩⟩
    have : l.getD (1 % l.length) 0 = x := by simp [hx]
    rw [atL, if_neg h0, this]; rfl
end Go.Proofs.YtkieepmkcaipaaaGreat

namespace Go.Proofs.YtkieepmkcaipaaaGreat
open Go.Eng

theorem atL_255 {l : List Int} (hl : Bts l) : 0 ≤ atL l ∧ atL l ≤ 255 := by
  unfold atL
  split
  · omega
  · rename_i h0
    have hi : 1 % l.length < l.length := Nat.mod_lt _ (by omega)
    have := hl.u l[1 % l.length] (List.getElem_mem hi)
    unfold isU8 at this
    simp only [List.getD_eq_getElem?_getD, List.getElem?_eq_getElem hi, Option.getD_some]
    exact this
end Go.Proofs.YtkieepmkcaipaaaGreat

namespace Go.Proofs.YtkieepmkcaipaaaGreat
open Go.ChangeShapes Go.WideShapes Go.ChangeAt Go.RowKit Go.Deep Go.Eng
set_option maxRecDepth 100000
attribute [local irreducible] QV TV WL HW W CallOk Weak

section
variable {H : Type} {enc : TypeId × Value → H} {W : World}
theorem ewf_u8 {x : Int} (h : (Lit.int .u8 x).wf = true) : isU8 x := by
  simp [Lit.wf, IntKind.min, IntKind.max, IntKind.bits, IntKind.signed] at h
  unfold isU8
  omega
theorem opens_U8 : Opens enc Tryz.prog W 5 1 (fun r => ∃ x : Int, r = u8r x ∧ isU8 x) := fun fuel cs x h _ => by
  obtain ⟨n, rfl, _, hw⟩ := DataW.trod_int Tryz.underlying5 h
  exact ⟨_, ⟨n, rfl, ewf_u8 hw⟩, by simp [dreps, drep], rfl⟩
theorem opens_Code : Opens enc Tryz.prog W 22 1 (RowsR 1 u8r isU8) :=
  opens_slice Tryz.underlying22 (by kernel_rfl) (by decide) opens_U8
theorem open_code {r : Reach} {b0 : Nat} {v : Value} {d : DataW H} {p : List MemPlace} (hv : Value.okWide Tryz.prog W r b0 22 v) (h : DataW.Trod enc Tryz.prog W 0 (fun _ => true) true 22 v d p) (hlt : ∀ x ∈ p, x.block < W.heap.size) :
    ∃ l : List Int, (∀ x ∈ l, isU8 x) ∧ l.length ≤ 9223372036854775807 ∧ drep (Old W) W (slU l) v := by
  obtain ⟨a0, len, cap, rfl⟩ := okWide_slice Tryz.underlying22 hv
  obtain ⟨x, ⟨l, e, h1, h2⟩, h3⟩ := open_cell opens_Code rfl h hlt
  cases e
  exact ⟨l, h1, h2, h3⟩
end
end Go.Proofs.YtkieepmkcaipaaaGreat
