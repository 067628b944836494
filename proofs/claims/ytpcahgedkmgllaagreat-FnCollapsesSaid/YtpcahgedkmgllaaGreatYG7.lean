/- Drawn arches: small, and arches. -/
import Derived.Test.YtpcahgedkmgllaaGreatYG6
import Derived.Test.YtpcahgedkmgllaaGreatZ15
import Derived.Test.YtpcahgedkmgllaaGreatZ16
import Derived.Test.YtpcahgedkmgllaaGreatZ5
import Derived.Test.YtpcahgedkmgllaaGreatYALd
set_option maxHeartbeats 4000000
namespace Go.Proofs.YtpcahgedkmgllaaGreat
open Go.Eng
set_option maxRecDepth 100000
attribute [local irreducible] QV TV WL HW W CallOk Weak

theorem jt_cells (l : List Jt) : ∀ x ∈ (l.map Jt.row).flatten, isCell x = true := by
  intro x hx
  obtain ⟨r, hr, hx⟩ := List.mem_flatten.1 hx
  obtain ⟨p, _, rfl⟩ := List.mem_map.1 hr
  simp only [Jt.row, List.mem_cons, List.not_mem_nil, or_false] at hx
  rcases hx with rfl | rfl | rfl | rfl <;> rfl
theorem jt_lens (l : List Jt) : ∀ r ∈ l.map Jt.row, r.length = 4 := by
  intro r hr
  obtain ⟨p, _, rfl⟩ := List.mem_map.1 hr
  rfl
theorem l06Shape0_ok : CallOk Tryz.prog 30 [vi 0] (fun r => r = .agg [slJt (shp 0)]) := by
  refine callOk_dat (X := .agg [.own 200 69 4 ((shp 0).map Jt.row)]) ?_ rfl
  refine callOk Tryz.func30 Tryz.ntmps30 Tryz.results30 rfl rfl rfl fun B w0 M I0 V0 => ?_
  (repeat (first | refine WL_nil ?_ | refine zq0 qv9 ?_ | refine zq1 ?_ | refine zq2 ?_ | refine zq3 ?_ | (apply wln1 (hd := rfl); exact q_buildSlice 200 rfl rfl rfl rfl; (exact gy0); rfl) | refine zq4 ?_ | refine zq5 ?_ | refine zq6 ?_ | refine wN rfl ?_))
  refine Exists.intro _ ⟨Weak.refl _, Exists.intro _ ⟨resA_cell rfl rfl rfl rfl, ?_, rfl⟩⟩
  rfl
theorem l06Shape1_ok : CallOk Tryz.prog 30 [vi 1] (fun r => r = .agg [slJt (shp 1)]) := by
  refine callOk_dat (X := .agg [.own 200 69 4 ((shp 1).map Jt.row)]) ?_ rfl
  refine callOk Tryz.func30 Tryz.ntmps30 Tryz.results30 rfl rfl rfl fun B w0 M I0 V0 => ?_
  (repeat (first | refine WL_nil ?_ | refine zq0 qv9 ?_ | refine zq1 ?_ | refine zq2 ?_ | refine zq3 ?_ | (apply wln1 (hd := rfl); exact q_buildSlice 200 rfl rfl rfl rfl; (exact gy0); rfl) | refine zq4 ?_ | refine zq5 ?_ | refine zq6 ?_ | refine wN rfl ?_))
  refine Exists.intro _ ⟨Weak.refl _, Exists.intro _ ⟨resA_cell rfl rfl rfl rfl, ?_, rfl⟩⟩
  rfl
theorem l06Shape2_ok : CallOk Tryz.prog 30 [vi 2] (fun r => r = .agg [slJt (shp 2)]) := by
  refine callOk_dat (X := .agg [.own 200 69 4 ((shp 2).map Jt.row)]) ?_ rfl
  refine callOk Tryz.func30 Tryz.ntmps30 Tryz.results30 rfl rfl rfl fun B w0 M I0 V0 => ?_
  (repeat (first | refine WL_nil ?_ | refine zq0 qv9 ?_ | refine zq1 ?_ | refine zq2 ?_ | refine zq3 ?_ | (apply wln1 (hd := rfl); exact q_buildSlice 200 rfl rfl rfl rfl; (exact gy0); rfl) | refine zq4 ?_ | refine zq5 ?_ | refine zq6 ?_ | refine wN rfl ?_))
  refine Exists.intro _ ⟨Weak.refl _, Exists.intro _ ⟨resA_cell rfl rfl rfl rfl, ?_, rfl⟩⟩
  rfl
theorem l06Shape3_ok : CallOk Tryz.prog 30 [vi 3] (fun r => r = .agg [slJt (shp 3)]) := by
  refine callOk_dat (X := .agg [.own 200 69 4 ((shp 3).map Jt.row)]) ?_ rfl
  refine callOk Tryz.func30 Tryz.ntmps30 Tryz.results30 rfl rfl rfl fun B w0 M I0 V0 => ?_
  (repeat (first | refine WL_nil ?_ | refine zq0 qv9 ?_ | refine zq1 ?_ | refine zq2 ?_ | refine zq3 ?_ | (apply wln1 (hd := rfl); exact q_buildSlice 200 rfl rfl rfl rfl; (exact gy0); rfl) | refine zq4 ?_ | refine zq5 ?_ | refine zq6 ?_ | refine wN rfl ?_))
  refine Exists.intro _ ⟨Weak.refl _, Exists.intro _ ⟨resA_cell rfl rfl rfl rfl, ?_, rfl⟩⟩
  rfl
theorem l06Shape4_ok : CallOk Tryz.prog 30 [vi 4] (fun r => r = .agg [slJt (shp 4)]) := by
  refine callOk_dat (X := .agg [.own 200 69 4 ((shp 4).map Jt.row)]) ?_ rfl
  refine callOk Tryz.func30 Tryz.ntmps30 Tryz.results30 rfl rfl rfl fun B w0 M I0 V0 => ?_
  (repeat (first | refine WL_nil ?_ | refine zq0 qv9 ?_ | refine zq1 ?_ | refine zq2 ?_ | refine zq3 ?_ | (apply wln1 (hd := rfl); exact q_buildSlice 200 rfl rfl rfl rfl; (exact gy0); rfl) | refine zq4 ?_ | refine zq5 ?_ | refine zq6 ?_ | refine wN rfl ?_))
  refine Exists.intro _ ⟨Weak.refl _, Exists.intro _ ⟨resA_cell rfl rfl rfl rfl, ?_, rfl⟩⟩
  rfl
theorem l06Shape5_ok : CallOk Tryz.prog 30 [vi 5] (fun r => r = .agg [slJt (shp 5)]) := by
  refine callOk_dat (X := .agg [.own 200 69 4 ((shp 5).map Jt.row)]) ?_ rfl
  refine callOk Tryz.func30 Tryz.ntmps30 Tryz.results30 rfl rfl rfl fun B w0 M I0 V0 => ?_
  (repeat (first | refine WL_nil ?_ | refine zq0 qv9 ?_ | refine zq1 ?_ | refine zq2 ?_ | refine zq3 ?_ | (apply wln1 (hd := rfl); exact q_buildSlice 200 rfl rfl rfl rfl; (exact gy0); rfl) | refine zq4 ?_ | refine zq5 ?_ | refine zq6 ?_ | refine wN rfl ?_))
  refine Exists.intro _ ⟨Weak.refl _, Exists.intro _ ⟨resA_cell rfl rfl rfl rfl, ?_, rfl⟩⟩
  rfl
theorem l06Shape_ok (k : Nat) (hk : k < 6) : CallOk Tryz.prog 30 [vi k] (fun r => r = .agg [slJt (shp k)]) := by
  have h : k = 0 ∨ k = 1 ∨ k = 2 ∨ k = 3 ∨ k = 4 ∨ k = 5 := by omega
  rcases h with rfl | rfl | rfl | rfl | rfl | rfl
  · exact l06Shape0_ok
  · exact l06Shape1_ok
  · exact l06Shape2_ok
  · exact l06Shape3_ok
  · exact l06Shape4_ok
  · exact l06Shape5_ok
theorem l06Copy_ok (js : List Jt) (hn : js.length ≤ 1048576) : CallOk Tryz.prog 46 [.agg [slJt js]] (fun r => r = .agg [.own 3 69 4 (js.map Jt.row)]) := by
  refine callOk Tryz.func46 Tryz.ntmps46 Tryz.results46 rfl rfl rfl fun B w0 M I0 V0 => ?_
  (repeat (first | refine WL_nil ?_ | refine zq0 qv9 ?_ | refine zq1 ?_ | refine zq2 ?_ | refine zq3 ?_ | (apply wln1 (hd := rfl); exact q_buildSlice 3 rfl rfl rfl rfl; (exact gy0); rfl) | refine zq4 ?_ | refine wappE (rows := []) (rows2 := js.map Jt.row) rfl rfl rfl (jt_cells js) (jt_lens js) (by simpa using hn) rfl rfl rfl rfl rfl ?_ | refine zq5 ?_ | refine zq6 ?_ | refine wN rfl ?_))
  refine Exists.intro _ ⟨Weak.refl _, Exists.intro _ ⟨resA_cell rfl rfl rfl rfl, ?_, rfl⟩⟩
  rfl
@[reducible] def OnceR (l : List Int) (r : AV) (cs : List AV) : Prop := ∃ b : Bool, r = vb b ∧ CurR l cs
theorem l01Once_ok (l : List Int) (hl : Bts l) (n : Int) (hn0 : 0 < n) (hn : n ≤ 10000) (i : Nat) (h : Int) : CallPtr Tryz.prog 14 [.ptr 1000000 0, vi n] [slU l, vi i, vi h] (OnceR l) := by
  refine callPtr Tryz.func14 Tryz.ntmps14 Tryz.results14 rfl rfl rfl fun B w0 b T I0 V0 => ?_
  (repeat (first | refine WL_nil ?_ | refine zq0 qv9 ?_ | refine zq1 ?_ | refine zq2 ?_ | refine zq3 ?_ | refine zq4 ?_ | refine zq5 ?_ | refine zq6 ?_ | refine wN rfl ?_))
  refine wldraw (l01Below_ok l hl n hn0 hn i h) rfl (by repeat' (first | exact PtA.nil | refine PtA.ptr ?_ | refine PtA.v ?_)) rfl rfl List.not_mem_nil rfl (fun x i1 h1 hx0 hx1 => ?_)
  (repeat (first | refine WL_nil ?_ | refine zq0 qv9 ?_ | refine zq1 ?_ | refine zq2 ?_ | refine zq3 ?_ | refine zq4 ?_ | refine zq5 ?_ | refine zq6 ?_ | refine wN rfl ?_))
  refine ptrEnd (Weak.refl _) (resA_tmp rfl rfl) rfl rfl rfl ?_
  exact ⟨_, rfl, i1, h1, rfl⟩
@[reducible] def ArchD (l : List Int) (r : AV) (cs : List AV) : Prop := ∃ js : List Jt, archB js = true ∧ SmJ 22 js ∧ r = .agg [slJt js] ∧ CurR l cs
theorem l06Arch_ok (l : List Int) (hl : Bts l) (i : Nat) (h : Int) : CallPtr Tryz.prog 31 [.ptr 1000000 0] [slU l, vi i, vi h] (ArchD l) := by
  refine callPtr Tryz.func31 Tryz.ntmps31 Tryz.results31 rfl rfl rfl fun B w0 b T I0 V0 => ?_
  (repeat (first | refine WL_nil ?_ | refine zq0 qv9 ?_ | refine zq1 ?_ | refine zq2 ?_ | refine zq3 ?_ | refine zq4 ?_ | refine zq5 ?_ | refine zq6 ?_ | refine wN rfl ?_))
  refine wldraw (l01Below_ok l hl 6 (by decide) (by decide) i h) rfl (by repeat' (first | exact PtA.nil | refine PtA.ptr ?_ | refine PtA.v ?_)) rfl rfl List.not_mem_nil rfl (fun x i1 h1 hx0 hx1 => ?_)
  obtain ⟨q, rfl⟩ : ∃ q : Nat, x = q := ⟨x.toNat, by omega⟩
  have cq := l06Shape_ok q (by omega)
  have aq := shp_ok q (by omega)
  have mq := shp_sm q (by omega)
  (repeat (first | refine WL_nil ?_ | refine zq0 (by first | exact qv9 | exact q_callA (cq)) ?_ | refine zq1 ?_ | refine zq2 ?_ | refine zq3 ?_ | refine zq4 ?_ | refine zq5 ?_ | refine zq6 ?_ | refine wN rfl ?_))
  refine wldraw (l01Below_ok l hl 5 (by decide) (by decide) i1 h1) rfl (by repeat' (first | exact PtA.nil | refine PtA.ptr ?_ | refine PtA.v ?_)) rfl rfl List.not_mem_nil rfl (fun y i2 h2 hy0 hy1 => ?_)
  obtain ⟨k, rfl⟩ : ∃ k : Nat, y = k := ⟨y.toNat, by omega⟩
  (repeat (first | refine WL_nil ?_ | refine zq0 qv9 ?_ | refine zq1 ?_ | refine zq2 ?_ | refine zq3 ?_ | refine zq4 ?_ | refine zq5 ?_ | refine zq6 ?_ | refine wN rfl ?_))
  refine W_loop (fun n s => ∃ (m : Nat) (u : Int) (js : List Jt) (i : Nat) (h : Int), m ≤ 4 ∧ n = m ∧ u = m ∧ archB js = true ∧ SmJ (22 - m) js ∧ s = ⟨[(0, .ptr 1000000 0), (2, .ptr 2 0), (3, .ptr 3 0), (4, vi u)], [(3, [slJt js]), (2, [.v (.slice none 0 0)]), (1000000, [slU l, vi i, vi h])], []⟩) ⟨_, _, ⟨k, k, shp q, i2, h2, by omega, rfl, rfl, aq, mq.le (by omega), rfl⟩, wkA⟩ ?_
  rintro m s ⟨_, u, js, i3, h3, hm, rfl, hu, ha, hs, rfl⟩
  have h8 := arch_len ha
  have hne : 0 < (js.map Jt.row).length := by simp; omega
  cases m with
  | zero =>
    have c1 : abin .gtr .i64 u 0 = some (.bool false) := by simp [abin]; omega
    (repeat (first | refine WL_nil ?_ | refine zq0 (by first | exact QV_bin rfl rfl c1 | exact qv9) ?_ | refine zq1 ?_ | refine zq2 ?_ | refine zq3 ?_ | refine zq4 ?_ | refine zq5 ?_ | refine zq6 ?_ | refine wN rfl ?_))
    refine ptrEnd (s' := ⟨[(2, .ptr 2 0)], [(2, [slJt js]), (1000000, [slU l, vi i3, vi h3])], []⟩) wkA (resA_cell rfl rfl rfl rfl) rfl rfl rfl ?_
    exact ⟨js, ha, hs, rfl, i3, h3, rfl⟩
  | succ m =>
    have c1 : abin .gtr .i64 u 0 = some (.bool true) := by simp [abin]; omega
    (repeat (first | refine WL_nil ?_ | refine zq0 (by first | exact QV_bin rfl rfl c1 | exact qv9 | exact QV_lenA rfl) ?_ | refine zq1 ?_ | refine zq2 ?_ | refine zq3 ?_ | refine zq4 ?_ | refine wlmu (n := 3) (N := 2000000) (l06Copy_ok js (by omega)) rfl hne (map_plainB (fun _ => rfl)) rfl (by (repeat' (first | exact LeS.nil | refine LeS.v ?_ | refine LeS.sl ?_ | refine LeS.own ?_ | refine LeS.arr rfl (by first | exact len_map | exact len_mks) (map_lens (fun _ => rfl)) (map_plainB (fun _ => rfl)) ?_ | refine LeS.nilS ?_ | refine LeS.agg ?_ ?_)); first | done | fail "open") (by first | exact MutA.own | exact MutA.agg | exact MutA.tup | exact MutA.tupS) (List.length_map _) rfl rfl (fun more2000000 hmore2000000 => ?_) | refine zq5 ?_ | refine zq6 ?_ | refine wN rfl ?_))
    refine wldraw (l01Below_ok l hl js.length (by omega) (by omega) i3 h3) rfl (by repeat' (first | exact PtA.nil | refine PtA.ptr ?_ | refine PtA.v ?_)) rfl rfl List.not_mem_nil rfl (fun p i4 h4 hp0 hp1 => ?_)
    obtain ⟨j, rfl⟩ : ∃ j : Nat, p = j := ⟨p.toNat, by omega⟩
    have hj : j < js.length := by omega
    (repeat (first | refine WL_nil ?_ | refine zq0 qv9 ?_ | refine zq1 ?_ | refine zq2 ?_ | refine zq3 ?_ | refine zq4 ?_ | refine zq5 ?_ | refine zq6 ?_ | refine wN rfl ?_))
    refine wldraw (l01Below_ok l hl 3 (by decide) (by decide) i4 h4) rfl (by repeat' (first | exact PtA.nil | refine PtA.ptr ?_ | refine PtA.v ?_)) rfl rfl List.not_mem_nil rfl (fun dx i5 h5 hdx0 hdx1 => ?_)
    (repeat (first | refine WL_nil ?_ | refine zq0 qv9 ?_ | refine zq1 ?_ | refine zq2 ?_ | refine zq3 ?_ | refine zq4 ?_ | refine zq5 ?_ | refine zq6 ?_ | refine wN rfl ?_))
    refine wldraw (l01Below_ok l hl 3 (by decide) (by decide) i5 h5) rfl (by repeat' (first | exact PtA.nil | refine PtA.ptr ?_ | refine PtA.v ?_)) rfl rfl List.not_mem_nil rfl (fun dy i6 h6 hdy0 hdy1 => ?_)
    (repeat (first | refine WL_nil ?_ | refine zq0 qv9 ?_ | refine zq1 ?_ | refine zq2 ?_ | refine zq3 ?_ | refine zq4 ?_ | refine zq5 ?_ | refine zq6 ?_ | refine wN rfl ?_))
    refine wlptr 0 [] (l01Once_ok l hl 2 (by decide) (by decide) i6 h6) rfl (by repeat' (first | exact PtA.nil | refine PtA.ptr ?_ | refine PtA.v ?_)) rfl rfl List.not_mem_nil (fun r cs ⟨b, hr, i, h, hc⟩ => by subst hr; subst hc; exact ⟨rfl, rfl⟩) rfl rfl (fun r cs hR => ?_)
    obtain ⟨b, rfl, i7, h7, rfl⟩ := hR
    have hat := hs.at hj
    unfold smP at hat
    have r0 : RowAt (js.map Jt.row ++ more2000000) j 4 (jat js j).row := ⟨by rw [List.getElem?_append_left (by simpa using hj)]; exact row_at (jat_lt hj), fun r hr => by
      rcases List.mem_append.1 hr with hr | hr
      · exact jt_lens js r hr
      · exact (hmore2000000 r hr).1⟩
    cases b
    · (repeat (first | refine WL_nil ?_ | refine zq0 qv9 ?_ | refine zq1 ?_ | refine zq2 ?_ | refine zq3 ?_ | refine zq4 ?_ | refine zq5 ?_ | refine zq6 ?_ | refine wN rfl ?_))
      refine wdraw 24 (by kernel_rfl) (by kernel_rfl) (by kernel_rfl) rfl ?_
      (repeat (first | refine HW_nil ?_ | (apply hw0 (hd := rfl); (first | exact qv9 | exact QV_indexA rfl rfl rfl hj | exact q_loadA (j := j) (o := 2) rfl rfl r0.len r0.at_ rfl rfl | exact q_loadA (j := j) (o := 3) rfl rfl r0.len r0.at_ rfl rfl); (exact gy0)) | (apply hwb (hd := rfl); exact qbx; (exact gy0); rfl) | refine zq7 ?_ | refine zq8 ?_))
      obtain ⟨js', hjs⟩ : ∃ js' : List Jt, js' = js.set j (⟨(jat js j).i, ⟨(jat js j).o.x + (dx - 1), (jat js j).o.y + (dy - 1)⟩⟩) := ⟨_, rfl⟩
      have hlen : js'.length = js.length := by rw [hjs, List.length_set]
      have hset : (js.map Jt.row ++ more2000000).set j (Jt.row (⟨(jat js j).i, ⟨(jat js j).o.x + (dx - 1), (jat js j).o.y + (dy - 1)⟩⟩)) = js'.map Jt.row ++ more2000000 := by
        rw [List.set_append_left _ _ (by simpa using hj), hjs, List.map_set]
      have hs' : SmJ (22 - m) js' := by
        rw [hjs]
        refine (hs.le (by omega)).set j ?_
        unfold smP
        exact ⟨by simp only; omega, by simp only; omega⟩
      (repeat (first | refine WL_nil ?_ | refine zq0 qv9 ?_ | refine zq1 ?_ | refine zq2 ?_ | refine zq3 ?_ | refine zq4 ?_ | refine wstP (j := j) (e := 4) (o := 2) rfl rfl rfl List.not_mem_nil rfl rfl rfl rfl r0.at_ rfl r0.len rfl ?_ | refine zq5 ?_ | refine zq6 ?_ | refine wN rfl ?_))
      rw [hset]
      cases ha' : archB js'
      · have hok := archOk_ok js' (by omega)
        rw [ha'] at hok
        rw [← hlen]
        (repeat (first | refine WL_nil ?_ | refine zq0 (by first | exact qv9 | exact q_callSA (hok)) ?_ | refine zq1 ?_ | refine zq2 ?_ | refine zq3 ?_ | refine zq4 ?_ | refine zq5 ?_ | refine zq6 ?_ | refine wN rfl ?_))
        refine Exists.intro _ (Exists.intro _ ⟨?_, ⟨m, u - 1, js, i7, h7, by omega, rfl, by omega, ha, hs.le (by omega), rfl⟩, wkA⟩)
        omega
      · have hok := archOk_ok js' (by omega)
        rw [ha'] at hok
        rw [← hlen]
        (repeat (first | refine WL_nil ?_ | refine zq0 (by first | exact qv9 | exact q_callSA (hok)) ?_ | refine zq1 ?_ | refine zq2 ?_ | refine zq3 ?_ | refine zq4 ?_ | refine zq5 ?_ | refine zq6 ?_ | refine wN rfl ?_))
        refine Exists.intro _ (Exists.intro _ ⟨?_, ⟨m, u - 1, js', i7, h7, by omega, rfl, by omega, ha', hs', rfl⟩, ?_⟩)
        · omega
        · exact weak_dat 2000000 69 4 (js'.map Jt.row) more2000000.flatten rfl (by rw [← List.flatten_append]; rfl) (jt_lens js') (map_plainB (fun _ => rfl)) (by repeat' (first | exact trivial | refine And.intro ?_ ?_ | exact .inr (.inl rfl))) ⟨⟨_, rfl, .cons (.inl ⟨congrArg (AV.arr 2000000 69 4) (List.length_map _).symm, rfl⟩) .nil⟩, ⟨_, rfl, DLes.refl _⟩, ⟨_, rfl, DLes.refl _⟩, trivial⟩ rfl (by repeat' (first | exact trivial | refine And.intro ?_ ?_ | exact rfl)) rfl rfl (fun k b U hp => by obtain ⟨rfl, rfl, rfl⟩ := hp; simp)
    · (repeat (first | refine WL_nil ?_ | refine zq0 qv9 ?_ | refine zq1 ?_ | refine zq2 ?_ | refine zq3 ?_ | refine zq4 ?_ | refine zq5 ?_ | refine zq6 ?_ | refine wN rfl ?_))
      refine wdraw 24 (by kernel_rfl) (by kernel_rfl) (by kernel_rfl) rfl ?_
      (repeat (first | refine HW_nil ?_ | (apply hw0 (hd := rfl); (first | exact qv9 | exact QV_indexA rfl rfl rfl hj | exact q_loadA (j := j) (o := 0) rfl rfl r0.len r0.at_ rfl rfl | exact q_loadA (j := j) (o := 1) rfl rfl r0.len r0.at_ rfl rfl); (exact gy0)) | (apply hwb (hd := rfl); exact qbx; (exact gy0); rfl) | refine zq7 ?_ | refine zq8 ?_))
      obtain ⟨js', hjs⟩ : ∃ js' : List Jt, js' = js.set j (⟨⟨(jat js j).i.x + (dx - 1), (jat js j).i.y + (dy - 1)⟩, (jat js j).o⟩) := ⟨_, rfl⟩
      have hlen : js'.length = js.length := by rw [hjs, List.length_set]
      have hset : (js.map Jt.row ++ more2000000).set j (Jt.row (⟨⟨(jat js j).i.x + (dx - 1), (jat js j).i.y + (dy - 1)⟩, (jat js j).o⟩)) = js'.map Jt.row ++ more2000000 := by
        rw [List.set_append_left _ _ (by simpa using hj), hjs, List.map_set]
      have hs' : SmJ (22 - m) js' := by
        rw [hjs]
        refine (hs.le (by omega)).set j ?_
        unfold smP
        exact ⟨by simp only; omega, by simp only; omega⟩
      (repeat (first | refine WL_nil ?_ | refine zq0 qv9 ?_ | refine zq1 ?_ | refine zq2 ?_ | refine zq3 ?_ | refine zq4 ?_ | refine wstP (j := j) (e := 4) (o := 0) rfl rfl rfl List.not_mem_nil rfl rfl rfl rfl r0.at_ rfl r0.len rfl ?_ | refine zq5 ?_ | refine zq6 ?_ | refine wN rfl ?_))
      rw [hset]
      cases ha' : archB js'
      · have hok := archOk_ok js' (by omega)
        rw [ha'] at hok
        rw [← hlen]
        (repeat (first | refine WL_nil ?_ | refine zq0 (by first | exact qv9 | exact q_callSA (hok)) ?_ | refine zq1 ?_ | refine zq2 ?_ | refine zq3 ?_ | refine zq4 ?_ | refine zq5 ?_ | refine zq6 ?_ | refine wN rfl ?_))
        refine Exists.intro _ (Exists.intro _ ⟨?_, ⟨m, u - 1, js, i7, h7, by omega, rfl, by omega, ha, hs.le (by omega), rfl⟩, wkA⟩)
        omega
      · have hok := archOk_ok js' (by omega)
        rw [ha'] at hok
        rw [← hlen]
        (repeat (first | refine WL_nil ?_ | refine zq0 (by first | exact qv9 | exact q_callSA (hok)) ?_ | refine zq1 ?_ | refine zq2 ?_ | refine zq3 ?_ | refine zq4 ?_ | refine zq5 ?_ | refine zq6 ?_ | refine wN rfl ?_))
        refine Exists.intro _ (Exists.intro _ ⟨?_, ⟨m, u - 1, js', i7, h7, by omega, rfl, by omega, ha', hs', rfl⟩, ?_⟩)
        · omega
        · exact weak_dat 2000000 69 4 (js'.map Jt.row) more2000000.flatten rfl (by rw [← List.flatten_append]; rfl) (jt_lens js') (map_plainB (fun _ => rfl)) (by repeat' (first | exact trivial | refine And.intro ?_ ?_ | exact .inr (.inl rfl))) ⟨⟨_, rfl, .cons (.inl ⟨congrArg (AV.arr 2000000 69 4) (List.length_map _).symm, rfl⟩) .nil⟩, ⟨_, rfl, DLes.refl _⟩, ⟨_, rfl, DLes.refl _⟩, trivial⟩ rfl (by repeat' (first | exact trivial | refine And.intro ?_ ?_ | exact rfl)) rfl rfl (fun k b U hp => by obtain ⟨rfl, rfl, rfl⟩ := hp; simp)
end Go.Proofs.YtpcahgedkmgllaaGreat

namespace Go.Proofs.YtpcahgedkmgllaaGreat
open Go.Eng
set_option maxRecDepth 100000
attribute [local irreducible] QV TV WL HW W CallOk Weak

theorem ld_cells1 (l : Ld) : ∀ x ∈ [l.row].flatten, isCell x = true := by
  intro x hx
  simp only [List.flatten_cons, List.flatten_nil, List.append_nil, Ld.row, List.mem_cons, List.not_mem_nil, or_false] at hx
  rcases hx with rfl | rfl | rfl <;> rfl
theorem ld_lens1 (l : Ld) : ∀ r ∈ [l.row], r.length = 3 := by
  intro r hr
  simp only [List.mem_singleton] at hr
  subst hr; rfl
theorem draws_fn (l : List Int) (hl : Bts l) : ∃ B : Int → Nat → Int → Int × Nat × Int, ∀ n i h, 0 < n → n ≤ 256 → 0 ≤ (B n i h).1 ∧ (B n i h).1 < n ∧ CallPtr Tryz.prog 26 [.ptr 1000000 0, vi n] [slU l, vi i, vi h] (DetR l (B n i h).1 (B n i h).2.1 (B n i h).2.2) := by
  have H : ∀ q : Int × Nat × Int, ∃ p : Int × Nat × Int, 0 < q.1 → q.1 ≤ 256 → 0 ≤ p.1 ∧ p.1 < q.1 ∧ CallPtr Tryz.prog 26 [.ptr 1000000 0, vi q.1] [slU l, vi q.2.1, vi q.2.2] (DetR l p.1 p.2.1 p.2.2) := by
    rintro ⟨n, i, h⟩
    by_cases hn : 0 < n ∧ n ≤ 256
    · obtain ⟨x, i1, h1, k0, k1, k2⟩ := l01Below_det l hl n hn.1 hn.2 i h
      exact ⟨⟨x, i1, h1⟩, fun _ _ => ⟨k0, k1, k2⟩⟩
    · exact ⟨⟨0, 0, 0⟩, fun a b => absurd ⟨a, b⟩ hn⟩
  obtain ⟨B, hB⟩ := Classical.axiomOfChoice H
  exact ⟨fun n i h => B ⟨n, i, h⟩, fun n i h h0 h1 => hB ⟨n, i, h⟩ h0 h1⟩
theorem pickInt_det {l : List Int} {xs : List Int} {j : Nat} {i i1 : Nat} {h h1 : Int} {p m : Int} (hm : (xs.length : Int) = m) (hj : xs[j]? = some p) (c : CallPtr Tryz.prog 26 [.ptr 1000000 0, vi m] [slU l, vi i, vi h] (DetR l j i1 h1)) : CallPtr Tryz.prog 29 [.ptr 1000000 0, .sl 1 (xs.map fun n => [vi n])] [slU l, vi i, vi h] (DetR l p i1 h1) := by
  subst hm
  refine callPtr Tryz.func29 Tryz.ntmps29 Tryz.results29 rfl rfl rfl fun B w0 b T I0 V0 => ?_
  (repeat (first | refine WL_nil ?_ | refine zq0 qv9 ?_ | refine zq1 ?_ | refine zq2 ?_ | refine zq3 ?_ | refine zq4 ?_ | refine zq5 ?_ | refine zq6 ?_ | refine wN rfl ?_))
  refine wlptr 0 [] c rfl (by repeat' (first | exact PtA.nil | refine PtA.ptr ?_ | (rw [List.length_map]; refine PtA.v ?_) | refine PtA.v ?_)) rfl rfl List.not_mem_nil (fun r cs ⟨hr, hc⟩ => by subst hr; subst hc; exact ⟨rfl, rfl⟩) rfl rfl (fun r cs hR => ?_)
  obtain ⟨rfl, rfl⟩ := hR
  (repeat (first | refine WL_nil ?_ | refine zq0 (by first | exact qv9 | exact QV_indexAddr rfl rfl rfl rfl (row_at (f := fun n => [vi n]) hj)) ?_ | refine zq1 ?_ | refine zq2 ?_ | refine zq3 ?_ | refine zq4 ?_ | refine zq5 ?_ | refine zq6 ?_ | refine wN rfl ?_))
  refine ptrEnd (Weak.refl _) (resA_tmp rfl rfl) rfl rfl rfl ?_
  exact ⟨rfl, rfl⟩
end Go.Proofs.YtpcahgedkmgllaaGreat
