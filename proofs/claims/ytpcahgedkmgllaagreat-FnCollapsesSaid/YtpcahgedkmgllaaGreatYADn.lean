/- A drawn arch, its array new and at hand. -/
import Derived.Test.YtpcahgedkmgllaaGreatYG7
import Derived.Test.YtpcahgedkmgllaaGreatZ16
set_option maxHeartbeats 4000000
namespace Go.Proofs.YtpcahgedkmgllaaGreat
open Go.Eng
set_option maxRecDepth 100000
attribute [local irreducible] QV TV WL HW W CallOk Weak

theorem l06ShapeO0 : CallOk Tryz.prog 30 [vi 0] (fun r => r = .agg [.own 200 69 4 ((shp 0).map Jt.row)]) := by
  refine callOk Tryz.func30 Tryz.ntmps30 Tryz.results30 rfl rfl rfl fun B w0 M I0 V0 => ?_
  (repeat (first | refine WL_nil ?_ | refine zq0 qv9 ?_ | refine zq1 ?_ | refine zq2 ?_ | refine zq3 ?_ | (apply wln1 (hd := rfl); exact q_buildSlice 200 rfl rfl rfl rfl; (exact gy0); rfl) | refine zq4 ?_ | refine zq5 ?_ | refine zq6 ?_ | refine wN rfl ?_))
  refine Exists.intro _ ⟨Weak.refl _, Exists.intro _ ⟨resA_cell rfl rfl rfl rfl, ?_, rfl⟩⟩
  rfl
theorem l06ShapeO1 : CallOk Tryz.prog 30 [vi 1] (fun r => r = .agg [.own 200 69 4 ((shp 1).map Jt.row)]) := by
  refine callOk Tryz.func30 Tryz.ntmps30 Tryz.results30 rfl rfl rfl fun B w0 M I0 V0 => ?_
  (repeat (first | refine WL_nil ?_ | refine zq0 qv9 ?_ | refine zq1 ?_ | refine zq2 ?_ | refine zq3 ?_ | (apply wln1 (hd := rfl); exact q_buildSlice 200 rfl rfl rfl rfl; (exact gy0); rfl) | refine zq4 ?_ | refine zq5 ?_ | refine zq6 ?_ | refine wN rfl ?_))
  refine Exists.intro _ ⟨Weak.refl _, Exists.intro _ ⟨resA_cell rfl rfl rfl rfl, ?_, rfl⟩⟩
  rfl
theorem l06ShapeO2 : CallOk Tryz.prog 30 [vi 2] (fun r => r = .agg [.own 200 69 4 ((shp 2).map Jt.row)]) := by
  refine callOk Tryz.func30 Tryz.ntmps30 Tryz.results30 rfl rfl rfl fun B w0 M I0 V0 => ?_
  (repeat (first | refine WL_nil ?_ | refine zq0 qv9 ?_ | refine zq1 ?_ | refine zq2 ?_ | refine zq3 ?_ | (apply wln1 (hd := rfl); exact q_buildSlice 200 rfl rfl rfl rfl; (exact gy0); rfl) | refine zq4 ?_ | refine zq5 ?_ | refine zq6 ?_ | refine wN rfl ?_))
  refine Exists.intro _ ⟨Weak.refl _, Exists.intro _ ⟨resA_cell rfl rfl rfl rfl, ?_, rfl⟩⟩
  rfl
theorem l06ShapeO3 : CallOk Tryz.prog 30 [vi 3] (fun r => r = .agg [.own 200 69 4 ((shp 3).map Jt.row)]) := by
  refine callOk Tryz.func30 Tryz.ntmps30 Tryz.results30 rfl rfl rfl fun B w0 M I0 V0 => ?_
  (repeat (first | refine WL_nil ?_ | refine zq0 qv9 ?_ | refine zq1 ?_ | refine zq2 ?_ | refine zq3 ?_ | (apply wln1 (hd := rfl); exact q_buildSlice 200 rfl rfl rfl rfl; (exact gy0); rfl) | refine zq4 ?_ | refine zq5 ?_ | refine zq6 ?_ | refine wN rfl ?_))
  refine Exists.intro _ ⟨Weak.refl _, Exists.intro _ ⟨resA_cell rfl rfl rfl rfl, ?_, rfl⟩⟩
  rfl
theorem l06ShapeO4 : CallOk Tryz.prog 30 [vi 4] (fun r => r = .agg [.own 200 69 4 ((shp 4).map Jt.row)]) := by
  refine callOk Tryz.func30 Tryz.ntmps30 Tryz.results30 rfl rfl rfl fun B w0 M I0 V0 => ?_
  (repeat (first | refine WL_nil ?_ | refine zq0 qv9 ?_ | refine zq1 ?_ | refine zq2 ?_ | refine zq3 ?_ | (apply wln1 (hd := rfl); exact q_buildSlice 200 rfl rfl rfl rfl; (exact gy0); rfl) | refine zq4 ?_ | refine zq5 ?_ | refine zq6 ?_ | refine wN rfl ?_))
  refine Exists.intro _ ⟨Weak.refl _, Exists.intro _ ⟨resA_cell rfl rfl rfl rfl, ?_, rfl⟩⟩
  rfl
theorem l06ShapeO5 : CallOk Tryz.prog 30 [vi 5] (fun r => r = .agg [.own 200 69 4 ((shp 5).map Jt.row)]) := by
  refine callOk Tryz.func30 Tryz.ntmps30 Tryz.results30 rfl rfl rfl fun B w0 M I0 V0 => ?_
  (repeat (first | refine WL_nil ?_ | refine zq0 qv9 ?_ | refine zq1 ?_ | refine zq2 ?_ | refine zq3 ?_ | (apply wln1 (hd := rfl); exact q_buildSlice 200 rfl rfl rfl rfl; (exact gy0); rfl) | refine zq4 ?_ | refine zq5 ?_ | refine zq6 ?_ | refine wN rfl ?_))
  refine Exists.intro _ ⟨Weak.refl _, Exists.intro _ ⟨resA_cell rfl rfl rfl rfl, ?_, rfl⟩⟩
  rfl
theorem l06ShapeO (k : Nat) (hk : k < 6) : CallOk Tryz.prog 30 [vi k] (fun r => r = .agg [.own 200 69 4 ((shp k).map Jt.row)]) := by
  have h : k = 0 ∨ k = 1 ∨ k = 2 ∨ k = 3 ∨ k = 4 ∨ k = 5 := by omega
  rcases h with rfl | rfl | rfl | rfl | rfl | rfl
  · exact l06ShapeO0
  · exact l06ShapeO1
  · exact l06ShapeO2
  · exact l06ShapeO3
  · exact l06ShapeO4
  · exact l06ShapeO5
@[reducible] def ArchN (l : List Int) (rows : List (List AV)) (cs : List AV) : Prop := ∃ js : List Jt, archB js = true ∧ SmJ 22 js ∧ rows = js.map Jt.row ∧ CurR l cs
set_option maxHeartbeats 2000000 in
theorem l06ArchN_ok (l : List Int) (hl : Bts l) (i : Nat) (h : Int) : CallPtrN Tryz.prog 31 69 4 [.ptr 1000000 0] [slU l, vi i, vi h] (ArchN l) := by
  refine callPtrN Tryz.func31 Tryz.ntmps31 Tryz.results31 rfl rfl rfl fun B w0 b T I0 V0 => ?_
  (repeat (first | refine WL_nil ?_ | refine zq0 qv9 ?_ | refine zq1 ?_ | refine zq2 ?_ | refine zq3 ?_ | refine zq4 ?_ | refine zq5 ?_ | refine zq6 ?_ | refine wN rfl ?_))
  refine wldraw (l01Below_ok l hl 6 (by decide) (by decide) i h) rfl (by repeat' (first | exact PtA.nil | refine PtA.ptr ?_ | refine PtA.v ?_)) rfl rfl List.not_mem_nil rfl (fun x i1 h1 hx0 hx1 => ?_)
  obtain ⟨q, rfl⟩ : ∃ q : Nat, x = q := ⟨x.toNat, by omega⟩
  have cq := l06ShapeO q (by omega)
  have aq := shp_ok q (by omega)
  have mq := shp_sm q (by omega)
  have nq : 0 < ((shp q).map Jt.row).length := by have := arch_len aq; simp; omega
  (repeat (first | refine WL_nil ?_ | refine zq0 qv9 ?_ | refine zq1 ?_ | refine zq2 ?_ | refine zq3 ?_ | refine zq4 ?_ | refine wlmu (n := 200) (N := 7000000) (cq) rfl nq (map_plainB (fun _ => rfl)) rfl (by (repeat' (first | exact LeS.nil | refine LeS.v ?_ | refine LeS.sl ?_ | refine LeS.own ?_ | refine LeS.arr rfl (by first | exact len_map | exact len_mks) (map_lens (fun _ => rfl)) (map_plainB (fun _ => rfl)) ?_ | refine LeS.nilS ?_ | refine LeS.agg ?_ ?_)); first | done | fail "open") (by first | exact MutA.own | exact MutA.agg | exact MutA.tup | exact MutA.tupS) (List.length_map _) rfl rfl (fun more7000000 hmore7000000 => ?_) | refine zq5 ?_ | refine zq6 ?_ | refine wN rfl ?_))
  refine wldraw (l01Below_ok l hl 5 (by decide) (by decide) i1 h1) rfl (by repeat' (first | exact PtA.nil | refine PtA.ptr ?_ | refine PtA.v ?_)) rfl rfl List.not_mem_nil rfl (fun y i2 h2 hy0 hy1 => ?_)
  obtain ⟨k, rfl⟩ : ∃ k : Nat, y = k := ⟨y.toNat, by omega⟩
  (repeat (first | refine WL_nil ?_ | refine zq0 qv9 ?_ | refine zq1 ?_ | refine zq2 ?_ | refine zq3 ?_ | refine zq4 ?_ | refine zq5 ?_ | refine zq6 ?_ | refine wN rfl ?_))
  refine W_loop (fun n s => ∃ (m : Nat) (u : Int) (js : List Jt) (more : List (List AV)) (sw : Bool) (i : Nat) (h : Int), m ≤ 4 ∧ n = m ∧ u = m ∧ archB js = true ∧ SmJ (22 - m) js ∧ MoreOk 4 more ∧ s = ⟨[(0, .ptr 1000000 0), (2, .ptr 2 0), (3, .ptr 3 0), (4, vi u)], [(3, [.arr (bif sw then 7000001 else 7000000) 69 4 js.length]), ((bif sw then 7000001 else 7000000), (js.map Jt.row ++ more).flatten), (2, [.v (.slice none 0 0)]), (1000000, [slU l, vi i, vi h])], []⟩) ⟨_, _, ⟨k, k, shp q, more7000000, false, i2, h2, by omega, rfl, rfl, aq, mq.le (by omega), hmore7000000, rfl⟩, (weak_mk (by repeat' (first | exact trivial | refine And.intro ?_ ?_ | exact Le.refl | exact Le.nilOwn rfl | exact Le.nilSl | exact Le.ownSl | exact Le.top)) (by repeat' (first | exact trivial | refine And.intro ?_ ?_ | exact ⟨_, rfl, Les.refl _⟩ | exact ⟨_, rfl, by repeat' (first | exact Les.nil | exact Les.cons Le.refl (Les.refl _) | refine Les.cons (by first | exact Le.top | exact Le.refl | exact Le.ownSl | exact Le.nilSl) ?_)⟩)) rfl (by repeat' (first | exact trivial | refine And.intro ?_ ?_ | exact rfl | exact refs_fill (fun _ => rfl) rfl | exact refs_map (fun _ => rfl) | exact refs_more (by assumption) (fun _ => rfl))) (fun _ _ _ h => by first | exact h.elim | (obtain ⟨rfl, rfl, rfl⟩ := h; simp)))⟩ ?_
  rintro m s ⟨_, u, js, more, sw, i3, h3, hm, rfl, hu, ha, hs, hmo, rfl⟩
  have h8 := arch_len ha
  have hne : 0 < (js.map Jt.row).length := by simp; omega
  have hpl : ∀ x ∈ (js.map Jt.row).flatten, plain x = true := map_plainB (fun _ => rfl)
  cases m with
  | zero =>
    have c1 : abin .gtr .i64 u 0 = some (.bool false) := by simp [abin]; omega
    cases sw
    · simp only [cond_false]
      (repeat (first | refine WL_nil ?_ | refine zq0 (by first | exact QV_bin rfl rfl c1 | exact qv9) ?_ | refine zq1 ?_ | refine zq2 ?_ | refine zq3 ?_ | refine zq4 ?_ | refine zq5 ?_ | refine zq6 ?_ | refine wN rfl ?_))
      exact ⟨⟨[(2, .ptr 2 0)], [(2, [.arr 7000000 69 4 js.length]), (7000000, (js.map Jt.row ++ more).flatten), (1000000, [slU l, vi i3, vi h3])], []⟩, (weak_mk (by repeat' (first | exact trivial | refine And.intro ?_ ?_ | exact Le.refl | exact Le.nilOwn rfl | exact Le.nilSl | exact Le.ownSl | exact Le.top)) (by repeat' (first | exact trivial | refine And.intro ?_ ?_ | exact ⟨_, rfl, Les.refl _⟩ | exact ⟨_, rfl, by repeat' (first | exact Les.nil | exact Les.cons Le.refl (Les.refl _) | refine Les.cons (by first | exact Le.top | exact Le.refl | exact Le.ownSl | exact Le.nilSl) ?_)⟩)) rfl (by repeat' (first | exact trivial | refine And.intro ?_ ?_ | exact rfl | exact refs_fill (fun _ => rfl) rfl | exact refs_map (fun _ => rfl) | exact refs_more (by assumption) (fun _ => rfl))) (fun _ _ _ h => by first | exact h.elim | (obtain ⟨rfl, rfl, rfl⟩ := h; simp))), 7000000, js.map Jt.row, more, _, by rw [List.length_map]; exact resA_cell rfl rfl rfl rfl, lookB_mem rfl, lookB_mem rfl, rfl, hmo, hpl, ⟨js, ha, hs, rfl, i3, h3, rfl⟩, rfl⟩
    · simp only [cond_true]
      (repeat (first | refine WL_nil ?_ | refine zq0 (by first | exact QV_bin rfl rfl c1 | exact qv9) ?_ | refine zq1 ?_ | refine zq2 ?_ | refine zq3 ?_ | refine zq4 ?_ | refine zq5 ?_ | refine zq6 ?_ | refine wN rfl ?_))
      exact ⟨⟨[(2, .ptr 2 0)], [(2, [.arr 7000001 69 4 js.length]), (7000001, (js.map Jt.row ++ more).flatten), (1000000, [slU l, vi i3, vi h3])], []⟩, (weak_mk (by repeat' (first | exact trivial | refine And.intro ?_ ?_ | exact Le.refl | exact Le.nilOwn rfl | exact Le.nilSl | exact Le.ownSl | exact Le.top)) (by repeat' (first | exact trivial | refine And.intro ?_ ?_ | exact ⟨_, rfl, Les.refl _⟩ | exact ⟨_, rfl, by repeat' (first | exact Les.nil | exact Les.cons Le.refl (Les.refl _) | refine Les.cons (by first | exact Le.top | exact Le.refl | exact Le.ownSl | exact Le.nilSl) ?_)⟩)) rfl (by repeat' (first | exact trivial | refine And.intro ?_ ?_ | exact rfl | exact refs_fill (fun _ => rfl) rfl | exact refs_map (fun _ => rfl) | exact refs_more (by assumption) (fun _ => rfl))) (fun _ _ _ h => by first | exact h.elim | (obtain ⟨rfl, rfl, rfl⟩ := h; simp))), 7000001, js.map Jt.row, more, _, by rw [List.length_map]; exact resA_cell rfl rfl rfl rfl, lookB_mem rfl, lookB_mem rfl, rfl, hmo, hpl, ⟨js, ha, hs, rfl, i3, h3, rfl⟩, rfl⟩
  | succ m =>
    cases sw
    · simp only [cond_false]
      have c1 : abin .gtr .i64 u 0 = some (.bool true) := by simp [abin]; omega
      (repeat (first | refine WL_nil ?_ | refine zq0 (by first | exact QV_bin rfl rfl c1 | exact qv9 | exact QV_lenA rfl) ?_ | refine zq1 ?_ | refine zq2 ?_ | refine zq3 ?_ | refine zq4 ?_ | refine wlmu (n := 3) (N := 7000001) (l06Copy_ok js (by omega)) rfl hne (map_plainB (fun _ => rfl)) rfl (by (repeat' (first | exact LeS.nil | refine LeS.v ?_ | refine LeS.sl ?_ | refine LeS.own ?_ | refine LeS.arr rfl (by first | exact len_map | exact len_mks) (map_lens (fun _ => rfl)) (map_plainB (fun _ => rfl)) ?_ | refine LeS.nilS ?_ | refine LeS.agg ?_ ?_)); first | done | fail "open") (by first | exact MutA.own | exact MutA.agg | exact MutA.tup | exact MutA.tupS) (List.length_map _) rfl rfl (fun more7000001 hmore7000001 => ?_) | refine zq5 ?_ | refine zq6 ?_ | refine wN rfl ?_))
      refine wldraw (l01Below_ok l hl js.length (by omega) (by omega) i3 h3) rfl (by repeat' (first | exact PtA.nil | refine PtA.ptr ?_ | refine PtA.v ?_)) rfl rfl List.not_mem_nil rfl (fun p i4 h4 hp0 hp1 => ?_)
      obtain ⟨j, rfl⟩ : ∃ j : Nat, p = j := ⟨p.toNat, by omega⟩
      have hj : j < js.length := by omega
      (repeat (first | refine WL_nil ?_ | refine zq0 qv9 ?_ | refine zq1 ?_ | refine zq2 ?_ | refine zq3 ?_ | refine zq4 ?_ | refine zq5 ?_ | refine zq6 ?_ | refine wN rfl ?_))
      refine wldraw (l01Below_ok l hl 3 (by decide) (by decide) i4 h4) rfl (by repeat' (first | exact PtA.nil | refine PtA.ptr ?_ | refine PtA.v ?_)) rfl rfl List.not_mem_nil rfl (fun dx i5 h5 hdx0 hdx1 => ?_)
      (repeat (first | refine WL_nil ?_ | refine zq0 qv9 ?_ | refine zq1 ?_ | refine zq2 ?_ | refine zq3 ?_ | refine zq4 ?_ | refine zq5 ?_ | refine zq6 ?_ | refine wN rfl ?_))
      refine wldraw (l01Below_ok l hl 3 (by decide) (by decide) i5 h5) rfl (by repeat' (first | exact PtA.nil | refine PtA.ptr ?_ | refine PtA.v ?_)) rfl rfl List.not_mem_nil rfl (fun dy i6 h6 hdy0 hdy1 => ?_)
      (repeat (first | refine WL_nil ?_ | refine zq0 qv9 ?_ | refine zq1 ?_ | refine zq2 ?_ | refine zq3 ?_ | refine zq4 ?_ | refine zq5 ?_ | refine zq6 ?_ | refine wN rfl ?_))
      refine wlptr 0 [] (l01Once_ok l hl 2 (by decide) (by decide) i6 h6) rfl (by repeat' (first | exact PtA.nil | refine PtA.ptr ?_ | refine PtA.v ?_)) rfl rfl List.not_mem_nil (fun r cs ⟨b, hr, i, h, hc⟩ => by subst hr; subst hc; exact ⟨rfl, rfl⟩) rfl rfl (fun r cs hR => ?_)
      obtain ⟨b, rfl, i7, h7, rfl⟩ := hR
      have hat := hs.at hj
      unfold smP at hat
      have r0 : RowAt (js.map Jt.row ++ more7000001) j 4 (jat js j).row := ⟨by rw [List.getElem?_append_left (by simpa using hj)]; exact row_at (jat_lt hj), fun r hr => by
        rcases List.mem_append.1 hr with hr | hr
        · exact jt_lens js r hr
        · exact (hmore7000001 r hr).1⟩
      cases b
      · (repeat (first | refine WL_nil ?_ | refine zq0 qv9 ?_ | refine zq1 ?_ | refine zq2 ?_ | refine zq3 ?_ | refine zq4 ?_ | refine zq5 ?_ | refine zq6 ?_ | refine wN rfl ?_))
        refine wdraw 24 (by kernel_rfl) (by kernel_rfl) (by kernel_rfl) rfl ?_
        (repeat (first | refine HW_nil ?_ | (apply hw0 (hd := rfl); (first | exact qv9 | exact QV_indexA rfl rfl rfl hj | exact q_loadA (j := j) (o := 2) rfl rfl r0.len r0.at_ rfl rfl | exact q_loadA (j := j) (o := 3) rfl rfl r0.len r0.at_ rfl rfl); (exact gy0)) | (apply hwb (hd := rfl); exact qbx; (exact gy0); rfl) | refine zq7 ?_ | refine zq8 ?_))
        obtain ⟨js', hjs⟩ : ∃ js' : List Jt, js' = js.set j (⟨(jat js j).i, ⟨(jat js j).o.x + (dx - 1), (jat js j).o.y + (dy - 1)⟩⟩) := ⟨_, rfl⟩
        have hlen : js'.length = js.length := by rw [hjs, List.length_set]
        have hset : (js.map Jt.row ++ more7000001).set j (Jt.row (⟨(jat js j).i, ⟨(jat js j).o.x + (dx - 1), (jat js j).o.y + (dy - 1)⟩⟩)) = js'.map Jt.row ++ more7000001 := by
          rw [List.set_append_left _ _ (by simpa using hj), hjs, List.map_set]
        have hs' : SmJ (22 - m) js' := by
          rw [hjs]
          refine (hs.le (by omega)).set j ?_
          unfold smP
          exact ⟨by simp only; omega, by simp only; omega⟩
        (repeat (first | refine WL_nil ?_ | refine zq0 qv9 ?_ | refine zq1 ?_ | refine zq2 ?_ | refine zq3 ?_ | refine zq4 ?_ | refine wstP (j := j) (e := 4) (o := 2) rfl rfl rfl List.not_mem_nil rfl rfl rfl rfl r0.at_ rfl r0.len rfl ?_ | refine zq5 ?_ | refine zq6 ?_ | refine wN rfl ?_))
        rw [hset]
        cases ha' : archB js'
        · have hok := archOk_ok js' (by omega)
          rw [ha'] at hok
          rw [← hlen]
          (repeat (first | refine WL_nil ?_ | refine zq0 (by first | exact qv9 | exact q_callSA (hok)) ?_ | refine zq1 ?_ | refine zq2 ?_ | refine zq3 ?_ | refine zq4 ?_ | refine zq5 ?_ | refine zq6 ?_ | refine wN rfl ?_))
          rw [hlen]
          refine Exists.intro _ (Exists.intro _ ⟨?_, ⟨m, u - 1, js, more, false, i7, h7, by omega, rfl, by omega, ha, hs.le (by omega), hmo, rfl⟩, (weak_mk (by repeat' (first | exact trivial | refine And.intro ?_ ?_ | exact Le.refl | exact Le.nilOwn rfl | exact Le.nilSl | exact Le.ownSl | exact Le.top)) (by repeat' (first | exact trivial | refine And.intro ?_ ?_ | exact ⟨_, rfl, Les.refl _⟩ | exact ⟨_, rfl, by repeat' (first | exact Les.nil | exact Les.cons Le.refl (Les.refl _) | refine Les.cons (by first | exact Le.top | exact Le.refl | exact Le.ownSl | exact Le.nilSl) ?_)⟩)) rfl (by repeat' (first | exact trivial | refine And.intro ?_ ?_ | exact rfl | exact refs_fill (fun _ => rfl) rfl | exact refs_map (fun _ => rfl) | exact refs_more (by assumption) (fun _ => rfl))) (fun _ _ _ h => by first | exact h.elim | (obtain ⟨rfl, rfl, rfl⟩ := h; simp)))⟩)
          omega
        · have hok := archOk_ok js' (by omega)
          rw [ha'] at hok
          rw [← hlen]
          (repeat (first | refine WL_nil ?_ | refine zq0 (by first | exact qv9 | exact q_callSA (hok)) ?_ | refine zq1 ?_ | refine zq2 ?_ | refine zq3 ?_ | refine zq4 ?_ | refine zq5 ?_ | refine zq6 ?_ | refine wN rfl ?_))
          refine Exists.intro _ (Exists.intro _ ⟨?_, ⟨m, u - 1, js', more7000001, true, i7, h7, by omega, rfl, by omega, ha', hs', hmore7000001, rfl⟩, (weak_mk (by repeat' (first | exact trivial | refine And.intro ?_ ?_ | exact Le.refl | exact Le.nilOwn rfl | exact Le.nilSl | exact Le.ownSl | exact Le.top)) (by repeat' (first | exact trivial | refine And.intro ?_ ?_ | exact ⟨_, rfl, Les.refl _⟩ | exact ⟨_, rfl, by repeat' (first | exact Les.nil | exact Les.cons Le.refl (Les.refl _) | refine Les.cons (by first | exact Le.top | exact Le.refl | exact Le.ownSl | exact Le.nilSl) ?_)⟩)) rfl (by repeat' (first | exact trivial | refine And.intro ?_ ?_ | exact rfl | exact refs_fill (fun _ => rfl) rfl | exact refs_map (fun _ => rfl) | exact refs_more (by assumption) (fun _ => rfl))) (fun _ _ _ h => by first | exact h.elim | (obtain ⟨rfl, rfl, rfl⟩ := h; simp)))⟩)
          omega
      · (repeat (first | refine WL_nil ?_ | refine zq0 qv9 ?_ | refine zq1 ?_ | refine zq2 ?_ | refine zq3 ?_ | refine zq4 ?_ | refine zq5 ?_ | refine zq6 ?_ | refine wN rfl ?_))
        refine wdraw 24 (by kernel_rfl) (by kernel_rfl) (by kernel_rfl) rfl ?_
        (repeat (first | refine HW_nil ?_ | (apply hw0 (hd := rfl); (first | exact qv9 | exact QV_indexA rfl rfl rfl hj | exact q_loadA (j := j) (o := 0) rfl rfl r0.len r0.at_ rfl rfl | exact q_loadA (j := j) (o := 1) rfl rfl r0.len r0.at_ rfl rfl); (exact gy0)) | (apply hwb (hd := rfl); exact qbx; (exact gy0); rfl) | refine zq7 ?_ | refine zq8 ?_))
        obtain ⟨js', hjs⟩ : ∃ js' : List Jt, js' = js.set j (⟨⟨(jat js j).i.x + (dx - 1), (jat js j).i.y + (dy - 1)⟩, (jat js j).o⟩) := ⟨_, rfl⟩
        have hlen : js'.length = js.length := by rw [hjs, List.length_set]
        have hset : (js.map Jt.row ++ more7000001).set j (Jt.row (⟨⟨(jat js j).i.x + (dx - 1), (jat js j).i.y + (dy - 1)⟩, (jat js j).o⟩)) = js'.map Jt.row ++ more7000001 := by
          rw [List.set_append_left _ _ (by simpa using hj), hjs, List.map_set]
        have hs' : SmJ (22 - m) js' := by
          rw [hjs]
          refine (hs.le (by omega)).set j ?_
          unfold smP
          exact ⟨by simp only; omega, by simp only; omega⟩
        (repeat (first | refine WL_nil ?_ | refine zq0 qv9 ?_ | refine zq1 ?_ | refine zq2 ?_ | refine zq3 ?_ | refine zq4 ?_ | refine wstP (j := j) (e := 4) (o := 0) rfl rfl rfl List.not_mem_nil rfl rfl rfl rfl r0.at_ rfl r0.len rfl ?_ | refine zq5 ?_ | refine zq6 ?_ | refine wN rfl ?_))
        rw [hset]
        cases ha' : archB js'
        · have hok := archOk_ok js' (by omega)
          rw [ha'] at hok
          rw [← hlen]
          (repeat (first | refine WL_nil ?_ | refine zq0 (by first | exact qv9 | exact q_callSA (hok)) ?_ | refine zq1 ?_ | refine zq2 ?_ | refine zq3 ?_ | refine zq4 ?_ | refine zq5 ?_ | refine zq6 ?_ | refine wN rfl ?_))
          rw [hlen]
          refine Exists.intro _ (Exists.intro _ ⟨?_, ⟨m, u - 1, js, more, false, i7, h7, by omega, rfl, by omega, ha, hs.le (by omega), hmo, rfl⟩, (weak_mk (by repeat' (first | exact trivial | refine And.intro ?_ ?_ | exact Le.refl | exact Le.nilOwn rfl | exact Le.nilSl | exact Le.ownSl | exact Le.top)) (by repeat' (first | exact trivial | refine And.intro ?_ ?_ | exact ⟨_, rfl, Les.refl _⟩ | exact ⟨_, rfl, by repeat' (first | exact Les.nil | exact Les.cons Le.refl (Les.refl _) | refine Les.cons (by first | exact Le.top | exact Le.refl | exact Le.ownSl | exact Le.nilSl) ?_)⟩)) rfl (by repeat' (first | exact trivial | refine And.intro ?_ ?_ | exact rfl | exact refs_fill (fun _ => rfl) rfl | exact refs_map (fun _ => rfl) | exact refs_more (by assumption) (fun _ => rfl))) (fun _ _ _ h => by first | exact h.elim | (obtain ⟨rfl, rfl, rfl⟩ := h; simp)))⟩)
          omega
        · have hok := archOk_ok js' (by omega)
          rw [ha'] at hok
          rw [← hlen]
          (repeat (first | refine WL_nil ?_ | refine zq0 (by first | exact qv9 | exact q_callSA (hok)) ?_ | refine zq1 ?_ | refine zq2 ?_ | refine zq3 ?_ | refine zq4 ?_ | refine zq5 ?_ | refine zq6 ?_ | refine wN rfl ?_))
          refine Exists.intro _ (Exists.intro _ ⟨?_, ⟨m, u - 1, js', more7000001, true, i7, h7, by omega, rfl, by omega, ha', hs', hmore7000001, rfl⟩, (weak_mk (by repeat' (first | exact trivial | refine And.intro ?_ ?_ | exact Le.refl | exact Le.nilOwn rfl | exact Le.nilSl | exact Le.ownSl | exact Le.top)) (by repeat' (first | exact trivial | refine And.intro ?_ ?_ | exact ⟨_, rfl, Les.refl _⟩ | exact ⟨_, rfl, by repeat' (first | exact Les.nil | exact Les.cons Le.refl (Les.refl _) | refine Les.cons (by first | exact Le.top | exact Le.refl | exact Le.ownSl | exact Le.nilSl) ?_)⟩)) rfl (by repeat' (first | exact trivial | refine And.intro ?_ ?_ | exact rfl | exact refs_fill (fun _ => rfl) rfl | exact refs_map (fun _ => rfl) | exact refs_more (by assumption) (fun _ => rfl))) (fun _ _ _ h => by first | exact h.elim | (obtain ⟨rfl, rfl, rfl⟩ := h; simp)))⟩)
          omega
    · simp only [cond_true]
      have c1 : abin .gtr .i64 u 0 = some (.bool true) := by simp [abin]; omega
      (repeat (first | refine WL_nil ?_ | refine zq0 (by first | exact QV_bin rfl rfl c1 | exact qv9 | exact QV_lenA rfl) ?_ | refine zq1 ?_ | refine zq2 ?_ | refine zq3 ?_ | refine zq4 ?_ | refine wlmu (n := 3) (N := 7000000) (l06Copy_ok js (by omega)) rfl hne (map_plainB (fun _ => rfl)) rfl (by (repeat' (first | exact LeS.nil | refine LeS.v ?_ | refine LeS.sl ?_ | refine LeS.own ?_ | refine LeS.arr rfl (by first | exact len_map | exact len_mks) (map_lens (fun _ => rfl)) (map_plainB (fun _ => rfl)) ?_ | refine LeS.nilS ?_ | refine LeS.agg ?_ ?_)); first | done | fail "open") (by first | exact MutA.own | exact MutA.agg | exact MutA.tup | exact MutA.tupS) (List.length_map _) rfl rfl (fun more7000000 hmore7000000 => ?_) | refine zq5 ?_ | refine zq6 ?_ | refine wN rfl ?_))
      refine wldraw (l01Below_ok l hl js.length (by omega) (by omega) i3 h3) rfl (by repeat' (first | exact PtA.nil | refine PtA.ptr ?_ | refine PtA.v ?_)) rfl rfl List.not_mem_nil rfl (fun p i4 h4 hp0 hp1 => ?_)
      obtain ⟨j, rfl⟩ : ∃ j : Nat, p = j := ⟨p.toNat, by omega⟩
      have hj : j < js.length := by omega
      (repeat (first | refine WL_nil ?_ | refine zq0 qv9 ?_ | refine zq1 ?_ | refine zq2 ?_ | refine zq3 ?_ | refine zq4 ?_ | refine zq5 ?_ | refine zq6 ?_ | refine wN rfl ?_))
      refine wldraw (l01Below_ok l hl 3 (by decide) (by decide) i4 h4) rfl (by repeat' (first | exact PtA.nil | refine PtA.ptr ?_ | refine PtA.v ?_)) rfl rfl List.not_mem_nil rfl (fun dx i5 h5 hdx0 hdx1 => ?_)
      (repeat (first | refine WL_nil ?_ | refine zq0 qv9 ?_ | refine zq1 ?_ | refine zq2 ?_ | refine zq3 ?_ | refine zq4 ?_ | refine zq5 ?_ | refine zq6 ?_ | refine wN rfl ?_))
      refine wldraw (l01Below_ok l hl 3 (by decide) (by decide) i5 h5) rfl (by repeat' (first | exact PtA.nil | refine PtA.ptr ?_ | refine PtA.v ?_)) rfl rfl List.not_mem_nil rfl (fun dy i6 h6 hdy0 hdy1 => ?_)
      (repeat (first | refine WL_nil ?_ | refine zq0 qv9 ?_ | refine zq1 ?_ | refine zq2 ?_ | refine zq3 ?_ | refine zq4 ?_ | refine zq5 ?_ | refine zq6 ?_ | refine wN rfl ?_))
      refine wlptr 0 [] (l01Once_ok l hl 2 (by decide) (by decide) i6 h6) rfl (by repeat' (first | exact PtA.nil | refine PtA.ptr ?_ | refine PtA.v ?_)) rfl rfl List.not_mem_nil (fun r cs ⟨b, hr, i, h, hc⟩ => by subst hr; subst hc; exact ⟨rfl, rfl⟩) rfl rfl (fun r cs hR => ?_)
      obtain ⟨b, rfl, i7, h7, rfl⟩ := hR
      have hat := hs.at hj
      unfold smP at hat
      have r0 : RowAt (js.map Jt.row ++ more7000000) j 4 (jat js j).row := ⟨by rw [List.getElem?_append_left (by simpa using hj)]; exact row_at (jat_lt hj), fun r hr => by
        rcases List.mem_append.1 hr with hr | hr
        · exact jt_lens js r hr
        · exact (hmore7000000 r hr).1⟩
      cases b
      · (repeat (first | refine WL_nil ?_ | refine zq0 qv9 ?_ | refine zq1 ?_ | refine zq2 ?_ | refine zq3 ?_ | refine zq4 ?_ | refine zq5 ?_ | refine zq6 ?_ | refine wN rfl ?_))
        refine wdraw 24 (by kernel_rfl) (by kernel_rfl) (by kernel_rfl) rfl ?_
        (repeat (first | refine HW_nil ?_ | (apply hw0 (hd := rfl); (first | exact qv9 | exact QV_indexA rfl rfl rfl hj | exact q_loadA (j := j) (o := 2) rfl rfl r0.len r0.at_ rfl rfl | exact q_loadA (j := j) (o := 3) rfl rfl r0.len r0.at_ rfl rfl); (exact gy0)) | (apply hwb (hd := rfl); exact qbx; (exact gy0); rfl) | refine zq7 ?_ | refine zq8 ?_))
        obtain ⟨js', hjs⟩ : ∃ js' : List Jt, js' = js.set j (⟨(jat js j).i, ⟨(jat js j).o.x + (dx - 1), (jat js j).o.y + (dy - 1)⟩⟩) := ⟨_, rfl⟩
        have hlen : js'.length = js.length := by rw [hjs, List.length_set]
        have hset : (js.map Jt.row ++ more7000000).set j (Jt.row (⟨(jat js j).i, ⟨(jat js j).o.x + (dx - 1), (jat js j).o.y + (dy - 1)⟩⟩)) = js'.map Jt.row ++ more7000000 := by
          rw [List.set_append_left _ _ (by simpa using hj), hjs, List.map_set]
        have hs' : SmJ (22 - m) js' := by
          rw [hjs]
          refine (hs.le (by omega)).set j ?_
          unfold smP
          exact ⟨by simp only; omega, by simp only; omega⟩
        (repeat (first | refine WL_nil ?_ | refine zq0 qv9 ?_ | refine zq1 ?_ | refine zq2 ?_ | refine zq3 ?_ | refine zq4 ?_ | refine wstP (j := j) (e := 4) (o := 2) rfl rfl rfl List.not_mem_nil rfl rfl rfl rfl r0.at_ rfl r0.len rfl ?_ | refine zq5 ?_ | refine zq6 ?_ | refine wN rfl ?_))
        rw [hset]
        cases ha' : archB js'
        · have hok := archOk_ok js' (by omega)
          rw [ha'] at hok
          rw [← hlen]
          (repeat (first | refine WL_nil ?_ | refine zq0 (by first | exact qv9 | exact q_callSA (hok)) ?_ | refine zq1 ?_ | refine zq2 ?_ | refine zq3 ?_ | refine zq4 ?_ | refine zq5 ?_ | refine zq6 ?_ | refine wN rfl ?_))
          rw [hlen]
          refine Exists.intro _ (Exists.intro _ ⟨?_, ⟨m, u - 1, js, more, true, i7, h7, by omega, rfl, by omega, ha, hs.le (by omega), hmo, rfl⟩, (weak_mk (by repeat' (first | exact trivial | refine And.intro ?_ ?_ | exact Le.refl | exact Le.nilOwn rfl | exact Le.nilSl | exact Le.ownSl | exact Le.top)) (by repeat' (first | exact trivial | refine And.intro ?_ ?_ | exact ⟨_, rfl, Les.refl _⟩ | exact ⟨_, rfl, by repeat' (first | exact Les.nil | exact Les.cons Le.refl (Les.refl _) | refine Les.cons (by first | exact Le.top | exact Le.refl | exact Le.ownSl | exact Le.nilSl) ?_)⟩)) rfl (by repeat' (first | exact trivial | refine And.intro ?_ ?_ | exact rfl | exact refs_fill (fun _ => rfl) rfl | exact refs_map (fun _ => rfl) | exact refs_more (by assumption) (fun _ => rfl))) (fun _ _ _ h => by first | exact h.elim | (obtain ⟨rfl, rfl, rfl⟩ := h; simp)))⟩)
          omega
        · have hok := archOk_ok js' (by omega)
          rw [ha'] at hok
          rw [← hlen]
          (repeat (first | refine WL_nil ?_ | refine zq0 (by first | exact qv9 | exact q_callSA (hok)) ?_ | refine zq1 ?_ | refine zq2 ?_ | refine zq3 ?_ | refine zq4 ?_ | refine zq5 ?_ | refine zq6 ?_ | refine wN rfl ?_))
          refine Exists.intro _ (Exists.intro _ ⟨?_, ⟨m, u - 1, js', more7000000, false, i7, h7, by omega, rfl, by omega, ha', hs', hmore7000000, rfl⟩, (weak_mk (by repeat' (first | exact trivial | refine And.intro ?_ ?_ | exact Le.refl | exact Le.nilOwn rfl | exact Le.nilSl | exact Le.ownSl | exact Le.top)) (by repeat' (first | exact trivial | refine And.intro ?_ ?_ | exact ⟨_, rfl, Les.refl _⟩ | exact ⟨_, rfl, by repeat' (first | exact Les.nil | exact Les.cons Le.refl (Les.refl _) | refine Les.cons (by first | exact Le.top | exact Le.refl | exact Le.ownSl | exact Le.nilSl) ?_)⟩)) rfl (by repeat' (first | exact trivial | refine And.intro ?_ ?_ | exact rfl | exact refs_fill (fun _ => rfl) rfl | exact refs_map (fun _ => rfl) | exact refs_more (by assumption) (fun _ => rfl))) (fun _ _ _ h => by first | exact h.elim | (obtain ⟨rfl, rfl, rfl⟩ := h; simp)))⟩)
          omega
      · (repeat (first | refine WL_nil ?_ | refine zq0 qv9 ?_ | refine zq1 ?_ | refine zq2 ?_ | refine zq3 ?_ | refine zq4 ?_ | refine zq5 ?_ | refine zq6 ?_ | refine wN rfl ?_))
        refine wdraw 24 (by kernel_rfl) (by kernel_rfl) (by kernel_rfl) rfl ?_
        (repeat (first | refine HW_nil ?_ | (apply hw0 (hd := rfl); (first | exact qv9 | exact QV_indexA rfl rfl rfl hj | exact q_loadA (j := j) (o := 0) rfl rfl r0.len r0.at_ rfl rfl | exact q_loadA (j := j) (o := 1) rfl rfl r0.len r0.at_ rfl rfl); (exact gy0)) | (apply hwb (hd := rfl); exact qbx; (exact gy0); rfl) | refine zq7 ?_ | refine zq8 ?_))
        obtain ⟨js', hjs⟩ : ∃ js' : List Jt, js' = js.set j (⟨⟨(jat js j).i.x + (dx - 1), (jat js j).i.y + (dy - 1)⟩, (jat js j).o⟩) := ⟨_, rfl⟩
        have hlen : js'.length = js.length := by rw [hjs, List.length_set]
        have hset : (js.map Jt.row ++ more7000000).set j (Jt.row (⟨⟨(jat js j).i.x + (dx - 1), (jat js j).i.y + (dy - 1)⟩, (jat js j).o⟩)) = js'.map Jt.row ++ more7000000 := by
          rw [List.set_append_left _ _ (by simpa using hj), hjs, List.map_set]
        have hs' : SmJ (22 - m) js' := by
          rw [hjs]
          refine (hs.le (by omega)).set j ?_
          unfold smP
          exact ⟨by simp only; omega, by simp only; omega⟩
        (repeat (first | refine WL_nil ?_ | refine zq0 qv9 ?_ | refine zq1 ?_ | refine zq2 ?_ | refine zq3 ?_ | refine zq4 ?_ | refine wstP (j := j) (e := 4) (o := 0) rfl rfl rfl List.not_mem_nil rfl rfl rfl rfl r0.at_ rfl r0.len rfl ?_ | refine zq5 ?_ | refine zq6 ?_ | refine wN rfl ?_))
        rw [hset]
        cases ha' : archB js'
        · have hok := archOk_ok js' (by omega)
          rw [ha'] at hok
          rw [← hlen]
          (repeat (first | refine WL_nil ?_ | refine zq0 (by first | exact qv9 | exact q_callSA (hok)) ?_ | refine zq1 ?_ | refine zq2 ?_ | refine zq3 ?_ | refine zq4 ?_ | refine zq5 ?_ | refine zq6 ?_ | refine wN rfl ?_))
          rw [hlen]
          refine Exists.intro _ (Exists.intro _ ⟨?_, ⟨m, u - 1, js, more, true, i7, h7, by omega, rfl, by omega, ha, hs.le (by omega), hmo, rfl⟩, (weak_mk (by repeat' (first | exact trivial | refine And.intro ?_ ?_ | exact Le.refl | exact Le.nilOwn rfl | exact Le.nilSl | exact Le.ownSl | exact Le.top)) (by repeat' (first | exact trivial | refine And.intro ?_ ?_ | exact ⟨_, rfl, Les.refl _⟩ | exact ⟨_, rfl, by repeat' (first | exact Les.nil | exact Les.cons Le.refl (Les.refl _) | refine Les.cons (by first | exact Le.top | exact Le.refl | exact Le.ownSl | exact Le.nilSl) ?_)⟩)) rfl (by repeat' (first | exact trivial | refine And.intro ?_ ?_ | exact rfl | exact refs_fill (fun _ => rfl) rfl | exact refs_map (fun _ => rfl) | exact refs_more (by assumption) (fun _ => rfl))) (fun _ _ _ h => by first | exact h.elim | (obtain ⟨rfl, rfl, rfl⟩ := h; simp)))⟩)
          omega
        · have hok := archOk_ok js' (by omega)
          rw [ha'] at hok
          rw [← hlen]
          (repeat (first | refine WL_nil ?_ | refine zq0 (by first | exact qv9 | exact q_callSA (hok)) ?_ | refine zq1 ?_ | refine zq2 ?_ | refine zq3 ?_ | refine zq4 ?_ | refine zq5 ?_ | refine zq6 ?_ | refine wN rfl ?_))
          refine Exists.intro _ (Exists.intro _ ⟨?_, ⟨m, u - 1, js', more7000000, false, i7, h7, by omega, rfl, by omega, ha', hs', hmore7000000, rfl⟩, (weak_mk (by repeat' (first | exact trivial | refine And.intro ?_ ?_ | exact Le.refl | exact Le.nilOwn rfl | exact Le.nilSl | exact Le.ownSl | exact Le.top)) (by repeat' (first | exact trivial | refine And.intro ?_ ?_ | exact ⟨_, rfl, Les.refl _⟩ | exact ⟨_, rfl, by repeat' (first | exact Les.nil | exact Les.cons Le.refl (Les.refl _) | refine Les.cons (by first | exact Le.top | exact Le.refl | exact Le.ownSl | exact Le.nilSl) ?_)⟩)) rfl (by repeat' (first | exact trivial | refine And.intro ?_ ?_ | exact rfl | exact refs_fill (fun _ => rfl) rfl | exact refs_map (fun _ => rfl) | exact refs_more (by assumption) (fun _ => rfl))) (fun _ _ _ h => by first | exact h.elim | (obtain ⟨rfl, rfl, rfl⟩ := h; simp)))⟩)
          omega
end Go.Proofs.YtpcahgedkmgllaaGreat
