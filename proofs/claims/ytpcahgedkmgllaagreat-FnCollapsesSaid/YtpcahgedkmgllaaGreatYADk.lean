/- Drawn arches that are broken, too; the draws of collapses. -/
import Derived.Test.YtpcahgedkmgllaaGreatYADj
import Derived.Test.YtpcahgedkmgllaaGreatYADn
set_option maxHeartbeats 4000000
namespace Go.Proofs.YtpcahgedkmgllaaGreat
open Go.Eng
set_option maxRecDepth 100000
attribute [local irreducible] QV TV WL HW W CallOk Weak

@[reducible] def ArchAD (l : List Int) (r : AV) (cs : List AV) : Prop := ∃ js : List Jt, js.length ≤ 9 ∧ r = .agg [slJt js] ∧ CurR l cs
theorem l06Any_ok (l : List Int) (hl : Bts l) (i : Nat) (h : Int) : CallPtr Tryz.prog 27 [.ptr 1000000 0] [slU l, vi i, vi h] (ArchAD l) := by
  refine callPtr Tryz.func27 Tryz.ntmps27 Tryz.results27 rfl rfl rfl fun B w0 b T I0 V0 => ?_
  (repeat (first | refine WL_nil ?_ | refine zq0 qv9 ?_ | refine zq1 ?_ | refine zq2 ?_ | refine zq3 ?_ | refine zq4 ?_ | refine zq5 ?_ | refine zq6 ?_ | refine wN rfl ?_))
  refine wlptrN 7000000 (l06ArchN_ok l hl i h) rfl (by repeat' (first | exact PtA.nil | refine PtA.ptr ?_ | refine PtA.v ?_ | refine PtA.sl ?_ | refine PtA.own ?_ | refine PtA.agg (by (repeat' (first | exact LeDs.nil | refine LeDs.cons (by first | exact LeD.v | exact LeD.sl | exact LeD.own | exact LeD.nil | exact LeD.top) ?_))) ?_)) rfl rfl List.not_mem_nil (fun r cs ⟨_, _, _, _, i, h, hc⟩ => by subst hc; rfl) rfl rfl rfl (fun rows more cs hR hmo => ?_)
  obtain ⟨js, ha, hs, rfl, i1, h1, rfl⟩ := hR
  have h8 := arch_len ha
  have elen : (js.map Jt.row).length = js.length := List.length_map _
  rw [elen]
  have hpl : ∀ x ∈ (js.map Jt.row).flatten, plain x = true := map_plainB (fun _ => rfl)
  (repeat (first | refine WL_nil ?_ | refine zq0 (by first | exact qv9 | exact QV_lenA rfl) ?_ | refine zq1 ?_ | refine zq2 ?_ | refine zq3 ?_ | refine zq4 ?_ | refine zq5 ?_ | refine zq6 ?_ | refine wN rfl ?_))
  refine wldraw (l01Below_ok l hl js.length (by omega) (by omega) i1 h1) rfl (by repeat' (first | exact PtA.nil | refine PtA.ptr ?_ | refine PtA.v ?_)) rfl rfl List.not_mem_nil rfl (fun x i2 h2 hx0 hx1 => ?_)
  obtain ⟨k, rfl⟩ : ∃ k : Nat, x = k := ⟨x.toNat, by omega⟩
  have hk : k < js.length := by omega
  have hp := jat_lt hk
  (repeat (first | refine WL_nil ?_ | refine zq0 qv9 ?_ | refine zq1 ?_ | refine zq2 ?_ | refine zq3 ?_ | refine zq4 ?_ | refine zq5 ?_ | refine zq6 ?_ | refine wN rfl ?_))
  refine wldraw (l01Below_ok l hl 12 (by decide) (by decide) i2 h2) rfl (by repeat' (first | exact PtA.nil | refine PtA.ptr ?_ | refine PtA.v ?_)) rfl rfl List.not_mem_nil rfl (fun q i3 h3 hq0 hq1 => ?_)
  by_cases e0 : q = 0
  · subst e0
    obtain ⟨j0, i4, h4, c5⟩ := l05Any_det l hl i3 h3
    have r0 : RowAt (js.map Jt.row ++ more) k 4 (jat js k).row := ⟨by rw [List.getElem?_append_left (by simpa using hk)]; exact row_at hp, fun r hr => by
      rcases List.mem_append.1 hr with hr | hr
      · exact jt_lens js r hr
      · exact (hmo r hr).1⟩
    (repeat (first | refine WL_nil ?_ | refine zq0 qv9 ?_ | refine zq1 ?_ | refine zq2 ?_ | refine zq3 ?_ | refine zq4 ?_ | refine zq5 ?_ | refine zq6 ?_ | refine wN rfl ?_))
    refine wdrawC 5 1000000 [4] (by kernel_rfl) (by kernel_rfl) (by kernel_rfl) (by kernel_rfl) (by kernel_rfl) rfl rfl rfl ?_
    (repeat (first | refine HC_nil ?_ | (apply hc0 (hd := rfl); (first | exact qv9); (exact gy0)) | refine hcn ⟨_, rfl, rfl⟩ rfl ?_ | refine hcE (evPtr (c5) rfl (by repeat' (first | exact PtA.nil | refine PtA.ptr ?_ | refine PtA.v ?_ | refine PtA.sl ?_ | refine PtA.own ?_ | refine PtA.agg (by (repeat' (first | exact LeDs.nil | refine LeDs.cons (by first | exact LeD.v | exact LeD.sl | exact LeD.own | exact LeD.nil | exact LeD.top) ?_))) ?_)) rfl rfl rfl List.not_mem_nil) rfl rfl ?_))
    obtain ⟨js', hjs⟩ : ∃ js' : List Jt, js' = js.set k j0 := ⟨_, rfl⟩
    have hlen : js'.length = js.length := by rw [hjs, List.length_set]
    have hset : (js.map Jt.row ++ more).set k (Jt.row j0) = js'.map Jt.row ++ more := by
      rw [List.set_append_left _ _ (by simpa using hk), hjs, List.map_set]
    (repeat (first | refine WL_nil ?_ | refine zq0 (by first | exact qv9 | exact QV_indexA rfl rfl rfl hk) ?_ | refine zq1 ?_ | refine zq2 ?_ | refine zq3 ?_ | refine zq4 ?_ | refine wstP (j := k) (e := 4) (o := 0) rfl rfl rfl List.not_mem_nil rfl rfl rfl rfl r0.at_ rfl r0.len rfl ?_ | refine zq5 ?_ | refine zq6 ?_ | refine wN rfl ?_))
    rw [hset, ← hlen]
    (repeat (first | refine WL_nil ?_ | refine zq0 qv9 ?_ | refine zq1 ?_ | refine zq2 ?_ | refine zq3 ?_ | refine zq4 ?_ | refine zq5 ?_ | refine zq6 ?_ | refine wN rfl ?_))
    refine ptrEnd (s' := ⟨[(2, .ptr 2 0)], [(2, [slJt js']), (1000000, [slU l, vi i4, vi h4])], []⟩) (weak_dat 7000000 69 4 (js'.map Jt.row) more.flatten rfl (by rw [← List.flatten_append]; rfl) (jt_lens js') (map_plainB (fun _ => rfl)) (by repeat' (first | exact trivial | refine And.intro ?_ ?_ | exact .inr (.inl rfl))) ⟨⟨_, rfl, .cons (.inl ⟨congrArg (AV.arr 7000000 69 4) (List.length_map _).symm, rfl⟩) .nil⟩, ⟨_, rfl, DLes.refl _⟩, trivial⟩ rfl (by repeat' (first | exact trivial | refine And.intro ?_ ?_ | exact rfl)) rfl rfl (fun k b U hp => by obtain ⟨rfl, rfl, rfl⟩ := hp; simp)) (resA_cell rfl rfl rfl rfl) rfl rfl rfl ?_
    exact ⟨js', by omega, rfl, i4, h4, rfl⟩
  · have d0 : abin .eql .i64 q 0 = some (.bool false) := by simp [abin, e0]
    by_cases e1 : q = 1
    · subst e1
      refine WL_weak ⟨[(0, .ptr 1000000 0), (2, .ptr 2 0), (3, .ptr 3 0), (4, vi k), (13, vi 1)], [(3, [slJt js]), (2, [.v (.slice none 0 0)]), (1000000, [slU l, vi i3, vi h3])], []⟩ ?_ ?_
      · exact weak_dat 7000000 69 4 (js.map Jt.row) more.flatten rfl (by rw [← List.flatten_append]; rfl) (jt_lens js) (map_plainB (fun _ => rfl)) (by repeat' (first | exact trivial | refine And.intro ?_ ?_ | exact .inr (.inl rfl))) ⟨⟨_, rfl, .cons (.inl ⟨congrArg (AV.arr 7000000 69 4) (List.length_map _).symm, rfl⟩) .nil⟩, ⟨_, rfl, DLes.refl _⟩, ⟨_, rfl, DLes.refl _⟩, trivial⟩ rfl (by repeat' (first | exact trivial | refine And.intro ?_ ?_ | exact rfl)) rfl rfl (fun k b U hp => by obtain ⟨rfl, rfl, rfl⟩ := hp; simp)
      · have hcut : ((js.map Jt.row).take k).drop 0 = (js.take k).map Jt.row := by rw [List.drop_zero, List.map_take]
        have hkl : k ≤ (js.map Jt.row).length := by rw [elen]; omega
        (repeat (first | refine WL_nil ?_ | refine zq0 (by first | exact QV_bin rfl rfl d0 | exact qv9 | exact q_sliceE rfl rfl rfl rfl rfl rfl (Nat.zero_le _) hkl hcut) ?_ | refine zq1 ?_ | refine zq2 ?_ | refine zq3 ?_ | refine zq4 ?_ | refine zq5 ?_ | refine zq6 ?_ | refine wN rfl ?_))
        refine ptrEnd (s' := ⟨[(2, .ptr 2 0)], [(2, [slJt (js.take k)]), (1000000, [slU l, vi i3, vi h3])], []⟩) (weak_mk (by repeat' (first | exact trivial | refine And.intro ?_ ?_ | exact Le.refl | exact Le.nilOwn rfl | exact Le.nilSl | exact Le.ownSl | exact Le.top)) (by repeat' (first | exact trivial | refine And.intro ?_ ?_ | exact ⟨_, rfl, Les.refl _⟩ | exact ⟨_, rfl, by repeat' (first | exact Les.nil | exact Les.cons Le.refl (Les.refl _) | refine Les.cons (by first | exact Le.top | exact Le.refl | exact Le.ownSl | exact Le.nilSl) ?_)⟩)) rfl (by repeat' (first | exact trivial | refine And.intro ?_ ?_ | exact rfl | exact refs_fill (fun _ => rfl) rfl | exact refs_map (fun _ => rfl) | exact refs_more (by assumption) (fun _ => rfl))) (fun _ _ _ h => by first | exact h.elim | (obtain ⟨rfl, rfl, rfl⟩ := h; simp))) (resA_cell rfl rfl rfl rfl) rfl rfl rfl ?_
        exact ⟨js.take k, by simp; omega, rfl, i3, h3, rfl⟩
    · have d1 : abin .eql .i64 q 1 = some (.bool false) := by simp [abin, e1]
      by_cases e2 : q = 2
      · subst e2
        refine WL_weak ⟨[(0, .ptr 1000000 0), (2, .ptr 2 0), (3, .ptr 3 0), (4, vi k), (13, vi 2)], [(3, [.own 99 69 4 (js.map Jt.row)]), (2, [.v (.slice none 0 0)]), (1000000, [slU l, vi i3, vi h3])], [99]⟩ ?_ ?_
        · exact weak_own 7000000 99 69 4 (js.map Jt.row) more.flatten rfl (by rw [← List.flatten_append]; rfl) (jt_lens js) (map_plainB (fun _ => rfl)) rfl List.not_mem_nil (by repeat' (first | exact trivial | refine And.intro ?_ ?_ | exact .inr (.inl ⟨rfl, rfl⟩))) ⟨⟨_, rfl, .cons (.inl ⟨congrArg (AV.arr 7000000 69 4) (List.length_map _).symm, rfl⟩) .nil⟩, ⟨_, rfl, OLes.refl rfl⟩, ⟨_, rfl, OLes.refl rfl⟩, trivial⟩ rfl rfl (fun k b U hp => by obtain ⟨rfl, rfl, rfl⟩ := hp; simp)
        · have happ : (js.map Jt.row).length + [(jat js k).row].length ≤ 1048576 := by rw [elen]; simp; omega
          have hout : js.map Jt.row ++ [(jat js k).row] = (js ++ [jat js k]).map Jt.row := by simp
          (repeat (first | refine WL_nil ?_ | refine zq0 qv9 ?_ | refine zq1 ?_ | refine zq2 ?_ | refine zq3 ?_ | refine zq4 ?_ | refine zq5 ?_ | refine zq6 ?_ | refine wN rfl ?_))
          refine wdraw 8 (by kernel_rfl) (by kernel_rfl) (by kernel_rfl) rfl ?_
          (repeat (first | refine HW_nil ?_ | (apply hw0 (hd := rfl); (first | exact qv9 | exact QV_indexAddr rfl rfl rfl rfl (row_at hp)); (exact gy0)) | (apply hwb (hd := rfl); exact qbx; (exact gy0); rfl) | refine zq7 ?_ | refine zq8 ?_ | (apply hwn1 (hd := rfl); exact q_buildSlice 38 rfl rfl rfl rfl; (exact gy0); rfl)))
          (repeat (first | refine WL_nil ?_ | refine zq0 qv9 ?_ | refine zq1 ?_ | refine zq2 ?_ | refine zq3 ?_ | refine zq4 ?_ | refine wappE (rows2 := [(jat js k).row]) rfl rfl rfl (jt_cells [jat js k]) (jt_lens [jat js k]) happ rfl rfl hout rfl rfl ?_ | refine zq5 ?_ | refine zq6 ?_ | refine wN rfl ?_))
          refine ptrEnd (s' := ⟨[(2, .ptr 2 0)], [(2, [slJt (js ++ [jat js k])]), (1000000, [slU l, vi i3, vi h3])], []⟩) (weak_mk (by repeat' (first | exact trivial | refine And.intro ?_ ?_ | exact Le.refl | exact Le.nilOwn rfl | exact Le.nilSl | exact Le.ownSl | exact Le.top)) (by repeat' (first | exact trivial | refine And.intro ?_ ?_ | exact ⟨_, rfl, Les.refl _⟩ | exact ⟨_, rfl, by repeat' (first | exact Les.nil | exact Les.cons Le.refl (Les.refl _) | refine Les.cons (by first | exact Le.top | exact Le.refl | exact Le.ownSl | exact Le.nilSl) ?_)⟩)) rfl (by repeat' (first | exact trivial | refine And.intro ?_ ?_ | exact rfl | exact refs_fill (fun _ => rfl) rfl | exact refs_map (fun _ => rfl) | exact refs_more (by assumption) (fun _ => rfl))) (fun _ _ _ h => by first | exact h.elim | (obtain ⟨rfl, rfl, rfl⟩ := h; simp))) (resA_cell rfl rfl rfl rfl) rfl rfl rfl ?_
          exact ⟨js ++ [jat js k], by simp; omega, rfl, i3, h3, rfl⟩
      · have d2 : abin .eql .i64 q 2 = some (.bool false) := by simp [abin, e2]
        (repeat (first | refine WL_nil ?_ | refine zq0 (by first | exact QV_bin rfl rfl d0 | exact QV_bin rfl rfl d1 | exact QV_bin rfl rfl d2 | exact qv9) ?_ | refine zq1 ?_ | refine zq2 ?_ | refine zq3 ?_ | refine zq4 ?_ | refine zq5 ?_ | refine zq6 ?_ | refine wN rfl ?_))
        refine ptrEnd (s' := ⟨[(2, .ptr 2 0)], [(2, [slJt js]), (1000000, [slU l, vi i3, vi h3])], []⟩) (weak_dat 7000000 69 4 (js.map Jt.row) more.flatten rfl (by rw [← List.flatten_append]; rfl) (jt_lens js) (map_plainB (fun _ => rfl)) (by repeat' (first | exact trivial | refine And.intro ?_ ?_ | exact .inr (.inl rfl))) ⟨⟨_, rfl, .cons (.inl ⟨congrArg (AV.arr 7000000 69 4) (List.length_map _).symm, rfl⟩) .nil⟩, ⟨_, rfl, DLes.refl _⟩, trivial⟩ rfl (by repeat' (first | exact trivial | refine And.intro ?_ ?_ | exact rfl)) rfl rfl (fun k b U hp => by obtain ⟨rfl, rfl, rfl⟩ := hp; simp)) (resA_cell rfl rfl rfl rfl) rfl rfl rfl ?_
        exact ⟨js, by omega, rfl, i3, h3, rfl⟩
@[reducible] def ArchLD (l : List Int) (r : AV) (cs : List AV) : Prop := ∃ (js : List Jt) (ls : List Ld), js.length ≤ 9 ∧ ls.length ≤ 7 ∧ r = .tup [.agg [slJt js], slLd ls] ∧ CurR l cs
theorem l07Any_ok (l : List Int) (hl : Bts l) (i : Nat) (h : Int) : CallPtr Tryz.prog 15 [.ptr 1000000 0] [slU l, vi i, vi h] (ArchLD l) := by
  refine callPtr Tryz.func15 Tryz.ntmps15 Tryz.results15 rfl rfl rfl fun B w0 b T I0 V0 => ?_
  (repeat (first | refine WL_nil ?_ | refine zq0 qv9 ?_ | refine zq1 ?_ | refine zq2 ?_ | refine zq3 ?_ | refine zq4 ?_ | refine zq5 ?_ | refine zq6 ?_ | refine wN rfl ?_))
  refine wlptr 0 [] (l06Any_ok l hl i h) rfl (by repeat' (first | exact PtA.nil | refine PtA.ptr ?_ | refine PtA.v ?_ | refine PtA.sl ?_ | refine PtA.own ?_ | refine PtA.agg (by (repeat' (first | exact LeDs.nil | refine LeDs.cons (by first | exact LeD.v | exact LeD.sl | exact LeD.own | exact LeD.nil | exact LeD.top) ?_))) ?_)) rfl rfl List.not_mem_nil (fun r cs ⟨_, _, hr, i, h, hc⟩ => by subst hr; subst hc; exact ⟨rfl, rfl⟩) rfl rfl (fun r cs hR => ?_)
  obtain ⟨js, h9, rfl, i1, h1, rfl⟩ := hR
  obtain ⟨ls, i2, h2, h3', cl⟩ := l07LoadsO_det l hl js h9 i1 h1
  (repeat (first | refine WL_nil ?_ | refine zq0 qv9 ?_ | refine zq1 ?_ | refine zq2 ?_ | refine zq3 ?_ | refine zq4 ?_ | refine zq5 ?_ | refine zq6 ?_ | refine wN rfl ?_))
  (refine wlptr 90 [10] (cl) rfl (by repeat' (first | exact PtA.nil | refine PtA.ptr ?_ | refine PtA.v ?_ | refine PtA.sl ?_ | refine PtA.own ?_ | refine PtA.agg (by (repeat' (first | exact LeDs.nil | refine LeDs.cons (by first | exact LeD.v | exact LeD.sl | exact LeD.own | exact LeD.nil | exact LeD.top) ?_))) ?_)) rfl rfl List.not_mem_nil (fun r cs ⟨hr, hc⟩ => by subst hr; subst hc; exact ⟨rfl, rfl⟩) rfl rfl (fun r cs hR => ?_); obtain ⟨rfl, rfl⟩ := hR)
  (repeat (first | refine WL_nil ?_ | refine zq0 qv9 ?_ | refine zq1 ?_ | refine zq2 ?_ | refine zq3 ?_ | refine zq4 ?_ | refine zq5 ?_ | refine zq6 ?_ | refine wN rfl ?_))
  refine wldraw (l01Below_ok l hl 10 (by decide) (by decide) i2 h2) rfl (by repeat' (first | exact PtA.nil | refine PtA.ptr ?_ | refine PtA.v ?_)) rfl rfl List.not_mem_nil rfl (fun q i3 h3 hq0 hq1 => ?_)
  by_cases e0 : q = 0
  · subst e0
    obtain ⟨s, i4, h4, s0, s1, cs0⟩ := l01Below_det l hl 9 (by decide) (by decide) i3 h3
    obtain ⟨u, i5, h5, u0, u1, cu⟩ := l01Below_det l hl 4 (by decide) (by decide) i4 h4
    obtain ⟨v, i6, h6, v0, v1, cv⟩ := l01Below_det l hl 4 (by decide) (by decide) i5 h5
    obtain ⟨u, rfl⟩ : ∃ n : Nat, u = n := ⟨u.toNat, by omega⟩
    obtain ⟨v, rfl⟩ : ∃ n : Nat, v = n := ⟨v.toNat, by omega⟩
    obtain ⟨wu, hwu⟩ : ∃ p, ([-1, 0, 10000, 10001] : List Int)[u]? = some p := ⟨_, List.getElem?_eq_getElem (by simp; omega)⟩
    obtain ⟨xv, hxv⟩ : ∃ p, ([-61, 0, 60, 61] : List Int)[v]? = some p := ⟨_, List.getElem?_eq_getElem (by simp; omega)⟩
    have cp := pickInt_det (m := 4) rfl hwu cu
    have cq := pickInt_det (m := 4) rfl hxv cv
    have happ : (ls.map Ld.row).length + [(⟨s - 1, wu, xv⟩ : Ld).row].length ≤ 1048576 := by rw [List.length_map]; simp; omega
    have hout : ls.map Ld.row ++ [(⟨s - 1, wu, xv⟩ : Ld).row] = (ls ++ [(⟨s - 1, wu, xv⟩ : Ld)]).map Ld.row := by simp
    (repeat (first | refine WL_nil ?_ | refine zq0 qv9 ?_ | refine zq1 ?_ | refine zq2 ?_ | refine zq3 ?_ | refine zq4 ?_ | refine zq5 ?_ | refine zq6 ?_ | refine wN rfl ?_))
    (refine wlptr 0 [] (cs0) rfl (by repeat' (first | exact PtA.nil | refine PtA.ptr ?_ | refine PtA.v ?_ | refine PtA.sl ?_ | refine PtA.own ?_ | refine PtA.agg (by (repeat' (first | exact LeDs.nil | refine LeDs.cons (by first | exact LeD.v | exact LeD.sl | exact LeD.own | exact LeD.nil | exact LeD.top) ?_))) ?_)) rfl rfl List.not_mem_nil (fun r cs ⟨hr, hc⟩ => by subst hr; subst hc; exact ⟨rfl, rfl⟩) rfl rfl (fun r cs hR => ?_); obtain ⟨rfl, rfl⟩ := hR)
    (repeat (first | refine WL_nil ?_ | refine zq0 qv9 ?_ | refine zq1 ?_ | refine zq2 ?_ | refine zq3 ?_ | (apply wln1 (hd := rfl); exact q_buildSlice 20 rfl rfl rfl rfl; (exact gy0); rfl) | refine zq4 ?_ | refine zq5 ?_ | refine zq6 ?_ | refine wN rfl ?_))
    (refine wlptr 0 [] (cp) rfl (by repeat' (first | exact PtA.nil | refine PtA.ptr ?_ | refine PtA.v ?_ | refine PtA.sl ?_ | refine PtA.own ?_ | refine PtA.agg (by (repeat' (first | exact LeDs.nil | refine LeDs.cons (by first | exact LeD.v | exact LeD.sl | exact LeD.own | exact LeD.nil | exact LeD.top) ?_))) ?_)) rfl rfl List.not_mem_nil (fun r cs ⟨hr, hc⟩ => by subst hr; subst hc; exact ⟨rfl, rfl⟩) rfl rfl (fun r cs hR => ?_); obtain ⟨rfl, rfl⟩ := hR)
    (repeat (first | refine WL_nil ?_ | refine zq0 qv9 ?_ | refine zq1 ?_ | refine zq2 ?_ | refine zq3 ?_ | (apply wln1 (hd := rfl); exact q_buildSlice 23 rfl rfl rfl rfl; (exact gy0); rfl) | refine zq4 ?_ | refine zq5 ?_ | refine zq6 ?_ | refine wN rfl ?_))
    (refine wlptr 0 [] (cq) rfl (by repeat' (first | exact PtA.nil | refine PtA.ptr ?_ | refine PtA.v ?_ | refine PtA.sl ?_ | refine PtA.own ?_ | refine PtA.agg (by (repeat' (first | exact LeDs.nil | refine LeDs.cons (by first | exact LeD.v | exact LeD.sl | exact LeD.own | exact LeD.nil | exact LeD.top) ?_))) ?_)) rfl rfl List.not_mem_nil (fun r cs ⟨hr, hc⟩ => by subst hr; subst hc; exact ⟨rfl, rfl⟩) rfl rfl (fun r cs hR => ?_); obtain ⟨rfl, rfl⟩ := hR)
    (repeat (first | refine WL_nil ?_ | refine zq0 qv9 ?_ | refine zq1 ?_ | refine zq2 ?_ | refine zq3 ?_ | (apply wln1 (hd := rfl); exact q_buildSlice 26 rfl rfl rfl rfl; (exact gy0); rfl) | refine zq4 ?_ | refine wappE (rows2 := [(⟨s - 1, wu, xv⟩ : Ld).row]) rfl rfl rfl (ld_cells1 _) (ld_lens1 _) happ rfl rfl hout rfl rfl ?_ | refine zq5 ?_ | refine zq6 ?_ | refine wN rfl ?_))
    refine ptrEnd (s' := ⟨[(2, .ptr 2 0), (3, slLd (ls ++ [(⟨s - 1, wu, xv⟩ : Ld)]))], [(2, [slJt js]), (1000000, [slU l, vi i6, vi h6])], []⟩) (weak_mk (by repeat' (first | exact trivial | refine And.intro ?_ ?_ | exact Le.refl | exact Le.nilOwn rfl | exact Le.nilSl | exact Le.ownSl | exact Le.top)) (by repeat' (first | exact trivial | refine And.intro ?_ ?_ | exact ⟨_, rfl, Les.refl _⟩ | exact ⟨_, rfl, by repeat' (first | exact Les.nil | exact Les.cons Le.refl (Les.refl _) | refine Les.cons (by first | exact Le.top | exact Le.refl | exact Le.ownSl | exact Le.nilSl) ?_)⟩)) rfl (by repeat' (first | exact trivial | refine And.intro ?_ ?_ | exact rfl | exact refs_fill (fun _ => rfl) rfl | exact refs_map (fun _ => rfl) | exact refs_more (by assumption) (fun _ => rfl))) (fun _ _ _ h => by first | exact h.elim | (obtain ⟨rfl, rfl, rfl⟩ := h; simp))) (resA_cell rfl rfl rfl (resA_tmp rfl rfl)) rfl rfl rfl ?_
    exact ⟨js, _, h9, by simp; omega, rfl, i6, h6, rfl⟩
  · have d0 : abin .eql .i64 q 0 = some (.bool false) := by simp [abin, e0]
    by_cases e1 : q = 1
    · subst e1
      (repeat (first | refine WL_nil ?_ | refine zq0 (by first | exact QV_bin rfl rfl d0 | exact qv9) ?_ | refine zq1 ?_ | refine zq2 ?_ | refine zq3 ?_ | refine zq4 ?_ | refine zq5 ?_ | refine zq6 ?_ | refine wN rfl ?_))
      refine W_loop (fun m s => ∃ (k : List Ld) (pi : Nat) (ph : Int), k.length ≤ 7 ∧ m = 7 - k.length ∧ s = ⟨[(0, .ptr 1000000 0), (2, .ptr 2 0), (4, .ptr 4 0), (5, .own 100 46 3 (k.map Ld.row))], [(4, [slJt js]), (2, [.v (.slice none 0 0)]), (1000000, [slU l, vi pi, vi ph])], [100]⟩) ⟨_, _, ⟨ls, i3, h3, by omega, rfl, rfl⟩, (weak_mk (by repeat' (first | exact trivial | refine And.intro ?_ ?_ | exact Le.refl | exact Le.nilOwn rfl | exact Le.nilSl | exact Le.ownSl | exact Le.top)) (by repeat' (first | exact trivial | refine And.intro ?_ ?_ | exact ⟨_, rfl, Les.refl _⟩ | exact ⟨_, rfl, by repeat' (first | exact Les.nil | exact Les.cons Le.refl (Les.refl _) | refine Les.cons (by first | exact Le.top | exact Le.refl | exact Le.ownSl | exact Le.nilSl) ?_)⟩)) rfl (by repeat' (first | exact trivial | refine And.intro ?_ ?_ | exact rfl | exact refs_fill (fun _ => rfl) rfl | exact refs_map (fun _ => rfl) | exact refs_more (by assumption) (fun _ => rfl))) (fun _ _ _ h => by first | exact h.elim | (obtain ⟨rfl, rfl, rfl⟩ := h; simp)))⟩ ?_
      rintro m s ⟨k, pi, ph, hk, rfl, rfl⟩
      (repeat (first | refine WL_nil ?_ | refine zq0 qv9 ?_ | refine zq1 ?_ | refine zq2 ?_ | refine zq3 ?_ | refine zq4 ?_ | refine zq5 ?_ | refine zq6 ?_ | refine wN rfl ?_))
      refine wldraw (l01Below_ok l hl 2 (by decide) (by decide) pi ph) rfl (by repeat' (first | exact PtA.nil | refine PtA.ptr ?_ | refine PtA.v ?_)) rfl rfl List.not_mem_nil rfl (fun x i4 h4 hx0 hx1 => ?_)
      by_cases hlt : (k.length : Int) < 6 + x
      · have c1 : abin .lss .i64 (k.length : Int) (6 + x) = some (.bool true) := by simp only [abin, decide_eq_true hlt]
        have happ : (k.map Ld.row).length + [(⟨0, 5, 0⟩ : Ld).row].length ≤ 1048576 := by rw [List.length_map]; simp; omega
        have hout : k.map Ld.row ++ [(⟨0, 5, 0⟩ : Ld).row] = (k ++ [(⟨0, 5, 0⟩ : Ld)]).map Ld.row := by simp
        (repeat (first | refine WL_nil ?_ | refine zq0 (by first | exact QV_bin rfl rfl c1 | exact qv9) ?_ | refine zq1 ?_ | refine zq2 ?_ | refine zq3 ?_ | (apply wln1 (hd := rfl); exact q_buildSlice 38 rfl rfl rfl rfl; (exact gy0); rfl) | refine zq4 ?_ | refine wappE (rows2 := [(⟨0, 5, 0⟩ : Ld).row]) rfl rfl rfl (ld_cells1 _) (ld_lens1 _) happ rfl rfl hout rfl rfl ?_ | refine zq5 ?_ | refine zq6 ?_ | refine wN rfl ?_))
        refine Exists.intro _ (Exists.intro _ ⟨?_, ⟨k ++ [⟨0, 5, 0⟩], i4, h4, by simp; omega, rfl, rfl⟩, (weak_mk (by repeat' (first | exact trivial | refine And.intro ?_ ?_ | exact Le.refl | exact Le.nilOwn rfl | exact Le.nilSl | exact Le.ownSl | exact Le.top)) (by repeat' (first | exact trivial | refine And.intro ?_ ?_ | exact ⟨_, rfl, Les.refl _⟩ | exact ⟨_, rfl, by repeat' (first | exact Les.nil | exact Les.cons Le.refl (Les.refl _) | refine Les.cons (by first | exact Le.top | exact Le.refl | exact Le.ownSl | exact Le.nilSl) ?_)⟩)) rfl (by repeat' (first | exact trivial | refine And.intro ?_ ?_ | exact rfl | exact refs_fill (fun _ => rfl) rfl | exact refs_map (fun _ => rfl) | exact refs_more (by assumption) (fun _ => rfl))) (fun _ _ _ h => by first | exact h.elim | (obtain ⟨rfl, rfl, rfl⟩ := h; simp)))⟩)
        simp; omega
      · have c1 : abin .lss .i64 (k.length : Int) (6 + x) = some (.bool false) := by simp only [abin, decide_eq_false hlt]
        (repeat (first | refine WL_nil ?_ | refine zq0 (by first | exact QV_bin rfl rfl c1 | exact qv9) ?_ | refine zq1 ?_ | refine zq2 ?_ | refine zq3 ?_ | refine zq4 ?_ | refine zq5 ?_ | refine zq6 ?_ | refine wN rfl ?_))
        refine ptrEnd (s' := ⟨[(2, .ptr 2 0), (3, slLd k)], [(2, [slJt js]), (1000000, [slU l, vi i4, vi h4])], []⟩) (weak_mk (by repeat' (first | exact trivial | refine And.intro ?_ ?_ | exact Le.refl | exact Le.nilOwn rfl | exact Le.nilSl | exact Le.ownSl | exact Le.top)) (by repeat' (first | exact trivial | refine And.intro ?_ ?_ | exact ⟨_, rfl, Les.refl _⟩ | exact ⟨_, rfl, by repeat' (first | exact Les.nil | exact Les.cons Le.refl (Les.refl _) | refine Les.cons (by first | exact Le.top | exact Le.refl | exact Le.ownSl | exact Le.nilSl) ?_)⟩)) rfl (by repeat' (first | exact trivial | refine And.intro ?_ ?_ | exact rfl | exact refs_fill (fun _ => rfl) rfl | exact refs_map (fun _ => rfl) | exact refs_more (by assumption) (fun _ => rfl))) (fun _ _ _ h => by first | exact h.elim | (obtain ⟨rfl, rfl, rfl⟩ := h; simp))) (resA_cell rfl rfl rfl (resA_tmp rfl rfl)) rfl rfl rfl ?_
        exact ⟨js, k, h9, hk, rfl, i4, h4, rfl⟩
    · have d1 : abin .eql .i64 q 1 = some (.bool false) := by simp [abin, e1]
      (repeat (first | refine WL_nil ?_ | refine zq0 (by first | exact QV_bin rfl rfl d0 | exact QV_bin rfl rfl d1 | exact qv9) ?_ | refine zq1 ?_ | refine zq2 ?_ | refine zq3 ?_ | refine zq4 ?_ | refine zq5 ?_ | refine zq6 ?_ | refine wN rfl ?_))
      refine ptrEnd (s' := ⟨[(2, .ptr 2 0), (3, slLd ls)], [(2, [slJt js]), (1000000, [slU l, vi i3, vi h3])], []⟩) (weak_mk (by repeat' (first | exact trivial | refine And.intro ?_ ?_ | exact Le.refl | exact Le.nilOwn rfl | exact Le.nilSl | exact Le.ownSl | exact Le.top)) (by repeat' (first | exact trivial | refine And.intro ?_ ?_ | exact ⟨_, rfl, Les.refl _⟩ | exact ⟨_, rfl, by repeat' (first | exact Les.nil | exact Les.cons Le.refl (Les.refl _) | refine Les.cons (by first | exact Le.top | exact Le.refl | exact Le.ownSl | exact Le.nilSl) ?_)⟩)) rfl (by repeat' (first | exact trivial | refine And.intro ?_ ?_ | exact rfl | exact refs_fill (fun _ => rfl) rfl | exact refs_map (fun _ => rfl) | exact refs_more (by assumption) (fun _ => rfl))) (fun _ _ _ h => by first | exact h.elim | (obtain ⟨rfl, rfl, rfl⟩ := h; simp))) (resA_cell rfl rfl rfl (resA_tmp rfl rfl)) rfl rfl rfl ?_
      exact ⟨js, ls, h9, by omega, rfl, i3, h3, rfl⟩
theorem l16Thin_ok (l : List Int) (hl : Bts l) (i : Nat) (h : Int) : CallPtr Tryz.prog 16 [.ptr 1000000 0] [slU l, vi i, vi h] (ArchLD l) := by
  have four : ∀ q : Nat, q < 4 → ∃ p, ([0, 100, 1000, 3000] : List Int)[q]? = some p := fun q hq => ⟨_, List.getElem?_eq_getElem (by simpa using hq)⟩
  refine callPtr Tryz.func16 Tryz.ntmps16 Tryz.results16 rfl rfl rfl fun B w0 b T I0 V0 => ?_
  (repeat (first | refine WL_nil ?_ | refine zq0 (by first | exact qv9 | exact q_callA (l06Shape4_ok)) ?_ | refine zq1 ?_ | refine zq2 ?_ | refine zq3 ?_ | refine zq4 ?_ | refine zq5 ?_ | refine zq6 ?_ | refine wN rfl ?_))
  refine wlptr 0 [] (l01Once_ok l hl 3 (by decide) (by decide) i h) rfl (by repeat' (first | exact PtA.nil | refine PtA.ptr ?_ | refine PtA.v ?_ | refine PtA.sl ?_ | refine PtA.own ?_ | refine PtA.agg (by (repeat' (first | exact LeDs.nil | refine LeDs.cons (by first | exact LeD.v | exact LeD.sl | exact LeD.own | exact LeD.nil | exact LeD.top) ?_))) ?_)) rfl rfl List.not_mem_nil (fun r cs ⟨b, hr, i, h, hc⟩ => by subst hr; subst hc; exact ⟨rfl, rfl⟩) rfl rfl (fun r cs hR => ?_)
  obtain ⟨b9, rfl, i1, h1, rfl⟩ := hR
  cases b9
  · obtain ⟨js, hjs⟩ : ∃ js, js = shp 4 := ⟨_, rfl⟩
    have ha : archB js = true := by rw [hjs]; exact shp_ok 4 (by omega)
    have h8 := arch_len ha
    rw [← hjs]
    obtain ⟨ls, i2, h2, h3', cl⟩ := l07LoadsO_det l hl js (by omega) i1 h1
    obtain ⟨k, i3, h3, k0, k1, ck⟩ := l01Below_det l hl ((js.length : Int) - 1) (by omega) (by omega) i2 h2
    obtain ⟨k, rfl⟩ : ∃ n : Nat, k = n := ⟨k.toNat, by omega⟩
    obtain ⟨q, i4, h4, q0, q1, cq0⟩ := l01Below_det l hl 4 (by decide) (by decide) i3 h3
    obtain ⟨q, rfl⟩ : ∃ n : Nat, q = n := ⟨q.toNat, by omega⟩
    obtain ⟨wq, hq⟩ := four q (by omega)
    have cq := pickInt_det (m := 4) rfl hq cq0
    have hp := jat_lt (show k < js.length by omega)
    have cA : abin .add .i64 (jat js k).o.x 1 = some (.int .i64 (W64 ((jat js k).o.x + 1))) := rfl
    have happ : (ls.map Ld.row).length + [(⟨k, wq, W64 ((jat js k).o.x + 1)⟩ : Ld).row].length ≤ 1048576 := by rw [List.length_map]; simp; omega
    have hout : ls.map Ld.row ++ [(⟨k, wq, W64 ((jat js k).o.x + 1)⟩ : Ld).row] = (ls ++ [(⟨k, wq, W64 ((jat js k).o.x + 1)⟩ : Ld)]).map Ld.row := by simp
    (repeat (first | refine WL_nil ?_ | refine zq0 qv9 ?_ | refine zq1 ?_ | refine zq2 ?_ | refine zq3 ?_ | refine zq4 ?_ | refine zq5 ?_ | refine zq6 ?_ | refine wN rfl ?_))
    (refine wlptr 90 [10] (cl) rfl (by repeat' (first | exact PtA.nil | refine PtA.ptr ?_ | refine PtA.v ?_ | refine PtA.sl ?_ | refine PtA.own ?_ | refine PtA.agg (by (repeat' (first | exact LeDs.nil | refine LeDs.cons (by first | exact LeD.v | exact LeD.sl | exact LeD.own | exact LeD.nil | exact LeD.top) ?_))) ?_)) rfl rfl List.not_mem_nil (fun r cs ⟨hr, hc⟩ => by subst hr; subst hc; exact ⟨rfl, rfl⟩) rfl rfl (fun r cs hR => ?_); obtain ⟨rfl, rfl⟩ := hR)
    (repeat (first | refine WL_nil ?_ | refine zq0 qv9 ?_ | refine zq1 ?_ | refine zq2 ?_ | refine zq3 ?_ | refine zq4 ?_ | refine zq5 ?_ | refine zq6 ?_ | refine wN rfl ?_))
    (refine wlptr 0 [] (ck) rfl (by repeat' (first | exact PtA.nil | refine PtA.ptr ?_ | refine PtA.v ?_ | refine PtA.sl ?_ | refine PtA.own ?_ | refine PtA.agg (by (repeat' (first | exact LeDs.nil | refine LeDs.cons (by first | exact LeD.v | exact LeD.sl | exact LeD.own | exact LeD.nil | exact LeD.top) ?_))) ?_)) rfl rfl List.not_mem_nil (fun r cs ⟨hr, hc⟩ => by subst hr; subst hc; exact ⟨rfl, rfl⟩) rfl rfl (fun r cs hR => ?_); obtain ⟨rfl, rfl⟩ := hR)
    (repeat (first | refine WL_nil ?_ | refine zq0 qv9 ?_ | refine zq1 ?_ | refine zq2 ?_ | refine zq3 ?_ | refine zq4 ?_ | refine zq5 ?_ | refine zq6 ?_ | refine wN rfl ?_))
    refine wdrawC 15 1000000 [4] (by kernel_rfl) (by kernel_rfl) (by kernel_rfl) (by kernel_rfl) (by kernel_rfl) rfl rfl rfl ?_
    (repeat (first | refine HC_nil ?_ | (apply hc0 (hd := rfl); (first | exact QV_bin rfl rfl cA | exact qv9 | exact QV_indexAddr rfl rfl rfl rfl (row_at hp)); (exact gy0)) | refine hcn ⟨_, rfl, rfl⟩ rfl ?_ | (apply hcn1 (hd := rfl); exact q_buildSlice 24 rfl rfl rfl rfl; (exact gy0); rfl) | (apply hcn1 (hd := rfl); exact q_buildSlice 35 rfl rfl rfl rfl; (exact gy0); rfl) | refine hcE (evPtr (cq) rfl (by repeat' (first | exact PtA.nil | refine PtA.ptr ?_ | refine PtA.v ?_ | refine PtA.sl ?_ | refine PtA.own ?_ | refine PtA.agg (by (repeat' (first | exact LeDs.nil | refine LeDs.cons (by first | exact LeD.v | exact LeD.sl | exact LeD.own | exact LeD.nil | exact LeD.top) ?_))) ?_)) rfl rfl rfl List.not_mem_nil) rfl rfl ?_))
    (repeat (first | refine WL_nil ?_ | refine zq0 qv9 ?_ | refine zq1 ?_ | refine zq2 ?_ | refine zq3 ?_ | refine zq4 ?_ | refine wappE (rows2 := [(⟨k, wq, W64 ((jat js k).o.x + 1)⟩ : Ld).row]) rfl rfl rfl (ld_cells1 _) (ld_lens1 _) happ rfl rfl hout rfl rfl ?_ | refine zq5 ?_ | refine zq6 ?_ | refine wN rfl ?_))
    refine ptrEnd (s' := ⟨[(2, .ptr 2 0), (3, slLd (ls ++ [(⟨k, wq, W64 ((jat js k).o.x + 1)⟩ : Ld)]))], [(2, [slJt js]), (1000000, [slU l, vi i4, vi h4])], []⟩) (weak_mk (by repeat' (first | exact trivial | refine And.intro ?_ ?_ | exact Le.refl | exact Le.nilOwn rfl | exact Le.nilSl | exact Le.ownSl | exact Le.top)) (by repeat' (first | exact trivial | refine And.intro ?_ ?_ | exact ⟨_, rfl, Les.refl _⟩ | exact ⟨_, rfl, by repeat' (first | exact Les.nil | exact Les.cons Le.refl (Les.refl _) | refine Les.cons (by first | exact Le.top | exact Le.refl | exact Le.ownSl | exact Le.nilSl) ?_)⟩)) rfl (by repeat' (first | exact trivial | refine And.intro ?_ ?_ | exact rfl | exact refs_fill (fun _ => rfl) rfl | exact refs_map (fun _ => rfl) | exact refs_more (by assumption) (fun _ => rfl))) (fun _ _ _ h => by first | exact h.elim | (obtain ⟨rfl, rfl, rfl⟩ := h; simp))) (resA_cell rfl rfl rfl (resA_tmp rfl rfl)) rfl rfl rfl ?_
    exact ⟨js, _, by omega, by simp; omega, rfl, i4, h4, rfl⟩
  · (repeat (first | refine WL_nil ?_ | refine zq0 qv9 ?_ | refine zq1 ?_ | refine zq2 ?_ | refine zq3 ?_ | refine zq4 ?_ | refine zq5 ?_ | refine zq6 ?_ | refine wN rfl ?_))
    refine wlptr 0 [] (l06Arch_ok l hl i1 h1) rfl (by repeat' (first | exact PtA.nil | refine PtA.ptr ?_ | refine PtA.v ?_ | refine PtA.sl ?_ | refine PtA.own ?_ | refine PtA.agg (by (repeat' (first | exact LeDs.nil | refine LeDs.cons (by first | exact LeD.v | exact LeD.sl | exact LeD.own | exact LeD.nil | exact LeD.top) ?_))) ?_)) rfl rfl List.not_mem_nil (fun r cs ⟨s, _, _, hr, i, h, hc⟩ => by subst hr; subst hc; exact ⟨rfl, rfl⟩) rfl rfl (fun r cs hR => ?_)
    obtain ⟨js, ha, _, rfl, i9, h9, rfl⟩ := hR
    have h8 := arch_len ha
    obtain ⟨ls, i2, h2, h3', cl⟩ := l07LoadsO_det l hl js (by omega) i9 h9
    obtain ⟨k, i3, h3, k0, k1, ck⟩ := l01Below_det l hl ((js.length : Int) - 1) (by omega) (by omega) i2 h2
    obtain ⟨k, rfl⟩ : ∃ n : Nat, k = n := ⟨k.toNat, by omega⟩
    obtain ⟨q, i4, h4, q0, q1, cq0⟩ := l01Below_det l hl 4 (by decide) (by decide) i3 h3
    obtain ⟨q, rfl⟩ : ∃ n : Nat, q = n := ⟨q.toNat, by omega⟩
    obtain ⟨wq, hq⟩ := four q (by omega)
    have cq := pickInt_det (m := 4) rfl hq cq0
    have hp := jat_lt (show k < js.length by omega)
    have cA : abin .add .i64 (jat js k).o.x 1 = some (.int .i64 (W64 ((jat js k).o.x + 1))) := rfl
    have happ : (ls.map Ld.row).length + [(⟨k, wq, W64 ((jat js k).o.x + 1)⟩ : Ld).row].length ≤ 1048576 := by rw [List.length_map]; simp; omega
    have hout : ls.map Ld.row ++ [(⟨k, wq, W64 ((jat js k).o.x + 1)⟩ : Ld).row] = (ls ++ [(⟨k, wq, W64 ((jat js k).o.x + 1)⟩ : Ld)]).map Ld.row := by simp
    (repeat (first | refine WL_nil ?_ | refine zq0 qv9 ?_ | refine zq1 ?_ | refine zq2 ?_ | refine zq3 ?_ | refine zq4 ?_ | refine zq5 ?_ | refine zq6 ?_ | refine wN rfl ?_))
    (refine wlptr 90 [10] (cl) rfl (by repeat' (first | exact PtA.nil | refine PtA.ptr ?_ | refine PtA.v ?_ | refine PtA.sl ?_ | refine PtA.own ?_ | refine PtA.agg (by (repeat' (first | exact LeDs.nil | refine LeDs.cons (by first | exact LeD.v | exact LeD.sl | exact LeD.own | exact LeD.nil | exact LeD.top) ?_))) ?_)) rfl rfl List.not_mem_nil (fun r cs ⟨hr, hc⟩ => by subst hr; subst hc; exact ⟨rfl, rfl⟩) rfl rfl (fun r cs hR => ?_); obtain ⟨rfl, rfl⟩ := hR)
    (repeat (first | refine WL_nil ?_ | refine zq0 qv9 ?_ | refine zq1 ?_ | refine zq2 ?_ | refine zq3 ?_ | refine zq4 ?_ | refine zq5 ?_ | refine zq6 ?_ | refine wN rfl ?_))
    (refine wlptr 0 [] (ck) rfl (by repeat' (first | exact PtA.nil | refine PtA.ptr ?_ | refine PtA.v ?_ | refine PtA.sl ?_ | refine PtA.own ?_ | refine PtA.agg (by (repeat' (first | exact LeDs.nil | refine LeDs.cons (by first | exact LeD.v | exact LeD.sl | exact LeD.own | exact LeD.nil | exact LeD.top) ?_))) ?_)) rfl rfl List.not_mem_nil (fun r cs ⟨hr, hc⟩ => by subst hr; subst hc; exact ⟨rfl, rfl⟩) rfl rfl (fun r cs hR => ?_); obtain ⟨rfl, rfl⟩ := hR)
    (repeat (first | refine WL_nil ?_ | refine zq0 qv9 ?_ | refine zq1 ?_ | refine zq2 ?_ | refine zq3 ?_ | refine zq4 ?_ | refine zq5 ?_ | refine zq6 ?_ | refine wN rfl ?_))
    refine wdrawC 15 1000000 [4] (by kernel_rfl) (by kernel_rfl) (by kernel_rfl) (by kernel_rfl) (by kernel_rfl) rfl rfl rfl ?_
    (repeat (first | refine HC_nil ?_ | (apply hc0 (hd := rfl); (first | exact QV_bin rfl rfl cA | exact qv9 | exact QV_indexAddr rfl rfl rfl rfl (row_at hp)); (exact gy0)) | refine hcn ⟨_, rfl, rfl⟩ rfl ?_ | (apply hcn1 (hd := rfl); exact q_buildSlice 24 rfl rfl rfl rfl; (exact gy0); rfl) | (apply hcn1 (hd := rfl); exact q_buildSlice 35 rfl rfl rfl rfl; (exact gy0); rfl) | refine hcE (evPtr (cq) rfl (by repeat' (first | exact PtA.nil | refine PtA.ptr ?_ | refine PtA.v ?_ | refine PtA.sl ?_ | refine PtA.own ?_ | refine PtA.agg (by (repeat' (first | exact LeDs.nil | refine LeDs.cons (by first | exact LeD.v | exact LeD.sl | exact LeD.own | exact LeD.nil | exact LeD.top) ?_))) ?_)) rfl rfl rfl List.not_mem_nil) rfl rfl ?_))
    (repeat (first | refine WL_nil ?_ | refine zq0 qv9 ?_ | refine zq1 ?_ | refine zq2 ?_ | refine zq3 ?_ | refine zq4 ?_ | refine wappE (rows2 := [(⟨k, wq, W64 ((jat js k).o.x + 1)⟩ : Ld).row]) rfl rfl rfl (ld_cells1 _) (ld_lens1 _) happ rfl rfl hout rfl rfl ?_ | refine zq5 ?_ | refine zq6 ?_ | refine wN rfl ?_))
    refine ptrEnd (s' := ⟨[(2, .ptr 2 0), (3, slLd (ls ++ [(⟨k, wq, W64 ((jat js k).o.x + 1)⟩ : Ld)]))], [(2, [slJt js]), (1000000, [slU l, vi i4, vi h4])], []⟩) (weak_mk (by repeat' (first | exact trivial | refine And.intro ?_ ?_ | exact Le.refl | exact Le.nilOwn rfl | exact Le.nilSl | exact Le.ownSl | exact Le.top)) (by repeat' (first | exact trivial | refine And.intro ?_ ?_ | exact ⟨_, rfl, Les.refl _⟩ | exact ⟨_, rfl, by repeat' (first | exact Les.nil | exact Les.cons Le.refl (Les.refl _) | refine Les.cons (by first | exact Le.top | exact Le.refl | exact Le.ownSl | exact Le.nilSl) ?_)⟩)) rfl (by repeat' (first | exact trivial | refine And.intro ?_ ?_ | exact rfl | exact refs_fill (fun _ => rfl) rfl | exact refs_map (fun _ => rfl) | exact refs_more (by assumption) (fun _ => rfl))) (fun _ _ _ h => by first | exact h.elim | (obtain ⟨rfl, rfl, rfl⟩ := h; simp))) (resA_cell rfl rfl rfl (resA_tmp rfl rfl)) rfl rfl rfl ?_
    exact ⟨js, _, by omega, by simp; omega, rfl, i4, h4, rfl⟩
theorem drawCollapseOf_ok (l : List Int) (hl : Bts l) : CallOk Tryz.prog 5 [slU l] (fun r => ∃ (js : List Jt) (ls : List Ld), js.length ≤ 9 ∧ ls.length ≤ 7 ∧ r = .tup [.agg [slJt js], slLd ls]) := by
  refine callOk Tryz.func5 Tryz.ntmps5 Tryz.results5 rfl rfl rfl fun B w0 M I0 V0 => ?_
  (repeat (first | refine WL_nil ?_ | refine zq0 qv9 ?_ | refine zq1 ?_ | refine zq2 ?_ | refine zq3 ?_ | refine zq4 ?_ | refine zq5 ?_ | refine zq6 ?_ | refine wN rfl ?_))
  refine wlmake 77 (l01New_ok l hl) rfl (by (repeat' (first | exact LeDs.nil | refine LeDs.cons (by first | exact LeD.v | exact LeD.sl | exact LeD.own | exact LeD.nil | exact LeD.top) ?_ | refine LeDs.agg ?_ ?_)); first | done | fail "open") rfl rfl (fun cs hR => ?_)
  obtain ⟨i, h, rfl⟩ := hR
  (repeat (first | refine WL_nil ?_ | refine zq0 qv9 ?_ | refine zq1 ?_ | refine zq2 ?_ | refine zq3 ?_ | refine zq4 ?_ | refine zq5 ?_ | refine zq6 ?_ | refine wN rfl ?_))
  refine wlptr 0 [] (l01Once_ok l hl 4 (by decide) (by decide) i h) rfl (by repeat' (first | exact PtA.nil | refine PtA.ptr ?_ | refine PtA.v ?_ | refine PtA.sl ?_ | refine PtA.own ?_ | refine PtA.agg (by (repeat' (first | exact LeDs.nil | refine LeDs.cons (by first | exact LeD.v | exact LeD.sl | exact LeD.own | exact LeD.nil | exact LeD.top) ?_))) ?_)) rfl rfl List.not_mem_nil (fun r cs ⟨b, hr, i, h, hc⟩ => by subst hr; subst hc; exact ⟨rfl, rfl⟩) rfl rfl (fun r cs hR => ?_)
  obtain ⟨b9, rfl, i1, h1, rfl⟩ := hR
  cases b9
  · (repeat (first | refine WL_nil ?_ | refine zq0 qv9 ?_ | refine zq1 ?_ | refine zq2 ?_ | refine zq3 ?_ | refine zq4 ?_ | refine zq5 ?_ | refine zq6 ?_ | refine wN rfl ?_))
    refine wlptr 0 [] (l16Thin_ok l hl i1 h1) rfl (by repeat' (first | exact PtA.nil | refine PtA.ptr ?_ | refine PtA.v ?_ | refine PtA.sl ?_ | refine PtA.own ?_ | refine PtA.agg (by (repeat' (first | exact LeDs.nil | refine LeDs.cons (by first | exact LeD.v | exact LeD.sl | exact LeD.own | exact LeD.nil | exact LeD.top) ?_))) ?_)) rfl rfl List.not_mem_nil (fun r cs ⟨_, _, _, _, hr, i, h, hc⟩ => by subst hr; subst hc; exact ⟨rfl, rfl⟩) rfl rfl (fun r cs hR => ?_)
    obtain ⟨js, ls, k1, k2, rfl, i2, h2, rfl⟩ := hR
    (repeat (first | refine WL_nil ?_ | refine zq0 qv9 ?_ | refine zq1 ?_ | refine zq2 ?_ | refine zq3 ?_ | refine zq4 ?_ | refine zq5 ?_ | refine zq6 ?_ | refine wN rfl ?_))
    refine Exists.intro _ ⟨Weak.refl _, Exists.intro _ ⟨resA_cell rfl rfl rfl (resA_tmp rfl rfl), ?_, rfl⟩⟩
    exact ⟨js, ls, k1, k2, rfl⟩
  · (repeat (first | refine WL_nil ?_ | refine zq0 qv9 ?_ | refine zq1 ?_ | refine zq2 ?_ | refine zq3 ?_ | refine zq4 ?_ | refine zq5 ?_ | refine zq6 ?_ | refine wN rfl ?_))
    refine wlptr 0 [] (l07Any_ok l hl i1 h1) rfl (by repeat' (first | exact PtA.nil | refine PtA.ptr ?_ | refine PtA.v ?_ | refine PtA.sl ?_ | refine PtA.own ?_ | refine PtA.agg (by (repeat' (first | exact LeDs.nil | refine LeDs.cons (by first | exact LeD.v | exact LeD.sl | exact LeD.own | exact LeD.nil | exact LeD.top) ?_))) ?_)) rfl rfl List.not_mem_nil (fun r cs ⟨_, _, _, _, hr, i, h, hc⟩ => by subst hr; subst hc; exact ⟨rfl, rfl⟩) rfl rfl (fun r cs hR => ?_)
    obtain ⟨js, ls, k1, k2, rfl, i2, h2, rfl⟩ := hR
    (repeat (first | refine WL_nil ?_ | refine zq0 qv9 ?_ | refine zq1 ?_ | refine zq2 ?_ | refine zq3 ?_ | refine zq4 ?_ | refine zq5 ?_ | refine zq6 ?_ | refine wN rfl ?_))
    refine Exists.intro _ ⟨Weak.refl _, Exists.intro _ ⟨resA_cell rfl rfl rfl (resA_tmp rfl rfl), ?_, rfl⟩⟩
    exact ⟨js, ls, k1, k2, rfl⟩
end Go.Proofs.YtpcahgedkmgllaaGreat
