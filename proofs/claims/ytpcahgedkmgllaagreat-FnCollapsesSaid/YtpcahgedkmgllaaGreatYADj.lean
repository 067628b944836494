/- Drawn points and joints, the one draw that happens; drawn loads over any joints. -/
import Derived.Test.YtpcahgedkmgllaaGreatYG7
set_option maxHeartbeats 4000000
namespace Go.Proofs.YtpcahgedkmgllaaGreat
open Go.Eng
set_option maxRecDepth 100000
attribute [local irreducible] QV TV WL HW W CallOk Weak

@[reducible] def PtDR (l : List Int) (x y : Int) (i : Nat) (h : Int) (r : AV) (cs : List AV) : Prop := r = .agg [vi x, vi y] ∧ cs = [slU l, vi i, vi h]
@[reducible] def JtDR (l : List Int) (j : Jt) (i : Nat) (h : Int) (r : AV) (cs : List AV) : Prop := r = j.av ∧ cs = [slU l, vi i, vi h]
theorem l02Point_det (l : List Int) (hl : Bts l) (i : Nat) (h : Int) : ∃ (x y : Int) (i1 : Nat) (h1 : Int), -5 ≤ x ∧ x ≤ 15 ∧ -3 ≤ y ∧ y ≤ 12 ∧ CallPtr Tryz.prog 92 [.ptr 1000000 0] [slU l, vi i, vi h] (PtDR l x y i1 h1) := by
  obtain ⟨x, i1, h1, a0, a1, c1⟩ := l01Below_det l hl 21 (by decide) (by decide) i h
  obtain ⟨y, i2, h2, b0, b1, c2⟩ := l01Below_det l hl 16 (by decide) (by decide) i1 h1
  refine ⟨x - 5, y - 3, i2, h2, by omega, by omega, by omega, by omega, ?_⟩
  refine callPtr Tryz.func92 Tryz.ntmps92 Tryz.results92 rfl rfl rfl fun B w0 b T I0 V0 => ?_
  (repeat (first | refine WL_nil ?_ | refine zq0 qv9 ?_ | refine zq1 ?_ | refine zq2 ?_ | refine zq3 ?_ | refine zq4 ?_ | refine zq5 ?_ | refine zq6 ?_ | refine wN rfl ?_))
  (refine wlptr 0 [] (c1) rfl (by repeat' (first | exact PtA.nil | refine PtA.ptr ?_ | refine PtA.v ?_ | refine PtA.sl ?_ | refine PtA.own ?_ | refine PtA.agg (by (repeat' (first | exact LeDs.nil | refine LeDs.cons (by first | exact LeD.v | exact LeD.sl | exact LeD.own | exact LeD.nil | exact LeD.top) ?_))) ?_)) rfl rfl List.not_mem_nil (fun r cs ⟨hr, hc⟩ => by subst hr; subst hc; exact ⟨rfl, rfl⟩) rfl rfl (fun r cs hR => ?_); obtain ⟨rfl, rfl⟩ := hR)
  (repeat (first | refine WL_nil ?_ | refine zq0 qv9 ?_ | refine zq1 ?_ | refine zq2 ?_ | refine zq3 ?_ | refine zq4 ?_ | refine zq5 ?_ | refine zq6 ?_ | refine wN rfl ?_))
  (refine wlptr 0 [] (c2) rfl (by repeat' (first | exact PtA.nil | refine PtA.ptr ?_ | refine PtA.v ?_ | refine PtA.sl ?_ | refine PtA.own ?_ | refine PtA.agg (by (repeat' (first | exact LeDs.nil | refine LeDs.cons (by first | exact LeD.v | exact LeD.sl | exact LeD.own | exact LeD.nil | exact LeD.top) ?_))) ?_)) rfl rfl List.not_mem_nil (fun r cs ⟨hr, hc⟩ => by subst hr; subst hc; exact ⟨rfl, rfl⟩) rfl rfl (fun r cs hR => ?_); obtain ⟨rfl, rfl⟩ := hR)
  (repeat (first | refine WL_nil ?_ | refine zq0 qv9 ?_ | refine zq1 ?_ | refine zq2 ?_ | refine zq3 ?_ | refine zq4 ?_ | refine zq5 ?_ | refine zq6 ?_ | refine wN rfl ?_))
  refine ptrEnd (Weak.refl _) (resA_cell rfl rfl rfl rfl) rfl rfl rfl ?_
  exact ⟨rfl, rfl⟩
theorem l02Any_det (l : List Int) (hl : Bts l) (i : Nat) (h : Int) : ∃ (x y : Int) (i1 : Nat) (h1 : Int), CallPtr Tryz.prog 61 [.ptr 1000000 0] [slU l, vi i, vi h] (PtDR l x y i1 h1) := by
  obtain ⟨x, y, i1, h1, _, _, _, _, c1⟩ := l02Point_det l hl i h
  obtain ⟨k, i2, h2, k0, k1, c2⟩ := l01Below_det l hl 12 (by decide) (by decide) i1 h1
  obtain ⟨q, i3, h3, q0, q1, c3⟩ := l01Below_det l hl 5 (by decide) (by decide) i2 h2
  obtain ⟨q, rfl⟩ : ∃ n : Nat, q = n := ⟨q.toNat, by omega⟩
  by_cases e0 : k = 0
  · subst e0
    obtain ⟨p, hp⟩ : ∃ p, ([-61, -60, 60, 61, 9223372036854775807] : List Int)[q]? = some p := ⟨_, List.getElem?_eq_getElem (by simp; omega)⟩
    have cp := pickInt_det (m := 5) rfl hp c3
    refine ⟨p, y, i3, h3, ?_⟩
    refine callPtr Tryz.func61 Tryz.ntmps61 Tryz.results61 rfl rfl rfl fun B w0 b T I0 V0 => ?_
    (repeat (first | refine WL_nil ?_ | refine zq0 qv9 ?_ | refine zq1 ?_ | refine zq2 ?_ | refine zq3 ?_ | refine zq4 ?_ | refine zq5 ?_ | refine zq6 ?_ | refine wN rfl ?_))
    (refine wlptr 0 [] (c1) rfl (by repeat' (first | exact PtA.nil | refine PtA.ptr ?_ | refine PtA.v ?_ | refine PtA.sl ?_ | refine PtA.own ?_ | refine PtA.agg (by (repeat' (first | exact LeDs.nil | refine LeDs.cons (by first | exact LeD.v | exact LeD.sl | exact LeD.own | exact LeD.nil | exact LeD.top) ?_))) ?_)) rfl rfl List.not_mem_nil (fun r cs ⟨hr, hc⟩ => by subst hr; subst hc; exact ⟨rfl, rfl⟩) rfl rfl (fun r cs hR => ?_); obtain ⟨rfl, rfl⟩ := hR)
    (repeat (first | refine WL_nil ?_ | refine zq0 qv9 ?_ | refine zq1 ?_ | refine zq2 ?_ | refine zq3 ?_ | refine zq4 ?_ | refine zq5 ?_ | refine zq6 ?_ | refine wN rfl ?_))
    (refine wlptr 0 [] (c2) rfl (by repeat' (first | exact PtA.nil | refine PtA.ptr ?_ | refine PtA.v ?_ | refine PtA.sl ?_ | refine PtA.own ?_ | refine PtA.agg (by (repeat' (first | exact LeDs.nil | refine LeDs.cons (by first | exact LeD.v | exact LeD.sl | exact LeD.own | exact LeD.nil | exact LeD.top) ?_))) ?_)) rfl rfl List.not_mem_nil (fun r cs ⟨hr, hc⟩ => by subst hr; subst hc; exact ⟨rfl, rfl⟩) rfl rfl (fun r cs hR => ?_); obtain ⟨rfl, rfl⟩ := hR)
    (repeat (first | refine WL_nil ?_ | refine zq0 qv9 ?_ | refine zq1 ?_ | refine zq2 ?_ | refine zq3 ?_ | (apply wln1 (hd := rfl); exact q_buildSlice 11 rfl rfl rfl rfl; (exact gy0); rfl) | refine zq4 ?_ | refine zq5 ?_ | refine zq6 ?_ | refine wN rfl ?_))
    (refine wlptr 0 [] (cp) rfl (by repeat' (first | exact PtA.nil | refine PtA.ptr ?_ | refine PtA.v ?_ | refine PtA.sl ?_ | refine PtA.own ?_ | refine PtA.agg (by (repeat' (first | exact LeDs.nil | refine LeDs.cons (by first | exact LeD.v | exact LeD.sl | exact LeD.own | exact LeD.nil | exact LeD.top) ?_))) ?_)) rfl rfl List.not_mem_nil (fun r cs ⟨hr, hc⟩ => by subst hr; subst hc; exact ⟨rfl, rfl⟩) rfl rfl (fun r cs hR => ?_); obtain ⟨rfl, rfl⟩ := hR)
    (repeat (first | refine WL_nil ?_ | refine zq0 qv9 ?_ | refine zq1 ?_ | refine zq2 ?_ | refine zq3 ?_ | refine zq4 ?_ | refine zq5 ?_ | refine zq6 ?_ | refine wN rfl ?_))
    refine ptrEnd (s' := ⟨[(2, .ptr 2 0)], [(2, [vi p, vi y]), (1000000, [slU l, vi i3, vi h3])], []⟩) wkA (resA_cell rfl rfl rfl rfl) rfl rfl rfl ?_
    exact ⟨rfl, rfl⟩
  · have d0 : abin .eql .i64 k 0 = some (.bool false) := by simp [abin, e0]
    by_cases e1 : k = 1
    · subst e1
      obtain ⟨p, hp⟩ : ∃ p, ([-61, -60, 60, 61, -9223372036854775808] : List Int)[q]? = some p := ⟨_, List.getElem?_eq_getElem (by simp; omega)⟩
      have cp := pickInt_det (m := 5) rfl hp c3
      refine ⟨x, p, i3, h3, ?_⟩
      refine callPtr Tryz.func61 Tryz.ntmps61 Tryz.results61 rfl rfl rfl fun B w0 b T I0 V0 => ?_
      (repeat (first | refine WL_nil ?_ | refine zq0 qv9 ?_ | refine zq1 ?_ | refine zq2 ?_ | refine zq3 ?_ | refine zq4 ?_ | refine zq5 ?_ | refine zq6 ?_ | refine wN rfl ?_))
      (refine wlptr 0 [] (c1) rfl (by repeat' (first | exact PtA.nil | refine PtA.ptr ?_ | refine PtA.v ?_ | refine PtA.sl ?_ | refine PtA.own ?_ | refine PtA.agg (by (repeat' (first | exact LeDs.nil | refine LeDs.cons (by first | exact LeD.v | exact LeD.sl | exact LeD.own | exact LeD.nil | exact LeD.top) ?_))) ?_)) rfl rfl List.not_mem_nil (fun r cs ⟨hr, hc⟩ => by subst hr; subst hc; exact ⟨rfl, rfl⟩) rfl rfl (fun r cs hR => ?_); obtain ⟨rfl, rfl⟩ := hR)
      (repeat (first | refine WL_nil ?_ | refine zq0 qv9 ?_ | refine zq1 ?_ | refine zq2 ?_ | refine zq3 ?_ | refine zq4 ?_ | refine zq5 ?_ | refine zq6 ?_ | refine wN rfl ?_))
      (refine wlptr 0 [] (c2) rfl (by repeat' (first | exact PtA.nil | refine PtA.ptr ?_ | refine PtA.v ?_ | refine PtA.sl ?_ | refine PtA.own ?_ | refine PtA.agg (by (repeat' (first | exact LeDs.nil | refine LeDs.cons (by first | exact LeD.v | exact LeD.sl | exact LeD.own | exact LeD.nil | exact LeD.top) ?_))) ?_)) rfl rfl List.not_mem_nil (fun r cs ⟨hr, hc⟩ => by subst hr; subst hc; exact ⟨rfl, rfl⟩) rfl rfl (fun r cs hR => ?_); obtain ⟨rfl, rfl⟩ := hR)
      (repeat (first | refine WL_nil ?_ | refine zq0 qv9 ?_ | refine zq1 ?_ | refine zq2 ?_ | refine zq3 ?_ | (apply wln1 (hd := rfl); exact q_buildSlice 17 rfl rfl rfl rfl; (exact gy0); rfl) | refine zq4 ?_ | refine zq5 ?_ | refine zq6 ?_ | refine wN rfl ?_))
      (refine wlptr 0 [] (cp) rfl (by repeat' (first | exact PtA.nil | refine PtA.ptr ?_ | refine PtA.v ?_ | refine PtA.sl ?_ | refine PtA.own ?_ | refine PtA.agg (by (repeat' (first | exact LeDs.nil | refine LeDs.cons (by first | exact LeD.v | exact LeD.sl | exact LeD.own | exact LeD.nil | exact LeD.top) ?_))) ?_)) rfl rfl List.not_mem_nil (fun r cs ⟨hr, hc⟩ => by subst hr; subst hc; exact ⟨rfl, rfl⟩) rfl rfl (fun r cs hR => ?_); obtain ⟨rfl, rfl⟩ := hR)
      (repeat (first | refine WL_nil ?_ | refine zq0 qv9 ?_ | refine zq1 ?_ | refine zq2 ?_ | refine zq3 ?_ | refine zq4 ?_ | refine zq5 ?_ | refine zq6 ?_ | refine wN rfl ?_))
      refine ptrEnd (s' := ⟨[(2, .ptr 2 0)], [(2, [vi x, vi p]), (1000000, [slU l, vi i3, vi h3])], []⟩) wkA (resA_cell rfl rfl rfl rfl) rfl rfl rfl ?_
      exact ⟨rfl, rfl⟩
    · have d1 : abin .eql .i64 k 1 = some (.bool false) := by simp [abin, e1]
      refine ⟨x, y, i2, h2, ?_⟩
      refine callPtr Tryz.func61 Tryz.ntmps61 Tryz.results61 rfl rfl rfl fun B w0 b T I0 V0 => ?_
      (repeat (first | refine WL_nil ?_ | refine zq0 qv9 ?_ | refine zq1 ?_ | refine zq2 ?_ | refine zq3 ?_ | refine zq4 ?_ | refine zq5 ?_ | refine zq6 ?_ | refine wN rfl ?_))
      (refine wlptr 0 [] (c1) rfl (by repeat' (first | exact PtA.nil | refine PtA.ptr ?_ | refine PtA.v ?_ | refine PtA.sl ?_ | refine PtA.own ?_ | refine PtA.agg (by (repeat' (first | exact LeDs.nil | refine LeDs.cons (by first | exact LeD.v | exact LeD.sl | exact LeD.own | exact LeD.nil | exact LeD.top) ?_))) ?_)) rfl rfl List.not_mem_nil (fun r cs ⟨hr, hc⟩ => by subst hr; subst hc; exact ⟨rfl, rfl⟩) rfl rfl (fun r cs hR => ?_); obtain ⟨rfl, rfl⟩ := hR)
      (repeat (first | refine WL_nil ?_ | refine zq0 qv9 ?_ | refine zq1 ?_ | refine zq2 ?_ | refine zq3 ?_ | refine zq4 ?_ | refine zq5 ?_ | refine zq6 ?_ | refine wN rfl ?_))
      (refine wlptr 0 [] (c2) rfl (by repeat' (first | exact PtA.nil | refine PtA.ptr ?_ | refine PtA.v ?_ | refine PtA.sl ?_ | refine PtA.own ?_ | refine PtA.agg (by (repeat' (first | exact LeDs.nil | refine LeDs.cons (by first | exact LeD.v | exact LeD.sl | exact LeD.own | exact LeD.nil | exact LeD.top) ?_))) ?_)) rfl rfl List.not_mem_nil (fun r cs ⟨hr, hc⟩ => by subst hr; subst hc; exact ⟨rfl, rfl⟩) rfl rfl (fun r cs hR => ?_); obtain ⟨rfl, rfl⟩ := hR)
      (repeat (first | refine WL_nil ?_ | refine zq0 (by first | exact QV_bin rfl rfl d0 | exact QV_bin rfl rfl d1 | exact qv9) ?_ | refine zq1 ?_ | refine zq2 ?_ | refine zq3 ?_ | refine zq4 ?_ | refine zq5 ?_ | refine zq6 ?_ | refine wN rfl ?_))
      refine ptrEnd (s' := ⟨[(2, .ptr 2 0)], [(2, [vi x, vi y]), (1000000, [slU l, vi i2, vi h2])], []⟩) wkA (resA_cell rfl rfl rfl rfl) rfl rfl rfl ?_
      exact ⟨rfl, rfl⟩
theorem l05Joint_det (l : List Int) (hl : Bts l) (i : Nat) (h : Int) : ∃ (j : Jt) (i1 : Nat) (h1 : Int), CallPtr Tryz.prog 60 [.ptr 1000000 0] [slU l, vi i, vi h] (JtDR l j i1 h1) := by
  obtain ⟨x, y, i1, h1, x0, x1, y0, y1, c1⟩ := l02Point_det l hl i h
  obtain ⟨u, i2, h2, u0, u1, c2⟩ := l01Below_det l hl 5 (by decide) (by decide) i1 h1
  obtain ⟨v, i3, h3, v0, v1, c3⟩ := l01Below_det l hl 4 (by decide) (by decide) i2 h2
  refine ⟨⟨⟨x, y⟩, ⟨x - 2 + u, y + 1 + v⟩⟩, i3, h3, ?_⟩
  refine callPtr Tryz.func60 Tryz.ntmps60 Tryz.results60 rfl rfl rfl fun B w0 b T I0 V0 => ?_
  (repeat (first | refine WL_nil ?_ | refine zq0 qv9 ?_ | refine zq1 ?_ | refine zq2 ?_ | refine zq3 ?_ | refine zq4 ?_ | refine zq5 ?_ | refine zq6 ?_ | refine wN rfl ?_))
  (refine wlptr 0 [] (c1) rfl (by repeat' (first | exact PtA.nil | refine PtA.ptr ?_ | refine PtA.v ?_ | refine PtA.sl ?_ | refine PtA.own ?_ | refine PtA.agg (by (repeat' (first | exact LeDs.nil | refine LeDs.cons (by first | exact LeD.v | exact LeD.sl | exact LeD.own | exact LeD.nil | exact LeD.top) ?_))) ?_)) rfl rfl List.not_mem_nil (fun r cs ⟨hr, hc⟩ => by subst hr; subst hc; exact ⟨rfl, rfl⟩) rfl rfl (fun r cs hR => ?_); obtain ⟨rfl, rfl⟩ := hR)
  (repeat (first | refine WL_nil ?_ | refine zq0 qv9 ?_ | refine zq1 ?_ | refine zq2 ?_ | refine zq3 ?_ | refine zq4 ?_ | refine zq5 ?_ | refine zq6 ?_ | refine wN rfl ?_))
  refine wdrawC 15 1000000 [5, 11] (by kernel_rfl) (by kernel_rfl) (by kernel_rfl) (by kernel_rfl) (by kernel_rfl) rfl rfl rfl ?_
  (repeat (first | refine HC_nil ?_ | (apply hc0 (hd := rfl); (first | exact qv9); (exact gy0)) | refine hcn ⟨_, rfl, rfl⟩ rfl ?_ | refine hcE (evPtr (c2) rfl (by repeat' (first | exact PtA.nil | refine PtA.ptr ?_ | refine PtA.v ?_ | refine PtA.sl ?_ | refine PtA.own ?_ | refine PtA.agg (by (repeat' (first | exact LeDs.nil | refine LeDs.cons (by first | exact LeD.v | exact LeD.sl | exact LeD.own | exact LeD.nil | exact LeD.top) ?_))) ?_)) rfl rfl rfl List.not_mem_nil) rfl rfl ?_ | refine hcE (evPtr (c3) rfl (by repeat' (first | exact PtA.nil | refine PtA.ptr ?_ | refine PtA.v ?_ | refine PtA.sl ?_ | refine PtA.own ?_ | refine PtA.agg (by (repeat' (first | exact LeDs.nil | refine LeDs.cons (by first | exact LeD.v | exact LeD.sl | exact LeD.own | exact LeD.nil | exact LeD.top) ?_))) ?_)) rfl rfl rfl List.not_mem_nil) rfl rfl ?_))
  (repeat (first | refine WL_nil ?_ | refine zq0 qv9 ?_ | refine zq1 ?_ | refine zq2 ?_ | refine zq3 ?_ | refine zq4 ?_ | refine zq5 ?_ | refine zq6 ?_ | refine wN rfl ?_))
  refine ptrEnd (s' := ⟨[(2, .ptr 2 0)], [(2, [vi x, vi y, vi (x - 2 + u), vi (y + 1 + v)]), (1000000, [slU l, vi i3, vi h3])], []⟩) wkA (resA_cell rfl rfl rfl rfl) rfl rfl rfl ?_
  exact ⟨rfl, rfl⟩
theorem l05Any_det (l : List Int) (hl : Bts l) (i : Nat) (h : Int) : ∃ (j : Jt) (i1 : Nat) (h1 : Int), CallPtr Tryz.prog 45 [.ptr 1000000 0] [slU l, vi i, vi h] (JtDR l j i1 h1) := by
  obtain ⟨⟨⟨xa, ya⟩, ⟨xb, yb⟩⟩, i1, h1, c1⟩ := l05Joint_det l hl i h
  obtain ⟨k, i2, h2, k0, k1, c2⟩ := l01Below_det l hl 8 (by decide) (by decide) i1 h1
  by_cases e0 : k = 0
  · subst e0
    obtain ⟨x, y, i3, h3, c3⟩ := l02Any_det l hl i2 h2
    refine ⟨⟨⟨x, y⟩, ⟨xb, yb⟩⟩, i3, h3, ?_⟩
    refine callPtr Tryz.func45 Tryz.ntmps45 Tryz.results45 rfl rfl rfl fun B w0 b T I0 V0 => ?_
    (repeat (first | refine WL_nil ?_ | refine zq0 qv9 ?_ | refine zq1 ?_ | refine zq2 ?_ | refine zq3 ?_ | refine zq4 ?_ | refine zq5 ?_ | refine zq6 ?_ | refine wN rfl ?_))
    (refine wlptr 0 [] (c1) rfl (by repeat' (first | exact PtA.nil | refine PtA.ptr ?_ | refine PtA.v ?_ | refine PtA.sl ?_ | refine PtA.own ?_ | refine PtA.agg (by (repeat' (first | exact LeDs.nil | refine LeDs.cons (by first | exact LeD.v | exact LeD.sl | exact LeD.own | exact LeD.nil | exact LeD.top) ?_))) ?_)) rfl rfl List.not_mem_nil (fun r cs ⟨hr, hc⟩ => by subst hr; subst hc; exact ⟨rfl, rfl⟩) rfl rfl (fun r cs hR => ?_); obtain ⟨rfl, rfl⟩ := hR)
    (repeat (first | refine WL_nil ?_ | refine zq0 qv9 ?_ | refine zq1 ?_ | refine zq2 ?_ | refine zq3 ?_ | refine zq4 ?_ | refine zq5 ?_ | refine zq6 ?_ | refine wN rfl ?_))
    (refine wlptr 0 [] (c2) rfl (by repeat' (first | exact PtA.nil | refine PtA.ptr ?_ | refine PtA.v ?_ | refine PtA.sl ?_ | refine PtA.own ?_ | refine PtA.agg (by (repeat' (first | exact LeDs.nil | refine LeDs.cons (by first | exact LeD.v | exact LeD.sl | exact LeD.own | exact LeD.nil | exact LeD.top) ?_))) ?_)) rfl rfl List.not_mem_nil (fun r cs ⟨hr, hc⟩ => by subst hr; subst hc; exact ⟨rfl, rfl⟩) rfl rfl (fun r cs hR => ?_); obtain ⟨rfl, rfl⟩ := hR)
    (repeat (first | refine WL_nil ?_ | refine zq0 qv9 ?_ | refine zq1 ?_ | refine zq2 ?_ | refine zq3 ?_ | refine zq4 ?_ | refine zq5 ?_ | refine zq6 ?_ | refine wN rfl ?_))
    (refine wlptr 0 [] (c3) rfl (by repeat' (first | exact PtA.nil | refine PtA.ptr ?_ | refine PtA.v ?_ | refine PtA.sl ?_ | refine PtA.own ?_ | refine PtA.agg (by (repeat' (first | exact LeDs.nil | refine LeDs.cons (by first | exact LeD.v | exact LeD.sl | exact LeD.own | exact LeD.nil | exact LeD.top) ?_))) ?_)) rfl rfl List.not_mem_nil (fun r cs ⟨hr, hc⟩ => by subst hr; subst hc; exact ⟨rfl, rfl⟩) rfl rfl (fun r cs hR => ?_); obtain ⟨rfl, rfl⟩ := hR)
    (repeat (first | refine WL_nil ?_ | refine zq0 qv9 ?_ | refine zq1 ?_ | refine zq2 ?_ | refine zq3 ?_ | refine zq4 ?_ | refine zq5 ?_ | refine zq6 ?_ | refine wN rfl ?_))
    refine ptrEnd (s' := ⟨[(2, .ptr 2 0)], [(2, [vi x, vi y, vi xb, vi yb]), (1000000, [slU l, vi i3, vi h3])], []⟩) wkA (resA_cell rfl rfl rfl rfl) rfl rfl rfl ?_
    exact ⟨rfl, rfl⟩
  · have d0 : abin .eql .i64 k 0 = some (.bool false) := by simp [abin, e0]
    by_cases e1 : k = 1
    · subst e1
      refine ⟨⟨⟨xa, ya⟩, ⟨xa, ya⟩⟩, i2, h2, ?_⟩
      refine callPtr Tryz.func45 Tryz.ntmps45 Tryz.results45 rfl rfl rfl fun B w0 b T I0 V0 => ?_
      (repeat (first | refine WL_nil ?_ | refine zq0 qv9 ?_ | refine zq1 ?_ | refine zq2 ?_ | refine zq3 ?_ | refine zq4 ?_ | refine zq5 ?_ | refine zq6 ?_ | refine wN rfl ?_))
      (refine wlptr 0 [] (c1) rfl (by repeat' (first | exact PtA.nil | refine PtA.ptr ?_ | refine PtA.v ?_ | refine PtA.sl ?_ | refine PtA.own ?_ | refine PtA.agg (by (repeat' (first | exact LeDs.nil | refine LeDs.cons (by first | exact LeD.v | exact LeD.sl | exact LeD.own | exact LeD.nil | exact LeD.top) ?_))) ?_)) rfl rfl List.not_mem_nil (fun r cs ⟨hr, hc⟩ => by subst hr; subst hc; exact ⟨rfl, rfl⟩) rfl rfl (fun r cs hR => ?_); obtain ⟨rfl, rfl⟩ := hR)
      (repeat (first | refine WL_nil ?_ | refine zq0 qv9 ?_ | refine zq1 ?_ | refine zq2 ?_ | refine zq3 ?_ | refine zq4 ?_ | refine zq5 ?_ | refine zq6 ?_ | refine wN rfl ?_))
      (refine wlptr 0 [] (c2) rfl (by repeat' (first | exact PtA.nil | refine PtA.ptr ?_ | refine PtA.v ?_ | refine PtA.sl ?_ | refine PtA.own ?_ | refine PtA.agg (by (repeat' (first | exact LeDs.nil | refine LeDs.cons (by first | exact LeD.v | exact LeD.sl | exact LeD.own | exact LeD.nil | exact LeD.top) ?_))) ?_)) rfl rfl List.not_mem_nil (fun r cs ⟨hr, hc⟩ => by subst hr; subst hc; exact ⟨rfl, rfl⟩) rfl rfl (fun r cs hR => ?_); obtain ⟨rfl, rfl⟩ := hR)
      (repeat (first | refine WL_nil ?_ | refine zq0 qv9 ?_ | refine zq1 ?_ | refine zq2 ?_ | refine zq3 ?_ | refine zq4 ?_ | refine zq5 ?_ | refine zq6 ?_ | refine wN rfl ?_))
      refine ptrEnd (s' := ⟨[(2, .ptr 2 0)], [(2, [vi xa, vi ya, vi xa, vi ya]), (1000000, [slU l, vi i2, vi h2])], []⟩) wkA (resA_cell rfl rfl rfl rfl) rfl rfl rfl ?_
      exact ⟨rfl, rfl⟩
    · have d1 : abin .eql .i64 k 1 = some (.bool false) := by simp [abin, e1]
      by_cases e2 : k = 2
      · subst e2
        refine ⟨⟨⟨xa, ya⟩, ⟨xb, ya⟩⟩, i2, h2, ?_⟩
        refine callPtr Tryz.func45 Tryz.ntmps45 Tryz.results45 rfl rfl rfl fun B w0 b T I0 V0 => ?_
        (repeat (first | refine WL_nil ?_ | refine zq0 qv9 ?_ | refine zq1 ?_ | refine zq2 ?_ | refine zq3 ?_ | refine zq4 ?_ | refine zq5 ?_ | refine zq6 ?_ | refine wN rfl ?_))
        (refine wlptr 0 [] (c1) rfl (by repeat' (first | exact PtA.nil | refine PtA.ptr ?_ | refine PtA.v ?_ | refine PtA.sl ?_ | refine PtA.own ?_ | refine PtA.agg (by (repeat' (first | exact LeDs.nil | refine LeDs.cons (by first | exact LeD.v | exact LeD.sl | exact LeD.own | exact LeD.nil | exact LeD.top) ?_))) ?_)) rfl rfl List.not_mem_nil (fun r cs ⟨hr, hc⟩ => by subst hr; subst hc; exact ⟨rfl, rfl⟩) rfl rfl (fun r cs hR => ?_); obtain ⟨rfl, rfl⟩ := hR)
        (repeat (first | refine WL_nil ?_ | refine zq0 qv9 ?_ | refine zq1 ?_ | refine zq2 ?_ | refine zq3 ?_ | refine zq4 ?_ | refine zq5 ?_ | refine zq6 ?_ | refine wN rfl ?_))
        (refine wlptr 0 [] (c2) rfl (by repeat' (first | exact PtA.nil | refine PtA.ptr ?_ | refine PtA.v ?_ | refine PtA.sl ?_ | refine PtA.own ?_ | refine PtA.agg (by (repeat' (first | exact LeDs.nil | refine LeDs.cons (by first | exact LeD.v | exact LeD.sl | exact LeD.own | exact LeD.nil | exact LeD.top) ?_))) ?_)) rfl rfl List.not_mem_nil (fun r cs ⟨hr, hc⟩ => by subst hr; subst hc; exact ⟨rfl, rfl⟩) rfl rfl (fun r cs hR => ?_); obtain ⟨rfl, rfl⟩ := hR)
        (repeat (first | refine WL_nil ?_ | refine zq0 qv9 ?_ | refine zq1 ?_ | refine zq2 ?_ | refine zq3 ?_ | refine zq4 ?_ | refine zq5 ?_ | refine zq6 ?_ | refine wN rfl ?_))
        refine ptrEnd (s' := ⟨[(2, .ptr 2 0)], [(2, [vi xa, vi ya, vi xb, vi ya]), (1000000, [slU l, vi i2, vi h2])], []⟩) wkA (resA_cell rfl rfl rfl rfl) rfl rfl rfl ?_
        exact ⟨rfl, rfl⟩
      · have d2 : abin .eql .i64 k 2 = some (.bool false) := by simp [abin, e2]
        refine ⟨⟨⟨xa, ya⟩, ⟨xb, yb⟩⟩, i2, h2, ?_⟩
        refine callPtr Tryz.func45 Tryz.ntmps45 Tryz.results45 rfl rfl rfl fun B w0 b T I0 V0 => ?_
        (repeat (first | refine WL_nil ?_ | refine zq0 qv9 ?_ | refine zq1 ?_ | refine zq2 ?_ | refine zq3 ?_ | refine zq4 ?_ | refine zq5 ?_ | refine zq6 ?_ | refine wN rfl ?_))
        (refine wlptr 0 [] (c1) rfl (by repeat' (first | exact PtA.nil | refine PtA.ptr ?_ | refine PtA.v ?_ | refine PtA.sl ?_ | refine PtA.own ?_ | refine PtA.agg (by (repeat' (first | exact LeDs.nil | refine LeDs.cons (by first | exact LeD.v | exact LeD.sl | exact LeD.own | exact LeD.nil | exact LeD.top) ?_))) ?_)) rfl rfl List.not_mem_nil (fun r cs ⟨hr, hc⟩ => by subst hr; subst hc; exact ⟨rfl, rfl⟩) rfl rfl (fun r cs hR => ?_); obtain ⟨rfl, rfl⟩ := hR)
        (repeat (first | refine WL_nil ?_ | refine zq0 qv9 ?_ | refine zq1 ?_ | refine zq2 ?_ | refine zq3 ?_ | refine zq4 ?_ | refine zq5 ?_ | refine zq6 ?_ | refine wN rfl ?_))
        (refine wlptr 0 [] (c2) rfl (by repeat' (first | exact PtA.nil | refine PtA.ptr ?_ | refine PtA.v ?_ | refine PtA.sl ?_ | refine PtA.own ?_ | refine PtA.agg (by (repeat' (first | exact LeDs.nil | refine LeDs.cons (by first | exact LeD.v | exact LeD.sl | exact LeD.own | exact LeD.nil | exact LeD.top) ?_))) ?_)) rfl rfl List.not_mem_nil (fun r cs ⟨hr, hc⟩ => by subst hr; subst hc; exact ⟨rfl, rfl⟩) rfl rfl (fun r cs hR => ?_); obtain ⟨rfl, rfl⟩ := hR)
        (repeat (first | refine WL_nil ?_ | refine zq0 (by first | exact QV_bin rfl rfl d0 | exact QV_bin rfl rfl d1 | exact QV_bin rfl rfl d2 | exact qv9) ?_ | refine zq1 ?_ | refine zq2 ?_ | refine zq3 ?_ | refine zq4 ?_ | refine zq5 ?_ | refine zq6 ?_ | refine wN rfl ?_))
        refine ptrEnd (s' := ⟨[(2, .ptr 2 0)], [(2, [vi xa, vi ya, vi xb, vi yb]), (1000000, [slU l, vi i2, vi h2])], []⟩) wkA (resA_cell rfl rfl rfl rfl) rfl rfl rfl ?_
        exact ⟨rfl, rfl⟩
@[reducible] def LoadOR (l : List Int) (ls : List Ld) (i : Nat) (h : Int) (r : AV) (cs : List AV) : Prop := r = .own 10 46 3 (ls.map Ld.row) ∧ cs = [slU l, vi i, vi h]
theorem l07LoadsO_det (l : List Int) (hl : Bts l) (js : List Jt) (h9 : js.length ≤ 9) (i : Nat) (h : Int) : ∃ (ls : List Ld) (i1 : Nat) (h1 : Int), ls.length ≤ 3 ∧ CallPtr Tryz.prog 28 [.ptr 1000000 0, .agg [slJt js]] [slU l, vi i, vi h] (LoadOR l ls i1 h1) := by
  obtain ⟨D, hD⟩ := draws_fn l hl
  obtain ⟨n0, i0, h0, e0⟩ : ∃ n0 i0 h0, D 4 i h = (n0, i0, h0) := ⟨_, _, _, rfl⟩
  have b0 := hD 4 i h (by decide) (by decide)
  rw [e0] at b0
  obtain ⟨k00, k01, c0⟩ := b0
  obtain ⟨n, rfl⟩ : ∃ n : Nat, n0 = n := ⟨n0.toNat, by omega⟩
  simp only at k01
  obtain ⟨N, hN⟩ : ∃ N : Nat, N = if 1 < js.length then n else 0 := ⟨_, rfl⟩
  have hN1 : N ≤ n := by rw [hN]; split <;> omega
  let list5 : List Int := [0, 6, 20, 60, 200]
  let stepL : Nat × Int → Ld × (Nat × Int) := fun p =>
    let b1 := D ((js.length : Int) - 1) p.1 p.2
    let b2 := D 5 b1.2.1 b1.2.2
    let b3 := D 4 b2.2.1 b2.2.2
    (⟨b1.1, list5.getD b2.1.toNat 0, W64 ((jat js b1.1.toNat).o.x + b3.1)⟩, b3.2)
  let iter : Nat → List Ld × (Nat × Int) := fun k => Nat.rec ([], (i0, h0)) (fun _ r => (r.1 ++ [(stepL r.2).1], (stepL r.2).2)) k
  have iter_s : ∀ k, iter (k + 1) = ((iter k).1 ++ [(stepL (iter k).2).1], (stepL (iter k).2).2) := fun _ => rfl
  have len : ∀ k, (iter k).1.length = k := by
    intro k
    induction k with
    | zero => rfl
    | succ k ih => rw [iter_s]; simp [ih]
  have five : ∀ x : Int, 0 ≤ x → x < 5 → ∃ p, list5[x.toNat]? = some p ∧ list5.getD x.toNat 0 = p := fun x a b => by
    have : x = 0 ∨ x = 1 ∨ x = 2 ∨ x = 3 ∨ x = 4 := by omega
    rcases this with rfl | rfl | rfl | rfl | rfl <;> exact ⟨_, rfl, rfl⟩
  refine ⟨(iter N).1, (iter N).2.1, (iter N).2.2, by rw [len]; omega, ?_⟩
  refine callPtr Tryz.func28 Tryz.ntmps28 Tryz.results28 rfl rfl rfl fun B w0 b T I0 V0 => ?_
  (repeat (first | refine WL_nil ?_ | refine zq0 qv9 ?_ | refine zq1 ?_ | refine zq2 ?_ | refine zq3 ?_ | (apply wln1 (hd := rfl); exact q_buildSlice 10 rfl rfl rfl rfl; (exact gy0); rfl) | refine zq4 ?_ | refine zq5 ?_ | refine zq6 ?_ | refine wN rfl ?_))
  (refine wlptr 0 [] (c0) rfl (by repeat' (first | exact PtA.nil | refine PtA.ptr ?_ | refine PtA.v ?_ | refine PtA.sl ?_ | refine PtA.own ?_ | refine PtA.agg (by (repeat' (first | exact LeDs.nil | refine LeDs.cons (by first | exact LeD.v | exact LeD.sl | exact LeD.own | exact LeD.nil | exact LeD.top) ?_))) ?_)) rfl rfl List.not_mem_nil (fun r cs ⟨hr, hc⟩ => by subst hr; subst hc; exact ⟨rfl, rfl⟩) rfl rfl (fun r cs hR => ?_); obtain ⟨rfl, rfl⟩ := hR)
  (repeat (first | refine WL_nil ?_ | refine zq0 qv9 ?_ | refine zq1 ?_ | refine zq2 ?_ | refine zq3 ?_ | refine zq4 ?_ | refine zq5 ?_ | refine zq6 ?_ | refine wN rfl ?_))
  refine W_loop (fun m s => ∃ (k : Nat) (rows : List (List AV)) (pi : Nat) (ph : Int), k ≤ N ∧ m = N - k ∧ rows = (iter k).1.map Ld.row ∧ (iter k).2 = (pi, ph) ∧ s = ⟨[(0, .ptr 1000000 0), (3, .ptr 3 0), (5, .own 10 46 3 rows), (6, vi n), (7, vi k)], [(3, [slJt js]), (1000000, [slU l, vi pi, vi ph])], [10]⟩) ⟨_, _, ⟨0, [], i0, h0, by omega, rfl, rfl, rfl, rfl⟩, wkA⟩ ?_
  rintro m s ⟨k, rows, pi, ph, hk, rfl, hrows, hp, rfl⟩
  by_cases hlt : k < N
  · have h1j : 1 < js.length := by
      by_cases h1j : 1 < js.length
      · exact h1j
      · rw [if_neg h1j] at hN; omega
    have c1 : abin .lss .i64 (k : Int) (n : Int) = some (.bool true) := by simp [abin]; omega
    have c2 : abin .gtr .i64 (js.length : Int) 1 = some (.bool true) := by simp [abin]; omega
    have d1 := hD ((js.length : Int) - 1) pi ph (by omega) (by omega)
    obtain ⟨x1, i1, g1, e1⟩ : ∃ x i h, D ((js.length : Int) - 1) pi ph = (x, i, h) := ⟨_, _, _, rfl⟩
    rw [e1] at d1
    obtain ⟨a0, a1, cx1⟩ := d1
    have d2 := hD 5 i1 g1 (by decide) (by decide)
    obtain ⟨x2, i2, g2, e2⟩ : ∃ x i h, D 5 i1 g1 = (x, i, h) := ⟨_, _, _, rfl⟩
    rw [e2] at d2
    obtain ⟨a2, a3, cx2⟩ := d2
    have d3 := hD 4 i2 g2 (by decide) (by decide)
    obtain ⟨x3, i3, g3, e3⟩ : ∃ x i h, D 4 i2 g2 = (x, i, h) := ⟨_, _, _, rfl⟩
    rw [e3] at d3
    obtain ⟨a4, a5, cx3⟩ := d3
    simp only at a0 a1 a2 a3 a4 a5 cx1 cx2 cx3
    obtain ⟨j, rfl⟩ : ∃ j : Nat, x1 = j := ⟨x1.toNat, by omega⟩
    obtain ⟨y, rfl⟩ : ∃ y : Nat, x2 = y := ⟨x2.toNat, by omega⟩
    obtain ⟨w5, hw5, hw6⟩ := five (y : Int) a2 a3
    have hw7 : ([0, 6, 20, 60, 200] : List Int)[y]? = some w5 := hw5
    have cp := pickInt_det (m := 5) rfl hw7 cx2
    have hst : stepL (iter k).2 = (⟨(j : Int), w5, W64 ((jat js j).o.x + x3)⟩, (i3, g3)) := by
      rw [hp]
      have hw8 : list5.getD y 0 = w5 := hw6
      simp only [stepL, e1, e2, e3, Int.toNat_natCast, hw8]
    have hjl : j < js.length := by omega
    have hpj := jat_lt hjl
    have hr : rows.length + [(⟨(j : Int), w5, W64 ((jat js j).o.x + x3)⟩ : Ld).row].length ≤ 1048576 := by rw [hrows, List.length_map, len]; simp; omega
    have cA : abin .add .i64 (jat js j).o.x x3 = some (.int .i64 (W64 ((jat js j).o.x + x3))) := rfl
    (repeat (first | refine WL_nil ?_ | refine zq0 (by first | exact QV_bin rfl rfl c1 | exact QV_bin rfl rfl c2 | exact qv9) ?_ | refine zq1 ?_ | refine zq2 ?_ | refine zq3 ?_ | refine zq4 ?_ | refine zq5 ?_ | refine zq6 ?_ | refine wN rfl ?_))
    (refine wlptr 0 [] (cx1) rfl (by repeat' (first | exact PtA.nil | refine PtA.ptr ?_ | refine PtA.v ?_ | refine PtA.sl ?_ | refine PtA.own ?_ | refine PtA.agg (by (repeat' (first | exact LeDs.nil | refine LeDs.cons (by first | exact LeD.v | exact LeD.sl | exact LeD.own | exact LeD.nil | exact LeD.top) ?_))) ?_)) rfl rfl List.not_mem_nil (fun r cs ⟨hr, hc⟩ => by subst hr; subst hc; exact ⟨rfl, rfl⟩) rfl rfl (fun r cs hR => ?_); obtain ⟨rfl, rfl⟩ := hR)
    (repeat (first | refine WL_nil ?_ | refine zq0 qv9 ?_ | refine zq1 ?_ | refine zq2 ?_ | refine zq3 ?_ | (apply wln1 (hd := rfl); exact q_buildSlice 31 rfl rfl rfl rfl; (exact gy0); rfl) | refine zq4 ?_ | refine zq5 ?_ | refine zq6 ?_ | refine wN rfl ?_))
    (refine wlptr 0 [] (cp) rfl (by repeat' (first | exact PtA.nil | refine PtA.ptr ?_ | refine PtA.v ?_ | refine PtA.sl ?_ | refine PtA.own ?_ | refine PtA.agg (by (repeat' (first | exact LeDs.nil | refine LeDs.cons (by first | exact LeD.v | exact LeD.sl | exact LeD.own | exact LeD.nil | exact LeD.top) ?_))) ?_)) rfl rfl List.not_mem_nil (fun r cs ⟨hr, hc⟩ => by subst hr; subst hc; exact ⟨rfl, rfl⟩) rfl rfl (fun r cs hR => ?_); obtain ⟨rfl, rfl⟩ := hR)
    (repeat (first | refine WL_nil ?_ | refine zq0 qv9 ?_ | refine zq1 ?_ | refine zq2 ?_ | refine zq3 ?_ | refine zq4 ?_ | refine zq5 ?_ | refine zq6 ?_ | refine wN rfl ?_))
    refine wdrawC 15 1000000 [11] (by kernel_rfl) (by kernel_rfl) (by kernel_rfl) (by kernel_rfl) (by kernel_rfl) rfl rfl rfl ?_
    (repeat (first | refine HC_nil ?_ | (apply hc0 (hd := rfl); (first | exact QV_bin rfl rfl cA | exact qv9 | exact QV_indexAddr rfl rfl rfl rfl (row_at hpj)); (exact gy0)) | refine hcn ⟨_, rfl, rfl⟩ rfl ?_ | (apply hcn1 (hd := rfl); exact q_buildSlice 47 rfl rfl rfl rfl; (exact gy0); rfl) | refine hcE (evPtr (cx3) rfl (by repeat' (first | exact PtA.nil | refine PtA.ptr ?_ | refine PtA.v ?_ | refine PtA.sl ?_ | refine PtA.own ?_ | refine PtA.agg (by (repeat' (first | exact LeDs.nil | refine LeDs.cons (by first | exact LeD.v | exact LeD.sl | exact LeD.own | exact LeD.nil | exact LeD.top) ?_))) ?_)) rfl rfl rfl List.not_mem_nil) rfl rfl ?_))
    (repeat (first | refine WL_nil ?_ | refine zq0 qv9 ?_ | refine zq1 ?_ | refine zq2 ?_ | refine zq3 ?_ | refine zq4 ?_ | refine wapp (rows2 := [(⟨(j : Int), w5, W64 ((jat js j).o.x + x3)⟩ : Ld).row]) rfl rfl rfl (ld_cells1 _) (ld_lens1 _) hr rfl rfl rfl rfl ?_ | refine zq5 ?_ | refine zq6 ?_ | refine wN rfl ?_))
    refine Exists.intro _ (Exists.intro _ ⟨?_, ⟨k + 1, rows ++ [(⟨(j : Int), w5, W64 ((jat js j).o.x + x3)⟩ : Ld).row], i3, g3, by omega, rfl, by rw [hrows, iter_s, hst]; simp, by rw [iter_s, hst], rfl⟩, wkA⟩)
    omega
  · have hk' : k = N := by omega
    subst hk'
    by_cases hn : k < n
    · have h1j : ¬ 1 < js.length := fun h1j => by rw [if_pos h1j] at hN; omega
      have c1 : abin .lss .i64 (k : Int) (n : Int) = some (.bool true) := by simp [abin]; omega
      have c2 : abin .gtr .i64 (js.length : Int) 1 = some (.bool false) := by simp [abin]; omega
      (repeat (first | refine WL_nil ?_ | refine zq0 (by first | exact QV_bin rfl rfl c1 | exact QV_bin rfl rfl c2 | exact qv9) ?_ | refine zq1 ?_ | refine zq2 ?_ | refine zq3 ?_ | refine zq4 ?_ | refine zq5 ?_ | refine zq6 ?_ | refine wN rfl ?_))
      refine ptrEnd (s' := ⟨[(4, .own 10 46 3 rows)], [(1000000, [slU l, vi pi, vi ph])], [10]⟩) wkA (resA_tmp rfl rfl) rfl rfl rfl ?_
      rw [hp]
      exact ⟨by rw [hrows]; rfl, rfl⟩
    · have c1 : abin .lss .i64 (k : Int) (n : Int) = some (.bool false) := by simp [abin]; omega
      (repeat (first | refine WL_nil ?_ | refine zq0 (by first | exact QV_bin rfl rfl c1 | exact qv9) ?_ | refine zq1 ?_ | refine zq2 ?_ | refine zq3 ?_ | refine zq4 ?_ | refine zq5 ?_ | refine zq6 ?_ | refine wN rfl ?_))
      refine ptrEnd (s' := ⟨[(4, .own 10 46 3 rows)], [(1000000, [slU l, vi pi, vi ph])], [10]⟩) wkA (resA_tmp rfl rfl) rfl rfl rfl ?_
      rw [hp]
      exact ⟨by rw [hrows]; rfl, rfl⟩
end Go.Proofs.YtpcahgedkmgllaaGreat
