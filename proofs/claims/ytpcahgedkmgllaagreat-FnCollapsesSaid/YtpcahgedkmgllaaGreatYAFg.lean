/- FewestRows: the fewest rows of the proofs that proofsOf's closure hands out. -/
import Derived.Test.YtpcahgedkmgllaaGreatYASe
set_option maxHeartbeats 4000000
namespace Go.Proofs.YtpcahgedkmgllaaGreat
open Go.Eng
set_option maxRecDepth 100000
attribute [local irreducible] QV TV WL HW W CallOk CallOkA Weak

set_option maxHeartbeats 4000000 in
theorem implFewestRows_ok (rs : List Rw) (hr : rs.length ≤ 20) (hall : rs.all rowB = true) : CallOkA Tryz.prog 10 [slRw rs] (fun r => r = vi (lst (ps1 rs rs.length))) := by
  have hP := proofsOf_fn rs
  refine callOkA_of_WK Tryz.func10 Tryz.ntmps10 Tryz.results10 rfl rfl rfl fun x0 I0 fn hrs hR0 => ?_
  refine WK_seqN ?_
  (repeat (first | refine WL_nil ?_ | refine zq0 qv9 ?_ | refine zq1 ?_ | refine zq2 ?_ | refine zq3 ?_ | refine zq4 ?_ | refine zq5 ?_ | refine zq6 ?_ | refine wN rfl ?_))
  refine ⟨rfl, WK_seqN ?_⟩
  (repeat (first | refine WL_nil ?_ | refine zq0 qv9 ?_ | refine zq1 ?_ | refine zq2 ?_ | refine zq3 ?_ | refine zq4 ?_ | refine zq5 ?_ | refine zq6 ?_ | refine wN rfl ?_))
  refine ⟨rfl, WK_seqL (WK_seqN ?_)⟩
  (repeat (first | refine WL_nil ?_ | refine zq0 (by first | exact QV_callF hP rfl (LeDs.cons LeD.sl LeDs.nil) | exact qv9) ?_ | refine zq1 ?_ | refine zq2 ?_ | refine zq3 ?_ | refine zq4 ?_ | refine zq5 ?_ | refine zq6 ?_ | refine wN rfl ?_))
  refine ⟨rfl, WK_block (WK_weak (s' := ⟨[(6, .fn (.func 41) [] [.eptr [slRw rs]]), (3, .ptr 3 0)], [(3, [vi 0])], []⟩) wkC ?_)⟩
  refine WK_range (tmO := [(3, .ptr 3 0)]) [3] (fun bl => True ∧ bl = [(3, [vi (lst (ps1 rs rs.length))])]) (fun bl => ∃ xs ks fs, xs ++ [(ks, fs)] <+: ps1 rs rs.length ∧ False ∧ bl = [(3, [vi (lst (xs ++ [(ks, fs)]))])])
    hR0 rfl Tryz.func41 Tryz.ntmps41 Tryz.results41 rfl rfl rfl (by intro q hq; simp only [List.mem_cons, List.not_mem_nil, or_false] at hq; subst hq; rfl) rfl
    (fun xa Ia Ma x2 M2 I2 l D fn tmps p hT hnt hR => ?_) (fun bl' ⟨_, hb⟩ x2 M2 I2 p D hR => ?_) (fun bl' ⟨xs, ks, fs, hpre, hx, hb⟩ x2 M2 I2 p D hR => hx.elim)
  · obtain ⟨cg, hc, hs⟩ := searchE_ok rs hr hall (fun _ => True) (fun _ _ => False) hT hnt hR trivial rfl rfl rfl (by
      intro xs ks fs hx hisp p' x2 M2 I2
      (repeat (first | refine WL_nil ?_ | refine zq0 qv9 ?_ | refine zq1 ?_ | refine zq2 ?_ | refine zq3 ?_ | refine zq4 ?_ | refine zq5 ?_ | refine zq6 ?_ | refine wN rfl ?_))
      refine ⟨rfl, fun x3 M3 I3 => ?_⟩
      obtain ⟨n, en⟩ : ∃ n, n = lst xs := ⟨_, rfl⟩
      rw [← en]
      by_cases z0 : n = 0
      · have c0 : abin .eql .i64 n 0 = some (.bool true) := by simp [abin, z0]
        (repeat (first | refine WL_nil ?_ | refine zq0 (by first | exact QV_bin rfl rfl c0 | exact qv9) ?_ | refine zq1 ?_ | refine zq2 ?_ | refine zq3 ?_ | refine zq4 ?_ | refine zq5 ?_ | refine zq6 ?_ | refine wN rfl ?_))
        exact ⟨[(8, [slI ks, slI fs]), (3, [vi (ks.length : Int)])], wkC, .inl ⟨rfl, trivial, by rw [lst_snoc, ← en, if_pos (.inl z0)]⟩⟩
      · have c0 : abin .eql .i64 n 0 = some (.bool false) := by simp [abin, z0]
        by_cases z1 : (ks.length : Int) < n
        · have c1 : abin .lss .i64 (ks.length : Int) n = some (.bool true) := by simp only [abin, decide_eq_true z1]
          (repeat (first | refine WL_nil ?_ | refine zq0 (by first | exact QV_bin rfl rfl c0 | exact QV_bin rfl rfl c1 | exact qv9) ?_ | refine zq1 ?_ | refine zq2 ?_ | refine zq3 ?_ | refine zq4 ?_ | refine zq5 ?_ | refine zq6 ?_ | refine wN rfl ?_))
          exact ⟨[(8, [slI ks, slI fs]), (3, [vi (ks.length : Int)])], wkC, .inl ⟨rfl, trivial, by rw [lst_snoc, ← en, if_pos (.inr z1)]⟩⟩
        · have c1 : abin .lss .i64 (ks.length : Int) n = some (.bool false) := by simp only [abin, decide_eq_false z1]
          (repeat (first | refine WL_nil ?_ | refine zq0 (by first | exact QV_bin rfl rfl c0 | exact QV_bin rfl rfl c1 | exact qv9) ?_ | refine zq1 ?_ | refine zq2 ?_ | refine zq3 ?_ | refine zq4 ?_ | refine zq5 ?_ | refine zq6 ?_ | refine wN rfl ?_))
          exact ⟨[(8, [slI ks, slI fs]), (3, [vi n])], wkC, .inl ⟨rfl, trivial, by rw [lst_snoc, ← en, if_neg (fun h => h.elim z0 z1)]⟩⟩)
    rw [Tryz.func41] at hc
    have e := Option.some.inj hc
    subst e
    exact hs
  · subst hb
    refine kQ_blk (kQ_then (WK_of ?_))
    (repeat (first | refine WL_nil ?_ | refine zq0 qv9 ?_ | refine zq1 ?_ | refine zq2 ?_ | refine zq3 ?_ | refine zq4 ?_ | refine zq5 ?_ | refine zq6 ?_ | refine wN rfl ?_))
    refine kQ_take hR (List.mem_singleton.2 rfl) hrs (.inr rfl) ⟨_, Weak.refl _, _, resA_tmp rfl rfl, ?_, rfl⟩
    rfl
end Go.Proofs.YtpcahgedkmgllaaGreat
