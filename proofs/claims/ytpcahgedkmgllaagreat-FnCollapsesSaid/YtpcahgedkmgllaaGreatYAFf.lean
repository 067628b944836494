/- FindProof: the first proof that proofsOf's closure hands out. -/
import Derived.Test.YtpcahgedkmgllaaGreatYASd
set_option maxHeartbeats 4000000
namespace Go.Proofs.YtpcahgedkmgllaaGreat
open Go.Eng
set_option maxRecDepth 100000
attribute [local irreducible] QV TV WL HW W CallOk CallOkA Weak

set_option maxHeartbeats 4000000 in
theorem implFindProof_ok (rs : List Rw) (hr : rs.length ≤ 20) (hall : rs.all rowB = true) : CallOkA Tryz.prog 11 [slRw rs] (fun r => r = fourD (pfind rs)) := by
  have hpf : pfind rs = pf1 rs rs.length := by simp [pfind, hr]
  rw [hpf, pf1_head]
  have hP := proofsOf_fn rs
  refine callOkA_of_WK Tryz.func11 Tryz.ntmps11 Tryz.results11 rfl rfl rfl fun x0 I0 fn hrs hR0 => ?_
  refine WK_seqN ?_
  (repeat (first | refine WL_nil ?_ | refine zq0 qv9 ?_ | refine zq1 ?_ | refine zq2 ?_ | refine zq3 ?_ | refine zq4 ?_ | refine zq5 ?_ | refine zq6 ?_ | refine wN rfl ?_))
  refine ⟨rfl, WK_seqL (WK_seqN ?_)⟩
  (repeat (first | refine WL_nil ?_ | refine zq0 (by first | exact QV_callF hP rfl (LeDs.cons LeD.sl LeDs.nil) | exact qv9) ?_ | refine zq1 ?_ | refine zq2 ?_ | refine zq3 ?_ | refine zq4 ?_ | refine zq5 ?_ | refine zq6 ?_ | refine wN rfl ?_))
  refine ⟨rfl, WK_block (WK_weak (s' := ⟨[(6, .fn (.func 41) [] [.eptr [slRw rs]]), (2, .ptr 2 0), (3, .ptr 3 0)], [(3, [vb false]), (2, [.v (.slice none 0 0), .v (.slice none 0 0)])], []⟩) wkC ?_)⟩
  refine WK_range (tmO := [(2, .ptr 2 0), (3, .ptr 3 0)]) [2, 3] (fun bl => ps1 rs rs.length = [] ∧ bl = [(3, [vb false]), (2, [.v (.slice none 0 0), .v (.slice none 0 0)])]) (fun bl => ∃ xs ks fs, xs ++ [(ks, fs)] <+: ps1 rs rs.length ∧ xs = [] ∧ bl = [(3, [vb true]), (2, [slI ks, slI fs])])
    hR0 rfl Tryz.func41 Tryz.ntmps41 Tryz.results41 rfl rfl rfl (by intro q hq; simp only [List.mem_cons, List.not_mem_nil, or_false] at hq; rcases hq with rfl | rfl <;> rfl) rfl
    (fun xa Ia Ma x2 M2 I2 l D fn tmps p hT hnt hR => ?_) (fun bl' ⟨hn, hb⟩ x2 M2 I2 p D hR => ?_) (fun bl' ⟨xs, ks, fs, hpre, hx, hb⟩ x2 M2 I2 p D hR => ?_)
  · obtain ⟨cg, hc, hs⟩ := searchD_ok rs hr hall (fun xs => xs = []) (fun xs _ => xs = []) hT hnt hR rfl rfl rfl rfl (by
      intro xs ks fs hx hisp p' x2 M2 I2
      (repeat (first | refine WL_nil ?_ | refine zq0 qv9 ?_ | refine zq1 ?_ | refine zq2 ?_ | refine zq3 ?_ | refine zq4 ?_ | refine zq5 ?_ | refine zq6 ?_ | refine wN rfl ?_))
      refine ⟨rfl, fun x3 M3 I3 => ?_⟩
      (repeat (first | refine WL_nil ?_ | refine zq0 qv9 ?_ | refine zq1 ?_ | refine zq2 ?_ | refine zq3 ?_ | refine zq4 ?_ | refine zq5 ?_ | refine zq6 ?_ | refine wN rfl ?_))
      exact ⟨_, wkC, .inr ⟨rfl, hx, rfl⟩⟩)
    rw [Tryz.func41] at hc
    have e := Option.some.inj hc
    subst e
    exact hs
  · subst hb
    refine kQ_blk (kQ_then (WK_of ?_))
    (repeat (first | refine WL_nil ?_ | refine zq0 qv9 ?_ | refine zq1 ?_ | refine zq2 ?_ | refine zq3 ?_ | refine zq4 ?_ | refine zq5 ?_ | refine zq6 ?_ | refine wN rfl ?_))
    refine kQ_take hR (List.mem_singleton.2 rfl) hrs (.inr rfl) ⟨_, Weak.refl _, _, resA_cell rfl rfl rfl (resA_cell rfl rfl rfl rfl), ?_, rfl⟩
    rw [hn]
    rfl
  · subst hb
    subst hx
    refine kQ_blkR (kQ_thenR (kQ_take hR (List.mem_singleton.2 rfl) hrs (.inr rfl) ⟨_, Weak.refl _, _, resA_cell rfl rfl rfl (resA_cell rfl rfl rfl rfl), ?_, rfl⟩))
    obtain ⟨zs, hz⟩ := hpre
    rw [← hz]
    rfl
end Go.Proofs.YtpcahgedkmgllaaGreat
