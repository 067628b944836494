/- Drawn loads. -/
import Derived.Test.YtkaffcdjhbaifaaGreatYG1
import Derived.Test.YtkaffcdjhbaifaaGreatYG2
import Derived.Test.YtkaffcdjhbaifaaGreatYALd
import Derived.Test.YtkaffcdjhbaifaaGreatZ3
namespace Go.Proofs.YtkaffcdjhbaifaaGreat
open Go.Eng
set_option maxRecDepth 100000
attribute [local irreducible] QV TV WL HW W CallOk Weak

theorem ld_cells1 (l : Ld) : ∀ x ∈ [l.row].flatten, isCell x = true := by
  intro x hx
  simp only [List.flatten_cons, List.flatten_nil, List.append_nil, Ld.row, List.mem_cons, List.not_mem_nil, or_false] at hx
  rcases hx with rfl | rfl | rfl <;> rfl
theorem ld_lens1 (l : Ld) : ∀ r ∈ [l.row], r.length = 3 := by
  intro r hr
  simp only [List.mem_singleton] at hr
  subst hr; rfl
theorem draws_fn (l : List Int) (hl : Bts l) : ∃ B : Int → Nat → Int → Int × Nat × Int, ∀ n i h, 0 < n → n ≤ 256 → 0 ≤ (B n i h).1 ∧ (B n i h).1 < n ∧ CallPtr Tryz.prog 34 [.ptr 1000000 0, vi n] [slU l, vi i, vi h] (DetR l (B n i h).1 (B n i h).2.1 (B n i h).2.2) := by
  have H : ∀ q : Int × Nat × Int, ∃ p : Int × Nat × Int, 0 < q.1 → q.1 ≤ 256 → 0 ≤ p.1 ∧ p.1 < q.1 ∧ CallPtr Tryz.prog 34 [.ptr 1000000 0, vi q.1] [slU l, vi q.2.1, vi q.2.2] (DetR l p.1 p.2.1 p.2.2) := by
    rintro ⟨n, i, h⟩
    by_cases hn : 0 < n ∧ n ≤ 256
    · obtain ⟨x, i1, h1, k0, k1, k2⟩ := l01Below_det l hl n hn.1 hn.2 i h
      exact ⟨⟨x, i1, h1⟩, fun _ _ => ⟨k0, k1, k2⟩⟩
    · exact ⟨⟨0, 0, 0⟩, fun a b => absurd ⟨a, b⟩ hn⟩
  obtain ⟨B, hB⟩ := Classical.axiomOfChoice H
  exact ⟨fun n i h => B ⟨n, i, h⟩, fun n i h h0 h1 => hB ⟨n, i, h⟩ h0 h1⟩
theorem pickInt_det {l : List Int} {xs : List Int} {j : Nat} {i i1 : Nat} {h h1 : Int} {p m : Int} (hm : (xs.length : Int) = m) (hj : xs[j]? = some p) (c : CallPtr Tryz.prog 34 [.ptr 1000000 0, vi m] [slU l, vi i, vi h] (DetR l j i1 h1)) : CallPtr Tryz.prog 37 [.ptr 1000000 0, .sl 1 (xs.map fun n => [vi n])] [slU l, vi i, vi h] (DetR l p i1 h1) := by
  subst hm
  refine callPtr Tryz.func37 Tryz.ntmps37 Tryz.results37 rfl rfl rfl fun B w0 b T I0 => ?_
  (repeat (first | refine WL_nil ?_ | (apply wl0 (hd := rfl); (first | exact qv9); (exact gy0)) | (apply wlb (hd := rfl); exact qbx; (exact gy0); rfl) | refine wln ⟨_, rfl, rfl⟩ rfl ?_ | refine wlnu ⟨_, rfl, rfl⟩ rfl ?_ | refine wst rfl rfl rfl List.not_mem_nil rfl rfl rfl rfl rfl rfl ?_ | refine W_condT rfl ?_ | refine W_condF rfl ?_ | refine W_region ?_ | refine wN rfl ?_))
  refine wlptr 0 [] c rfl (by repeat' (first | exact PtA.nil | refine PtA.ptr ?_ | (rw [List.length_map]; refine PtA.v ?_) | refine PtA.v ?_)) rfl rfl List.not_mem_nil (fun r cs ⟨hr, hc⟩ => by subst hr; subst hc; exact ⟨rfl, rfl⟩) rfl rfl (fun r cs hR => ?_)
  obtain ⟨rfl, rfl⟩ := hR
  (repeat (first | refine WL_nil ?_ | (apply wl0 (hd := rfl); (first | exact qv9 | exact QV_indexAddr rfl rfl rfl rfl (row_at (f := fun n => [vi n]) hj)); (exact gy0)) | (apply wlb (hd := rfl); exact qbx; (exact gy0); rfl) | refine wln ⟨_, rfl, rfl⟩ rfl ?_ | refine wlnu ⟨_, rfl, rfl⟩ rfl ?_ | refine wst rfl rfl rfl List.not_mem_nil rfl rfl rfl rfl rfl rfl ?_ | refine W_condT rfl ?_ | refine W_condF rfl ?_ | refine W_region ?_ | refine wN rfl ?_))
  refine ptrEnd (Weak.refl _) (resA_tmp rfl rfl) rfl rfl rfl ?_
  exact ⟨rfl, rfl⟩
end Go.Proofs.YtkaffcdjhbaifaaGreat
