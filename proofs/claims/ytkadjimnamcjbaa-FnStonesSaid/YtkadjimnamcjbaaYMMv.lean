/- Stones moved: stones again. -/
import Derived.Test.YtkadjimnamcjbaaYMMir
namespace Go.Proofs.Ytkadjimnamcjbaa
open Go.Eng

theorem cor_all {l : List Pt} (h : l.all ptOk = true) (h0 : 0 < l.length) (i : Nat) : ptOk (cor l i) = true := by
  have hi : i % l.length < l.length := Nat.mod_lt _ h0
  have : cor l i = l[i % l.length] := by simp [cor, hi]
  rw [this]
  exact List.all_eq_true.1 h _ (List.getElem_mem hi)
theorem cor_mv {u v : Int} {l : List Pt} (h : 0 < l.length) (i : Nat) : cor (l.map (mvP u v)) i = mvP u v (cor l i) := by
  have hi : i % l.length < l.length := Nat.mod_lt _ h
  simp [cor, hi]
theorem stoneB_mv (u v : Int) (l : List Pt) (h1 : l.all ptOk = true) (h2 : (l.map (mvP u v)).all ptOk = true) : stoneB (l.map (mvP u v)) = stoneB l := by
  rcases Nat.eq_zero_or_pos l.length with h0 | h0
  · rw [List.length_eq_zero_iff.1 h0]; rfl
  · have k : ∀ i j m, sideW (cor (l.map (mvP u v)) i) (cor (l.map (mvP u v)) j) (cor (l.map (mvP u v)) m) = sideW (cor l i) (cor l j) (cor l m) := fun i j m => by
      have h0' : 0 < (l.map (mvP u v)).length := by simpa using h0
      rw [sideW_eq (cor_all h2 h0' i) (cor_all h2 h0' j) (cor_all h2 h0' m), sideW_eq (cor_all h1 h0 i) (cor_all h1 h0 j) (cor_all h1 h0 m), cor_mv h0, cor_mv h0, cor_mv h0, side_mv]
    simp only [stoneB, turnB, fanB, k, List.length_map, h1, h2]
theorem mirT_mv (x u v : Int) (l : List Pt) : mirT x (l.map (mvP u v)) 0 = (mirT 0 l 0).map (mvP (2 * x - u) v) := by
  simp only [mirT, List.drop_zero, ← List.map_reverse, List.map_map]
  congr 1
  funext p
  simp only [Function.comp, mirP, mvP]
  congr 1
  omega
theorem mirT_ptOk {x : Int} {l : List Pt} (h : l.all ptOk = true) (hb : ∀ p ∈ l, -20 ≤ p.x ∧ p.x ≤ 20) (hx : -20 ≤ x ∧ x ≤ 20) : (mirT x l 0).all ptOk = true := by
  rw [List.all_eq_true] at h ⊢
  intro q hq
  simp only [mirT, List.drop_zero, List.mem_map, List.mem_reverse] at hq
  obtain ⟨p, hp, rfl⟩ := hq
  have h1 := ptOk_true.1 (h p hp)
  have h2 := hb p hp
  exact ptOk_true.2 ⟨by simp only [mirP]; omega, h1.2⟩
/-- What mirrors well at the origin mirrors well anywhere. -/
theorem mir_at {x u v : Int} {l : List Pt} (hm : mirOk l = true) (h1 : l.all ptOk = true) (h2 : (mirT 0 l 0).all ptOk = true) (hs : stoneB (l.map (mvP u v)) = true) (h3 : (l.map (mvP u v)).all ptOk = true) (h4 : (mirT x (l.map (mvP u v)) 0).all ptOk = true) : stoneB (mirT x (l.map (mvP u v)) 0) = true := by
  rw [stoneB_mv u v l h1 h3] at hs
  rw [mirT_mv] at h4 ⊢
  rw [stoneB_mv _ _ _ h2 h4]
  simpa [mirOk, hs] using hm
end Go.Proofs.Ytkadjimnamcjbaa
