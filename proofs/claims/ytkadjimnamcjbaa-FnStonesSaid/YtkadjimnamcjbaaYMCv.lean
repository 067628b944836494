/- The drawn shapes are convex. By cases. -/
import Derived.Test.YtkadjimnamcjbaaYMShp
namespace Go.Proofs.Ytkadjimnamcjbaa
open Go.Eng

/-- Every corner lies left of every edge, or on it. -/
def convB (l : List Pt) : Bool := (List.range l.length).all fun i => (List.range l.length).all fun k => decide (0 ≤ side (cor l i) (cor l (i + 1)) (cor l k))
def cvOk (l : List Pt) : Bool := !stoneB l || convB l
theorem cvA_all : (List.range 6).all (fun w => (List.range 6).all fun h => (List.range 2).all fun a => (List.range 3).all fun e => cvOk (shA (1 + w) (1 + h) a e)) = true := by decide +kernel
theorem cvB_all : (List.range 6).all (fun w => (List.range 6).all fun h => (List.range 2).all fun a => (List.range 3).all fun e => (List.range 2).all fun c => cvOk (shB (1 + w) (1 + h) a e c)) = true := by decide +kernel
theorem cvC_all : (List.range 6).all (fun w => (List.range 6).all fun h => (List.range 2).all fun a => (List.range 3).all fun e => (List.range 2).all fun c => cvOk (shC (1 + w) (1 + h) a e c)) = true := by decide +kernel
theorem cvR_all : (List.range 6).all (fun w => (List.range 6).all fun h => cvOk (shR (1 + w) (1 + h))) = true := by decide +kernel
theorem convB_mv (u v : Int) (l : List Pt) : convB (l.map (mvP u v)) = convB l := by
  rcases Nat.eq_zero_or_pos l.length with h0 | h0
  · rw [List.length_eq_zero_iff.1 h0]; rfl
  · simp only [convB, List.length_map, cor_mv h0, side_mv]
theorem cv_small {u v : Int} {l : List Pt} (hm : cvOk l = true) (hl : ∀ p ∈ l, (-20 ≤ p.x ∧ p.x ≤ 20) ∧ -20 ≤ p.y ∧ p.y ≤ 20) (hu : -10 ≤ u ∧ u ≤ 10) (hv : -10 ≤ v ∧ v ≤ 10) (hs : stoneB (l.map (mvP u v)) = true) : convB (l.map (mvP u v)) = true := by
  have ok : ∀ (f : Pt → Pt) (l' : List Pt), (∀ q ∈ l', ∃ p ∈ l, q = f p) → (∀ p ∈ l, ptOk (f p) = true) → l'.all ptOk = true := fun f l' h1 h2 => by
    rw [List.all_eq_true]
    intro q hq
    obtain ⟨p, hp, rfl⟩ := h1 q hq
    exact h2 p hp
  rw [stoneB_mv u v l (ok id l (fun q hq => ⟨q, hq, rfl⟩) fun p hp => ?_) (ok (mvP u v) _ (fun q hq => ?_) fun p hp => ?_)] at hs
  · rw [convB_mv]
    simpa [cvOk, hs] using hm
  · have := hl p hp; exact ptOk_true.2 ⟨by simp only [id]; omega, by simp only [id]; omega⟩
  · simp only [List.mem_map] at hq
    obtain ⟨p, hp, rfl⟩ := hq; exact ⟨p, hp, rfl⟩
  · have := hl p hp; exact ptOk_true.2 ⟨by simp only [mvP]; omega, by simp only [mvP]; omega⟩
theorem cvA (X Y w u a e c : Int) (hX : -4 ≤ X ∧ X ≤ 7) (hY : 0 ≤ Y ∧ Y ≤ 7) (hw : 0 ≤ w ∧ w < 6) (hu : 0 ≤ u ∧ u < 6) (ha : 0 ≤ a ∧ a < 2) (he : 0 ≤ e ∧ e < 3) (hc : 0 ≤ c ∧ c < 2) (hs : stoneB [⟨X, Y⟩, ⟨X + (1 + w), Y + a⟩, ⟨X + (1 + w) + e, Y + (1 + u) + 1⟩] = true) : convB [⟨X, Y⟩, ⟨X + (1 + w), Y + a⟩, ⟨X + (1 + w) + e, Y + (1 + u) + 1⟩] = true := by
  obtain ⟨w', rfl⟩ := Int.eq_ofNat_of_zero_le hw.1
  obtain ⟨u', rfl⟩ := Int.eq_ofNat_of_zero_le hu.1
  obtain ⟨a', rfl⟩ := Int.eq_ofNat_of_zero_le ha.1
  obtain ⟨e', rfl⟩ := Int.eq_ofNat_of_zero_le he.1
  obtain ⟨c', rfl⟩ := Int.eq_ofNat_of_zero_le hc.1
  have e0 : [⟨X, Y⟩, ⟨X + (1 + (w' : Int)), Y + (a' : Int)⟩, ⟨X + (1 + (w' : Int)) + (e' : Int), Y + (1 + (u' : Int)) + 1⟩] = (shA (1 + (w' : Int)) (1 + (u' : Int)) a' e').map (mvP X Y) := by simp [shA, mvP]; omega
  rw [e0] at hs ⊢
  exact cv_small (all_at (all_at (all_at (all_at cvA_all (i := w') (by omega)) (i := u') (by omega)) (i := a') (by omega)) (i := e') (by omega)) (by simp [shA]; omega) (by omega) (by omega) hs
theorem cvB (X Y w u a e c : Int) (hX : -4 ≤ X ∧ X ≤ 7) (hY : 0 ≤ Y ∧ Y ≤ 7) (hw : 0 ≤ w ∧ w < 6) (hu : 0 ≤ u ∧ u < 6) (ha : 0 ≤ a ∧ a < 2) (he : 0 ≤ e ∧ e < 3) (hc : 0 ≤ c ∧ c < 2) (hs : stoneB [⟨X, Y⟩, ⟨X + (1 + w), Y + a⟩, ⟨X + (1 + w) + e, Y + (1 + u) + 1⟩, ⟨X - c, Y + (1 + u)⟩] = true) : convB [⟨X, Y⟩, ⟨X + (1 + w), Y + a⟩, ⟨X + (1 + w) + e, Y + (1 + u) + 1⟩, ⟨X - c, Y + (1 + u)⟩] = true := by
  obtain ⟨w', rfl⟩ := Int.eq_ofNat_of_zero_le hw.1
  obtain ⟨u', rfl⟩ := Int.eq_ofNat_of_zero_le hu.1
  obtain ⟨a', rfl⟩ := Int.eq_ofNat_of_zero_le ha.1
  obtain ⟨e', rfl⟩ := Int.eq_ofNat_of_zero_le he.1
  obtain ⟨c', rfl⟩ := Int.eq_ofNat_of_zero_le hc.1
  have e0 : [⟨X, Y⟩, ⟨X + (1 + (w' : Int)), Y + (a' : Int)⟩, ⟨X + (1 + (w' : Int)) + (e' : Int), Y + (1 + (u' : Int)) + 1⟩, ⟨X - (c' : Int), Y + (1 + (u' : Int))⟩] = (shB (1 + (w' : Int)) (1 + (u' : Int)) a' e' c').map (mvP X Y) := by simp [shB, shA, mvP]; omega
  rw [e0] at hs ⊢
  exact cv_small (all_at (all_at (all_at (all_at (all_at cvB_all (i := w') (by omega)) (i := u') (by omega)) (i := a') (by omega)) (i := e') (by omega)) (i := c') (by omega)) (by simp [shB, shA]; omega) (by omega) (by omega) hs
theorem cvC (X Y w u a e c : Int) (hX : -4 ≤ X ∧ X ≤ 7) (hY : 0 ≤ Y ∧ Y ≤ 7) (hw : 0 ≤ w ∧ w < 6) (hu : 0 ≤ u ∧ u < 6) (ha : 0 ≤ a ∧ a < 2) (he : 0 ≤ e ∧ e < 3) (hc : 0 ≤ c ∧ c < 2) (hs : stoneB [⟨X, Y⟩, ⟨X + (1 + w), Y + a⟩, ⟨X + (1 + w) + e, Y + (1 + u) + 1⟩, ⟨X - c, Y + (1 + u)⟩, ⟨X - 3, Y + 1⟩] = true) : convB [⟨X, Y⟩, ⟨X + (1 + w), Y + a⟩, ⟨X + (1 + w) + e, Y + (1 + u) + 1⟩, ⟨X - c, Y + (1 + u)⟩, ⟨X - 3, Y + 1⟩] = true := by
  obtain ⟨w', rfl⟩ := Int.eq_ofNat_of_zero_le hw.1
  obtain ⟨u', rfl⟩ := Int.eq_ofNat_of_zero_le hu.1
  obtain ⟨a', rfl⟩ := Int.eq_ofNat_of_zero_le ha.1
  obtain ⟨e', rfl⟩ := Int.eq_ofNat_of_zero_le he.1
  obtain ⟨c', rfl⟩ := Int.eq_ofNat_of_zero_le hc.1
  have e0 : [⟨X, Y⟩, ⟨X + (1 + (w' : Int)), Y + (a' : Int)⟩, ⟨X + (1 + (w' : Int)) + (e' : Int), Y + (1 + (u' : Int)) + 1⟩, ⟨X - (c' : Int), Y + (1 + (u' : Int))⟩, ⟨X - 3, Y + 1⟩] = (shC (1 + (w' : Int)) (1 + (u' : Int)) a' e' c').map (mvP X Y) := by simp [shC, shB, shA, mvP]; omega
  rw [e0] at hs ⊢
  exact cv_small (all_at (all_at (all_at (all_at (all_at cvC_all (i := w') (by omega)) (i := u') (by omega)) (i := a') (by omega)) (i := e') (by omega)) (i := c') (by omega)) (by simp [shC, shB, shA]; omega) (by omega) (by omega) hs
theorem cvR (X Y w u a e c : Int) (hX : -4 ≤ X ∧ X ≤ 7) (hY : 0 ≤ Y ∧ Y ≤ 7) (hw : 0 ≤ w ∧ w < 6) (hu : 0 ≤ u ∧ u < 6) (ha : 0 ≤ a ∧ a < 2) (he : 0 ≤ e ∧ e < 3) (hc : 0 ≤ c ∧ c < 2) (hs : stoneB [⟨X, Y⟩, ⟨X + (1 + w), Y⟩, ⟨X + (1 + w), Y + (1 + u)⟩, ⟨X, Y + (1 + u)⟩] = true) : convB [⟨X, Y⟩, ⟨X + (1 + w), Y⟩, ⟨X + (1 + w), Y + (1 + u)⟩, ⟨X, Y + (1 + u)⟩] = true := by
  obtain ⟨w', rfl⟩ := Int.eq_ofNat_of_zero_le hw.1
  obtain ⟨u', rfl⟩ := Int.eq_ofNat_of_zero_le hu.1
  obtain ⟨a', rfl⟩ := Int.eq_ofNat_of_zero_le ha.1
  obtain ⟨e', rfl⟩ := Int.eq_ofNat_of_zero_le he.1
  obtain ⟨c', rfl⟩ := Int.eq_ofNat_of_zero_le hc.1
  have e0 : [⟨X, Y⟩, ⟨X + (1 + (w' : Int)), Y⟩, ⟨X + (1 + (w' : Int)), Y + (1 + (u' : Int))⟩, ⟨X, Y + (1 + (u' : Int))⟩] = (shR (1 + (w' : Int)) (1 + (u' : Int))).map (mvP X Y) := by simp [shR, mvP]; omega
  rw [e0] at hs ⊢
  exact cv_small (all_at (all_at cvR_all (i := w') (by omega)) (i := u') (by omega)) (by simp [shR]; omega) (by omega) (by omega) hs
end Go.Proofs.Ytkadjimnamcjbaa
