/- The drawn shapes, anywhere: mirrored they are stones. -/
import Derived.Test.YtkadjimnamcjbaaYMMv
namespace Go.Proofs.Ytkadjimnamcjbaa
open Go.Eng

theorem all_at {p : Nat → Bool} {n : Nat} (h : (List.range n).all p = true) {i : Nat} (hi : i < n) : p i = true := List.all_eq_true.1 h i (List.mem_range.2 hi)
theorem mirA (w h a e : Nat) (hw : w < 6) (hh : h < 6) (ha : a < 2) (he : e < 3) : mirOk (shA (1 + w) (1 + h) a e) = true :=
  all_at (all_at (all_at (all_at shA_all hw) hh) ha) he
theorem mirB (w h a e c : Nat) (hw : w < 6) (hh : h < 6) (ha : a < 2) (he : e < 3) (hc : c < 2) : mirOk (shB (1 + w) (1 + h) a e c) = true :=
  all_at (all_at (all_at (all_at (all_at shB_all hw) hh) ha) he) hc
theorem mirC (w h a e c : Nat) (hw : w < 6) (hh : h < 6) (ha : a < 2) (he : e < 3) (hc : c < 2) : mirOk (shC (1 + w) (1 + h) a e c) = true :=
  all_at (all_at (all_at (all_at (all_at shC_all hw) hh) ha) he) hc
theorem mirR (w h : Nat) (hw : w < 6) (hh : h < 6) : mirOk (shR (1 + w) (1 + h)) = true := all_at (all_at shR_all hw) hh
/-- With small corners all is within the places. -/
theorem mir_small {x u v : Int} {l : List Pt} (hm : mirOk l = true) (hl : ∀ p ∈ l, (-20 ≤ p.x ∧ p.x ≤ 20) ∧ -20 ≤ p.y ∧ p.y ≤ 20) (hu : -10 ≤ u ∧ u ≤ 10) (hv : -10 ≤ v ∧ v ≤ 10) (hx : -10 ≤ x ∧ x ≤ 10) (hs : stoneB (l.map (mvP u v)) = true) : stoneB (mirT x (l.map (mvP u v)) 0) = true := by
  have ok : ∀ (f : Pt → Pt) (l' : List Pt), (∀ q ∈ l', ∃ p ∈ l, q = f p) → (∀ p ∈ l, ptOk (f p) = true) → l'.all ptOk = true := fun f l' h1 h2 => by
    rw [List.all_eq_true]
    intro q hq
    obtain ⟨p, hp, rfl⟩ := h1 q hq
    exact h2 p hp
  refine mir_at hm (ok id l (fun q hq => ⟨q, hq, rfl⟩) fun p hp => ?_) (ok (mirP 0) _ (fun q hq => ?_) fun p hp => ?_) hs (ok (mvP u v) _ (fun q hq => ?_) fun p hp => ?_) (ok (fun p => mirP x (mvP u v p)) _ (fun q hq => ?_) fun p hp => ?_)
  · have := hl p hp; exact ptOk_true.2 ⟨by simp only [id]; omega, by simp only [id]; omega⟩
  · simp only [mirT, List.drop_zero, List.mem_map, List.mem_reverse] at hq
    obtain ⟨p, hp, rfl⟩ := hq; exact ⟨p, hp, rfl⟩
  · have := hl p hp; exact ptOk_true.2 ⟨by simp only [mirP]; omega, by simp only [mirP]; omega⟩
  · simp only [List.mem_map] at hq
    obtain ⟨p, hp, rfl⟩ := hq; exact ⟨p, hp, rfl⟩
  · have := hl p hp; exact ptOk_true.2 ⟨by simp only [mvP]; omega, by simp only [mvP]; omega⟩
  · simp only [mirT, List.drop_zero, List.mem_map, List.mem_reverse] at hq
    obtain ⟨q', ⟨p, hp, rfl⟩, rfl⟩ := hq; exact ⟨p, hp, rfl⟩
  · have := hl p hp; exact ptOk_true.2 ⟨by simp only [mirP, mvP]; omega, by simp only [mirP, mvP]; omega⟩
theorem drawnA (X Y w u a e c x : Int) (hX : -4 ≤ X ∧ X ≤ 7) (hY : 0 ≤ Y ∧ Y ≤ 7) (hw : 0 ≤ w ∧ w < 6) (hu : 0 ≤ u ∧ u < 6) (ha : 0 ≤ a ∧ a < 2) (he : 0 ≤ e ∧ e < 3) (hc : 0 ≤ c ∧ c < 2) (hx : -10 ≤ x ∧ x ≤ 10) (hs : stoneB [⟨X, Y⟩, ⟨X + (1 + w), Y + a⟩, ⟨X + (1 + w) + e, Y + (1 + u) + 1⟩] = true) : stoneB (mirT x [⟨X, Y⟩, ⟨X + (1 + w), Y + a⟩, ⟨X + (1 + w) + e, Y + (1 + u) + 1⟩] 0) = true := by
  obtain ⟨w', rfl⟩ := Int.eq_ofNat_of_zero_le hw.1
  obtain ⟨u', rfl⟩ := Int.eq_ofNat_of_zero_le hu.1
  obtain ⟨a', rfl⟩ := Int.eq_ofNat_of_zero_le ha.1
  obtain ⟨e', rfl⟩ := Int.eq_ofNat_of_zero_le he.1
  obtain ⟨c', rfl⟩ := Int.eq_ofNat_of_zero_le hc.1
  have e0 : [⟨X, Y⟩, ⟨X + (1 + (w' : Int)), Y + (a' : Int)⟩, ⟨X + (1 + (w' : Int)) + (e' : Int), Y + (1 + (u' : Int)) + 1⟩] = (shA (1 + (w' : Int)) (1 + (u' : Int)) a' e').map (mvP X Y) := by simp [shA, mvP]; omega
  rw [e0] at hs ⊢
  exact mir_small (mirA w' u' a' e' (by omega) (by omega) (by omega) (by omega)) (by simp [shA]; omega) (by omega) (by omega) hx hs
theorem drawnB (X Y w u a e c x : Int) (hX : -4 ≤ X ∧ X ≤ 7) (hY : 0 ≤ Y ∧ Y ≤ 7) (hw : 0 ≤ w ∧ w < 6) (hu : 0 ≤ u ∧ u < 6) (ha : 0 ≤ a ∧ a < 2) (he : 0 ≤ e ∧ e < 3) (hc : 0 ≤ c ∧ c < 2) (hx : -10 ≤ x ∧ x ≤ 10) (hs : stoneB [⟨X, Y⟩, ⟨X + (1 + w), Y + a⟩, ⟨X + (1 + w) + e, Y + (1 + u) + 1⟩, ⟨X - c, Y + (1 + u)⟩] = true) : stoneB (mirT x [⟨X, Y⟩, ⟨X + (1 + w), Y + a⟩, ⟨X + (1 + w) + e, Y + (1 + u) + 1⟩, ⟨X - c, Y + (1 + u)⟩] 0) = true := by
  obtain ⟨w', rfl⟩ := Int.eq_ofNat_of_zero_le hw.1
  obtain ⟨u', rfl⟩ := Int.eq_ofNat_of_zero_le hu.1
  obtain ⟨a', rfl⟩ := Int.eq_ofNat_of_zero_le ha.1
  obtain ⟨e', rfl⟩ := Int.eq_ofNat_of_zero_le he.1
  obtain ⟨c', rfl⟩ := Int.eq_ofNat_of_zero_le hc.1
  have e0 : [⟨X, Y⟩, ⟨X + (1 + (w' : Int)), Y + (a' : Int)⟩, ⟨X + (1 + (w' : Int)) + (e' : Int), Y + (1 + (u' : Int)) + 1⟩, ⟨X - (c' : Int), Y + (1 + (u' : Int))⟩] = (shB (1 + (w' : Int)) (1 + (u' : Int)) a' e' c').map (mvP X Y) := by simp [shB, shA, mvP]; omega
  rw [e0] at hs ⊢
  exact mir_small (mirB w' u' a' e' c' (by omega) (by omega) (by omega) (by omega) (by omega)) (by simp [shB, shA]; omega) (by omega) (by omega) hx hs
theorem drawnC (X Y w u a e c x : Int) (hX : -4 ≤ X ∧ X ≤ 7) (hY : 0 ≤ Y ∧ Y ≤ 7) (hw : 0 ≤ w ∧ w < 6) (hu : 0 ≤ u ∧ u < 6) (ha : 0 ≤ a ∧ a < 2) (he : 0 ≤ e ∧ e < 3) (hc : 0 ≤ c ∧ c < 2) (hx : -10 ≤ x ∧ x ≤ 10) (hs : stoneB [⟨X, Y⟩, ⟨X + (1 + w), Y + a⟩, ⟨X + (1 + w) + e, Y + (1 + u) + 1⟩, ⟨X - c, Y + (1 + u)⟩, ⟨X - 3, Y + 1⟩] = true) : stoneB (mirT x [⟨X, Y⟩, ⟨X + (1 + w), Y + a⟩, ⟨X + (1 + w) + e, Y + (1 + u) + 1⟩, ⟨X - c, Y + (1 + u)⟩, ⟨X - 3, Y + 1⟩] 0) = true := by
  obtain ⟨w', rfl⟩ := Int.eq_ofNat_of_zero_le hw.1
  obtain ⟨u', rfl⟩ := Int.eq_ofNat_of_zero_le hu.1
  obtain ⟨a', rfl⟩ := Int.eq_ofNat_of_zero_le ha.1
  obtain ⟨e', rfl⟩ := Int.eq_ofNat_of_zero_le he.1
  obtain ⟨c', rfl⟩ := Int.eq_ofNat_of_zero_le hc.1
  have e0 : [⟨X, Y⟩, ⟨X + (1 + (w' : Int)), Y + (a' : Int)⟩, ⟨X + (1 + (w' : Int)) + (e' : Int), Y + (1 + (u' : Int)) + 1⟩, ⟨X - (c' : Int), Y + (1 + (u' : Int))⟩, ⟨X - 3, Y + 1⟩] = (shC (1 + (w' : Int)) (1 + (u' : Int)) a' e' c').map (mvP X Y) := by simp [shC, shB, shA, mvP]; omega
  rw [e0] at hs ⊢
  exact mir_small (mirC w' u' a' e' c' (by omega) (by omega) (by omega) (by omega) (by omega)) (by simp [shC, shB, shA]; omega) (by omega) (by omega) hx hs
theorem drawnR (X Y w u a e c x : Int) (hX : -4 ≤ X ∧ X ≤ 7) (hY : 0 ≤ Y ∧ Y ≤ 7) (hw : 0 ≤ w ∧ w < 6) (hu : 0 ≤ u ∧ u < 6) (ha : 0 ≤ a ∧ a < 2) (he : 0 ≤ e ∧ e < 3) (hc : 0 ≤ c ∧ c < 2) (hx : -10 ≤ x ∧ x ≤ 10) (hs : stoneB [⟨X, Y⟩, ⟨X + (1 + w), Y⟩, ⟨X + (1 + w), Y + (1 + u)⟩, ⟨X, Y + (1 + u)⟩] = true) : stoneB (mirT x [⟨X, Y⟩, ⟨X + (1 + w), Y⟩, ⟨X + (1 + w), Y + (1 + u)⟩, ⟨X, Y + (1 + u)⟩] 0) = true := by
  obtain ⟨w', rfl⟩ := Int.eq_ofNat_of_zero_le hw.1
  obtain ⟨u', rfl⟩ := Int.eq_ofNat_of_zero_le hu.1
  obtain ⟨a', rfl⟩ := Int.eq_ofNat_of_zero_le ha.1
  obtain ⟨e', rfl⟩ := Int.eq_ofNat_of_zero_le he.1
  obtain ⟨c', rfl⟩ := Int.eq_ofNat_of_zero_le hc.1
  have e0 : [⟨X, Y⟩, ⟨X + (1 + (w' : Int)), Y⟩, ⟨X + (1 + (w' : Int)), Y + (1 + (u' : Int))⟩, ⟨X, Y + (1 + (u' : Int))⟩] = (shR (1 + (w' : Int)) (1 + (u' : Int))).map (mvP X Y) := by simp [shR, mvP]; omega
  rw [e0] at hs ⊢
  exact mir_small (mirR w' u' (by omega) (by omega)) (by simp [shR]; omega) (by omega) (by omega) hx hs
end Go.Proofs.Ytkadjimnamcjbaa
