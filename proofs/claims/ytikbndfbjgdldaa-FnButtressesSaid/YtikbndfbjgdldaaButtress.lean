/- Walks of the functions on buttresses: least and greatest force, as plain Lean functions on integers. -/
import Derived.Test.YtikbndfbjgdldaaPier
import Derived.Defers
import Derived.Deep.RegionWith
namespace Go.Proofs.Ytikbndfbjgdldaa
open Go.RowKit

def capW (x : Int) : Int := if 100000 < x then -1 else x
def bearsW (a b h n : Int) : Int := wrap64 (wrap64 (wrap64 (2 * h) * b) + wrap64 (wrap64 (wrap64 (wrap64 (n * 6) * a) * a) * b))
def armW (n t : Int) : Int := wrap64 (wrap64 (2 * n) * t)
def leastW (ok : Bool) (T m : Int) : Int := if ok then (if T ≤ 0 then 0 else if m = 0 then -1 else capW (wrap64 ((wrap64 (wrap64 (T + m) - 1)).tdiv m))) else -1
def greatW (ok : Bool) (B m : Int) : Int := if ok then (if B < 0 then -1 else if m = 0 then 100000 else if wrap64 (B.tdiv m) ≤ 100000 then wrap64 (B.tdiv m) else 100000) else -1
theorem leastW_no (T m : Int) : leastW false T m = -1 := rfl
theorem leastW_le {T : Int} (m : Int) (h : T ≤ 0) : leastW true T m = 0 := by simp [leastW, h]
theorem leastW_zero {T : Int} (h : 0 < T) : leastW true T 0 = -1 := by simp [leastW]; omega
theorem leastW_pos {T m : Int} (h : 0 < T) (hm : m ≠ 0) : leastW true T m = capW (wrap64 ((wrap64 (wrap64 (T + m) - 1)).tdiv m)) := by simp [leastW, hm]; omega
theorem greatW_no (B m : Int) : greatW false B m = -1 := rfl
theorem greatW_neg {B : Int} (m : Int) (h : B < 0) : greatW true B m = -1 := by simp [greatW, h]
theorem greatW_zero {B : Int} (h : 0 ≤ B) : greatW true B 0 = 100000 := by simp [greatW]; omega
theorem greatW_pos {B m : Int} (h : 0 ≤ B) (hm : m ≠ 0) : greatW true B m = min (wrap64 (B.tdiv m)) 100000 := by
  simp only [greatW, if_true, if_neg (show ¬ B < 0 by omega), if_neg hm]
  omega
/-- The lever's arm is 0 just where the height is. -/
theorem arm_zero {a b h d n t : Int} (hok : butB a b h d n t = true) : armW n t = 0 ↔ t = 0 := by
  simp only [butB, okB, pushB, Bool.and_eq_true, inR_true] at hok
  obtain ⟨⟨_, _, hn⟩, ht⟩ := hok
  have h1 : 0 ≤ n * t := Int.mul_nonneg (by omega) (by omega)
  have h2 : n * t ≤ 1000000 * 60 := Int.mul_le_mul (by omega) (by omega) (by omega) (by omega)
  have h3 : 2 * n * t = 2 * (n * t) := Int.mul_assoc _ _ _
  have h4 : armW n t = 2 * (n * t) := by
    unfold armW wrap64
    rw [show (2 * n + 9223372036854775808) % 18446744073709551616 - 9223372036854775808 = 2 * n by omega, h3]
    omega
  rw [h4]
  constructor
  · intro h
    have : n * t = 0 := by omega
    rcases Int.mul_eq_zero.1 this with h | h <;> omega
  · rintro rfl; simp

theorem LeastForce_deferred (g : Nat) (x : Int) (w : World) (hc : w.cell? ⟨g, 0, none⟩ = some (.int .i64 x)) (hf : w.frozen? ⟨g, 0, none⟩ = false) (mode : FrameMode) :
    CallsD Try.prog 36 #[.pointer (some ⟨g, 0, none⟩)] mode w fun e u' w' => u' = mode ∧ (e = .returned (.tuple #[]) ∧ w'.cell? ⟨g, 0, none⟩ = some (.int .i64 (capW x)) ∧ (∀ a : World, a.heap.size ≤ g → Bel a w → Bel a w')) := by
  unfold capW
  go_enter_d Try.func36, Try.ntmps36
  go_wp2
  · go_end0
    exact ⟨rfl, by rw [World.cell?_setCell_same' _ _ _ (by rw [hc]; rfl)], fun a ha hb => hb.setCell ha _⟩
  · go_end0
    exact ⟨rfl, by rw [hc], fun a ha hb => hb⟩
set_option maxHeartbeats 400000 in
theorem impl_LeastForce' (a b h d n t : Int) (w : World) (T m : Int) (hT : turnW a b h d n = T) (hm : wrap64 (wrap64 (2 * n) * t) = m) :
    Calls Try.prog 14 #[.agg #[.int .i64 a, .int .i64 b], .int .i64 h, .int .i64 d, .int .i64 n, .int .i64 t] w fun e w' => e = .returned (.int .i64 (leastW (butB a b h d n t) T m)) ∧ Bel w w' := by
  have hmf : ∀ (fn : Fn) (first cap : Array Value) (w : World), (Instr.makeFunc fn first cap).run Try.prog w = .ok (.func fn first cap) w := fun _ _ _ _ => rfl
  go_enter_defers Try.func14, Try.ntmps14
  go_wp2_with (first | (go_at_call 35; refine (impl_buttressOk _ _ _ _ _ _ _).mono ?_; rintro e w' ⟨rfl, hb⟩; obtain ⟨hc, hf, hz⟩ := hb.facts; have hsz := hb.size; (try simp at hsz); (try (refine cutp (p := w.heap.size < w'.heap.size) (fun _ => ?_) ?_; rotate_left; omega)); (try (refine cutp (p := w.heap.size + 1 < w'.heap.size) (fun _ => ?_) ?_; rotate_left; omega)); (try (refine cutp (p := w.heap.size + 1 + 1 < w'.heap.size) (fun _ => ?_) ?_; rotate_left; omega)); (try (refine cutp (p := wr.heap.size < w'.heap.size) (fun _ => ?_) ?_; rotate_left; omega)); (try (refine cutp (p := wr.heap.size + 1 < w'.heap.size) (fun _ => ?_) ?_; rotate_left; omega)); (try (refine cutp (p := wr.heap.size + 1 + 1 < w'.heap.size) (fun _ => ?_) ?_; rotate_left; omega))) | (go_at_call 37; refine (Pier_turns _ _ _ _ _ _).mono ?_; rintro e w' ⟨rfl, hb⟩; obtain ⟨hc, hf, hz⟩ := hb.facts; have hsz := hb.size; (try simp at hsz); (try (refine cutp (p := w.heap.size < w'.heap.size) (fun _ => ?_) ?_; rotate_left; omega)); (try (refine cutp (p := w.heap.size + 1 < w'.heap.size) (fun _ => ?_) ?_; rotate_left; omega)); (try (refine cutp (p := w.heap.size + 1 + 1 < w'.heap.size) (fun _ => ?_) ?_; rotate_left; omega)); (try (refine cutp (p := wr.heap.size < w'.heap.size) (fun _ => ?_) ?_; rotate_left; omega)); (try (refine cutp (p := wr.heap.size + 1 < w'.heap.size) (fun _ => ?_) ?_; rotate_left; omega)); (try (refine cutp (p := wr.heap.size + 1 + 1 < w'.heap.size) (fun _ => ?_) ?_; rotate_left; omega))))
  all_goals (try simp only [Exit.inBlock, Exit.then])
  all_goals try (exfalso; simp_all; done)
  · have hk : butB a b h d n t = false := by simp_all
    rw [hk, leastW_no]
    simp [bodyPostD, Leaves, results, Try.results14, go_sem]
    rw [World.cell?_setCell_same' _ _ _ (by go_simp)]
    simp
    (repeat (first | (with_reducible exact Bel.refl _) | (with_reducible assumption) | (with_reducible refine Bel.alloc ?_ _) | (with_reducible refine Bel.drew ?_) | (with_reducible refine Bel.drewN ?_ _) | (with_reducible refine Bel.setCell ?_ (by first | (with_reducible exact Nat.le_refl _) | omega | (simp; done) | (simp; omega)) _) | (with_reducible refine Bel.trans ?_ (by with_reducible assumption))))
  all_goals
    have hk : butB a b h d n t = true := by simp_all
    refine leaves_cons (f := 36) (args := #[.pointer (some ⟨w.heap.size + 1, 0, none⟩)]) (by simp) (by simp [go_sem]) ?_
    refine (LeastForce_deferred (w.heap.size + 1) _ _ (World.cell?_setCell_same' _ _ _ (by go_simp)) (by go_simp) .returning).mono ?_
    rintro e u' w'' ⟨rfl, rfl, hcell, hbel⟩
    rw [hk]
    simp [Leaves, settle, results, Try.results14, go_sem, hcell]
    refine ⟨?_, hbel w (by omega) ?_⟩
  all_goals first | (rw [leastW_le _ (by assumption)]; rfl) | (rw [leastW_pos (by assumption) (by assumption)]) | (simp_all [leastW_zero, capW]; done) | (repeat (first | (with_reducible exact Bel.refl _) | (with_reducible assumption) | (with_reducible refine Bel.alloc ?_ _) | (with_reducible refine Bel.drew ?_) | (with_reducible refine Bel.drewN ?_ _) | (with_reducible refine Bel.setCell ?_ (by first | (with_reducible exact Nat.le_refl _) | omega | (simp; done) | (simp; omega)) _) | (with_reducible refine Bel.trans ?_ (by with_reducible assumption))))
theorem impl_LeastForce (a b h d n t : Int) (w : World) :
    Calls Try.prog 14 #[.agg #[.int .i64 a, .int .i64 b], .int .i64 h, .int .i64 d, .int .i64 n, .int .i64 t] w fun e w' => e = .returned (.int .i64 (leastW (butB a b h d n t) (turnW a b h d n) (armW n t))) ∧ Bel w w' :=
  impl_LeastForce' a b h d n t w _ _ rfl rfl
set_option maxHeartbeats 400000 in
theorem impl_GreatestForce' (a b h d n t : Int) (w : World) (B m : Int) (hB : wrap64 (wrap64 (wrap64 (2 * h) * b) + wrap64 (wrap64 (wrap64 (wrap64 (n * 6) * a) * a) * b)) = B) (hm : wrap64 (wrap64 (2 * n) * t) = m) :
    Calls Try.prog 15 #[.agg #[.int .i64 a, .int .i64 b], .int .i64 h, .int .i64 d, .int .i64 n, .int .i64 t] w fun e w' => e = .returned (.int .i64 (greatW (butB a b h d n t) B m)) ∧ Bel w w' := by
  go_enter Try.func15, Try.ntmps15
  go_wp2_with (go_at_call 35; refine (impl_buttressOk _ _ _ _ _ _ _).mono ?_; rintro e w' ⟨rfl, hb⟩; obtain ⟨hc, hf, hz⟩ := hb.facts; have hsz := hb.size; (try simp at hsz); (try (refine cutp (p := w.heap.size < w'.heap.size) (fun _ => ?_) ?_; rotate_left; omega)); (try (refine cutp (p := w.heap.size + 1 < w'.heap.size) (fun _ => ?_) ?_; rotate_left; omega)); (try (refine cutp (p := w.heap.size + 1 + 1 < w'.heap.size) (fun _ => ?_) ?_; rotate_left; omega)); (try (refine cutp (p := wr.heap.size < w'.heap.size) (fun _ => ?_) ?_; rotate_left; omega)); (try (refine cutp (p := wr.heap.size + 1 < w'.heap.size) (fun _ => ?_) ?_; rotate_left; omega)); (try (refine cutp (p := wr.heap.size + 1 + 1 < w'.heap.size) (fun _ => ?_) ?_; rotate_left; omega)))
  all_goals try (go_ret; refine ⟨?_, by (repeat (first | (with_reducible exact Bel.refl _) | (with_reducible assumption) | (with_reducible refine Bel.alloc ?_ _) | (with_reducible refine Bel.drew ?_) | (with_reducible refine Bel.drewN ?_ _) | (with_reducible refine Bel.setCell ?_ (by first | (with_reducible exact Nat.le_refl _) | omega | (simp; done) | (simp; omega)) _) | (with_reducible refine Bel.trans ?_ (by with_reducible assumption))))⟩)
  · simp_all [greatW_no]
  · rw [show butB a b _ d n t = true by simp_all, greatW_neg _ (by assumption)]; rfl
  · rw [show butB a b _ d n t = true by simp_all, show m = 0 by simp_all, greatW_zero (by assumption)]; rfl
  · exfalso; simp_all
  all_goals
    rw [show butB a b _ d n t = true by simp_all, greatW_pos (by assumption) (by assumption)]
    simp
    try omega
theorem impl_GreatestForce (a b h d n t : Int) (w : World) :
    Calls Try.prog 15 #[.agg #[.int .i64 a, .int .i64 b], .int .i64 h, .int .i64 d, .int .i64 n, .int .i64 t] w fun e w' => e = .returned (.int .i64 (greatW (butB a b h d n t) (bearsW a b h n) (armW n t))) ∧ Bel w w' :=
  impl_GreatestForce' a b h d n t w _ _ rfl rfl
def rangeW (l g : Int) : Int := if l < 0 ∨ g < 0 then 0 else max (wrap64 (wrap64 (g - l) + 1)) 0
def forceW (a b h d n t : Int) : Int := rangeW (leastW (butB a b h d n t) (turnW a b h d n) (armW n t)) (greatW (butB a b h d n t) (bearsW a b h n) (armW n t))
set_option maxHeartbeats 400000 in
theorem impl_ForceRange' (a b h d n t : Int) (w : World) (l g : Int) (hl : leastW (butB a b h d n t) (turnW a b h d n) (armW n t) = l) (hg : greatW (butB a b h d n t) (bearsW a b h n) (armW n t) = g) :
    Calls Try.prog 16 #[.agg #[.int .i64 a, .int .i64 b], .int .i64 h, .int .i64 d, .int .i64 n, .int .i64 t] w fun e w' => e = .returned (.int .i64 (rangeW l g)) ∧ Bel w w' := by
  go_enter Try.func16, Try.ntmps16
  go_wp2_with fail
  go_region_with (first | (go_at_call 14; refine (impl_LeastForce _ _ _ _ _ _ _).mono ?_; rintro e w' ⟨rfl, hb⟩; obtain ⟨hc, hf, hz⟩ := hb.facts; have hsz := hb.size; (try simp at hsz); (try (refine cutp (p := w.heap.size < w'.heap.size) (fun _ => ?_) ?_; rotate_left; omega)); (try (refine cutp (p := w.heap.size + 1 < w'.heap.size) (fun _ => ?_) ?_; rotate_left; omega)); (try (refine cutp (p := w.heap.size + 1 + 1 < w'.heap.size) (fun _ => ?_) ?_; rotate_left; omega)); (try (refine cutp (p := wr.heap.size < w'.heap.size) (fun _ => ?_) ?_; rotate_left; omega)); (try (refine cutp (p := wr.heap.size + 1 < w'.heap.size) (fun _ => ?_) ?_; rotate_left; omega)); (try (refine cutp (p := wr.heap.size + 1 + 1 < w'.heap.size) (fun _ => ?_) ?_; rotate_left; omega))) | (go_at_call 15; refine (impl_GreatestForce _ _ _ _ _ _ _).mono ?_; rintro e w' ⟨rfl, hb⟩; obtain ⟨hc, hf, hz⟩ := hb.facts; have hsz := hb.size; (try simp at hsz); (try (refine cutp (p := w.heap.size < w'.heap.size) (fun _ => ?_) ?_; rotate_left; omega)); (try (refine cutp (p := w.heap.size + 1 < w'.heap.size) (fun _ => ?_) ?_; rotate_left; omega)); (try (refine cutp (p := w.heap.size + 1 + 1 < w'.heap.size) (fun _ => ?_) ?_; rotate_left; omega)); (try (refine cutp (p := wr.heap.size < w'.heap.size) (fun _ => ?_) ?_; rotate_left; omega)); (try (refine cutp (p := wr.heap.size + 1 < w'.heap.size) (fun _ => ?_) ?_; rotate_left; omega)); (try (refine cutp (p := wr.heap.size + 1 + 1 < w'.heap.size) (fun _ => ?_) ?_; rotate_left; omega))))
  all_goals go_wp2
  all_goals (go_ret; refine ⟨?_, by (repeat (first | (with_reducible exact Bel.refl _) | (with_reducible assumption) | (with_reducible refine Bel.alloc ?_ _) | (with_reducible refine Bel.drew ?_) | (with_reducible refine Bel.drewN ?_ _) | (with_reducible refine Bel.setCell ?_ (by first | (with_reducible exact Nat.le_refl _) | omega | (simp; done) | (simp; omega)) _) | (with_reducible refine Bel.trans ?_ (by with_reducible assumption))))⟩; unfold rangeW; simp; try omega)
theorem impl_ForceRange (a b h d n t : Int) (w : World) :
    Calls Try.prog 16 #[.agg #[.int .i64 a, .int .i64 b], .int .i64 h, .int .i64 d, .int .i64 n, .int .i64 t] w fun e w' => e = .returned (.int .i64 (forceW a b h d n t)) ∧ Bel w w' :=
  impl_ForceRange' a b h d n t w _ _ rfl rfl
end Go.Proofs.Ytikbndfbjgdldaa
