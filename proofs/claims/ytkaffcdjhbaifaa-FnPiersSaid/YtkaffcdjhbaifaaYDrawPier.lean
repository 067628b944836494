/- A drawn pier, its forces and its denominator lie in their ranges; TurnOver. -/
import Derived.Test.YtkaffcdjhbaifaaYDraw
import Derived.Test.YtkaffcdjhbaifaaYPier
import Derived.Deep.RegionWith
namespace Go.Proofs.Ytkaffcdjhbaifaa
open Go.ChangeShapes Go.WideShapes Go.ChangeAt Go.RowKit Go.Joins

theorem l21Pier_calls (g : Nat) (w : World) (hcur : Cur w g) :
    Calls Try.prog 15 #[.pointer (some ⟨g, 0, none⟩)] w fun e w' => ∃ a b : Int, 1 ≤ a ∧ a ≤ 12 ∧ 1 ≤ b ∧ b ≤ 25 ∧ e = .returned (.agg #[.int .i64 a, .int .i64 b]) ∧ Cur w' g ∧ Turn g w w' := by
  have hg := hcur.lt
  have n0 : ¬ w.heap.size = g := by omega
  go_enter Try.func15, Try.ntmps15
  go_wp2_with fail
  refine (l01Below_calls _ _ _ (hcur.alloc _) (by omega) (by omega)).mono ?_
  rintro e w1 ⟨x1, h10, h11, rfl, hcur1, ht1⟩
  obtain ⟨hc1, hf1, hz1⟩ := ht1.facts
  go_wp2_with fail
  refine (l01Below_calls _ _ _ hcur1 (by omega) (by omega)).mono ?_
  rintro e w2 ⟨x2, h20, h21, rfl, hcur2, ht2⟩
  obtain ⟨hc2, hf2, hz2⟩ := ht2.facts
  go_wp2
  have q0 : w2.cell? ⟨w.heap.size, 0, none⟩ = some (.int .i64 0) := by go_simp
  have q1 : w2.cell? ⟨w.heap.size, 1, none⟩ = some (.int .i64 0) := by go_simp
  refine bodyPost_ret (v := .agg #[.int .i64 (1 + x1), .int .i64 (1 + x2)]) (by simp [results, Try.results15, go_sem, cell_set, q0, q1]) rfl ⟨_, _, by omega, by omega, by omega, by omega, rfl, by (repeat (first | (with_reducible assumption) | (with_reducible refine Cur.far ?_ (by omega) _ _) | (with_reducible refine Cur.drew ?_) | (with_reducible refine Cur.alloc ?_ _))), by (repeat (first | (with_reducible exact Turn.refl _ _) | (with_reducible assumption) | (with_reducible refine Turn.drew ?_) | (with_reducible refine Turn.drewN ?_ _) | (with_reducible refine Turn.alloc ?_ _) | (with_reducible refine Turn.setCell ?_ _ _) | (with_reducible refine Turn.setNew ?_ (by first | (with_reducible exact Nat.le_refl _) | omega) _ _) | (with_reducible refine Turn.trans ?_ (by with_reducible assumption))))⟩
set_option maxHeartbeats 1000000 in
theorem DrawPier_calls (A : Option Addr) (n c : Nat) (w : World) (hby : BytesAt w A n) (hn : n ≤ 1048576) :
    Calls Try.prog 5 #[.slice A n c] w fun e w' => ∃ a b h d k : Int, (1 ≤ a ∧ a ≤ 12 ∧ 1 ≤ b ∧ b ≤ 25 ∧ 0 ≤ h ∧ h < 900 ∧ 0 ≤ d ∧ d < 400 ∧ 1 ≤ k ∧ k ≤ 3) ∧ e = .returned (.tuple #[.agg #[.int .i64 a, .int .i64 b], .int .i64 h, .int .i64 d, .int .i64 k]) ∧ Bel w w' := by
  have HB := Lib.hid hby
  clear hby
  go_enter Try.func5, Try.ntmps5
  go_wp2_with (go_at_call 14; refine (l01New_calls _ _ _ _ (by exact HB.out.bel (by (repeat (first | (with_reducible exact Bel.refl _) | (with_reducible assumption) | (with_reducible refine Bel.alloc ?_ _) | (with_reducible refine Bel.drew ?_) | (with_reducible refine Bel.drewN ?_ _) | (with_reducible refine Bel.setCell ?_ (by first | (with_reducible exact Nat.le_refl _) | omega | (simp; done) | (simp; omega)) _) | (with_reducible refine Bel.trans ?_ (by with_reducible assumption)))))) hn).mono ?_; rintro e w' ⟨g, rfl, hg, hcur, hb⟩; obtain ⟨hc, hf, hz⟩ := hb.facts; have hgl := hcur.lt)
  simp only [World.size_alloc] at hg
  have n0 : ¬ w.heap.size = g := by omega
  go_wp2_with (go_at_call 15; refine (l21Pier_calls _ _ (by assumption)).mono ?_; rintro e w' ⟨a, b, ha0, ha1, hb0, hb1, rfl, hcur, ht⟩; obtain ⟨hc, hf, hz⟩ := ht.facts)
  have hgp := hcur.lt
  have n1 : ¬ w'.heap.size = g := by omega
  have n2 : w.heap.size < w'.heap.size := by omega
  have n3 : w.heap.size ≤ w'.heap.size := by omega
  have k0 : Bel w w' := Turn.bel (a := w) (by (repeat (first | (with_reducible exact Bel.refl _) | (with_reducible assumption) | (with_reducible refine Bel.alloc ?_ _) | (with_reducible refine Bel.drew ?_) | (with_reducible refine Bel.drewN ?_ _) | (with_reducible refine Bel.setCell ?_ (by first | (with_reducible exact Nat.le_refl _) | omega | (simp; done) | (simp; omega)) _) | (with_reducible refine Bel.trans ?_ (by with_reducible assumption))))) ht (by omega)
  go_region_with (go_at_call 16; refine (l01Below_calls _ _ _ (by (repeat (first | (with_reducible assumption) | (with_reducible refine Cur.far ?_ (by omega) _ _) | (with_reducible refine Cur.drew ?_) | (with_reducible refine Cur.alloc ?_ _)))) (by omega) (by omega)).mono ?_; rintro e w9 ⟨x, hx0, hx1, rfl, hcur, ht⟩; have hT : Turn g (w'.alloc (Obj.cells #[.int .i64 a, .int .i64 b] 25)) w9 := (by (repeat (first | (with_reducible exact Turn.refl _ _) | (with_reducible assumption) | (with_reducible refine Turn.drew ?_) | (with_reducible refine Turn.drewN ?_ _) | (with_reducible refine Turn.alloc ?_ _) | (with_reducible refine Turn.setCell ?_ _ _) | (with_reducible refine Turn.setNew ?_ (by first | (with_reducible exact Nat.le_refl _) | omega) _ _) | (with_reducible refine Turn.trans ?_ (by with_reducible assumption))))); obtain ⟨hc, hf, hz⟩ := hT.facts)
  all_goals go_wp2
  all_goals
    rename_i hcur1 _ _ _ _ _ w1 x1 h10 h11 hc1 ht1 hT1 _ _ _ w2 x2 h20 h21 hc2 ht2 hT2 _ _ _
    have q0 : w9.cell? ⟨w.heap.size, 0, none⟩ = some (.int .i64 0) := by go_simp
    have q1 : w9.cell? ⟨w.heap.size, 1, none⟩ = some (.int .i64 0) := by go_simp
    have q2 : IntKind.i64.wrap (1 + x) = 1 + x := IntWalk.i64_in _ (by omega)
    refine bodyPost_ret (v := .tuple #[.agg #[.int .i64 a, .int .i64 b], .int .i64 x1, .int .i64 x2, .int .i64 (1 + x)]) (by simp [results, Try.results5, go_sem, cell_set, q0, q1, q2, Act.put]) rfl ⟨_, _, _, _, _, ⟨ha0, ha1, hb0, hb1, h10, h11, h20, h21, by omega, by omega⟩, rfl, ?_⟩
    have k2 : Bel w w9 := Turn.bel (by (repeat (first | (with_reducible exact Bel.refl _) | (with_reducible assumption) | (with_reducible refine Bel.alloc ?_ _) | (with_reducible refine Bel.drew ?_) | (with_reducible refine Bel.drewN ?_ _) | (with_reducible refine Bel.setCell ?_ (by first | (with_reducible exact Nat.le_refl _) | omega | (simp; done) | (simp; omega)) _) | (with_reducible refine Bel.trans ?_ (by with_reducible assumption))))) hT (by omega)
    (repeat (first | (with_reducible exact Bel.refl _) | (with_reducible assumption) | (with_reducible refine Bel.alloc ?_ _) | (with_reducible refine Bel.drew ?_) | (with_reducible refine Bel.drewN ?_ _) | (with_reducible refine Bel.setCell ?_ (by first | (with_reducible exact Nat.le_refl _) | omega | (simp; done) | (simp; omega)) _) | (with_reducible refine Bel.trans ?_ (by with_reducible assumption))))

theorem impl_TurnOver (a b h d n : Int) (w : World) :
    Calls Try.prog 9 #[.agg #[.int .i64 a, .int .i64 b], .int .i64 h, .int .i64 d, .int .i64 n] w fun e w' => e = .returned (.int .i64 (turnO a b h d n)) ∧ Bel w w' := by
  by_cases hp : pierB a b = true <;> by_cases hq : pushB h d n = true
  all_goals
    go_enter Try.func9, Try.ntmps9
    go_wp2_with (first | (go_at_call 8; refine (impl_PierOk _ _ _).mono ?_; rintro e w' ⟨rfl, hb⟩; obtain ⟨hc, hf, hz⟩ := hb.facts; have hsz := hb.size; (try simp at hsz); (try (refine cutp (p := w.heap.size < w'.heap.size) (fun _ => ?_) ?_; rotate_left; omega)); (try (refine cutp (p := w.heap.size + 1 < w'.heap.size) (fun _ => ?_) ?_; rotate_left; omega)); (try (refine cutp (p := w.heap.size + 1 + 1 < w'.heap.size) (fun _ => ?_) ?_; rotate_left; omega)); (try (refine cutp (p := wr.heap.size < w'.heap.size) (fun _ => ?_) ?_; rotate_left; omega)); (try (refine cutp (p := wr.heap.size + 1 < w'.heap.size) (fun _ => ?_) ?_; rotate_left; omega)); (try (refine cutp (p := wr.heap.size + 1 + 1 < w'.heap.size) (fun _ => ?_) ?_; rotate_left; omega))) | (go_at_call 17; refine (push_ok _ _ _ _).mono ?_; rintro e w' ⟨rfl, hb⟩; obtain ⟨hc, hf, hz⟩ := hb.facts; have hsz := hb.size; (try simp at hsz); (try (refine cutp (p := w.heap.size < w'.heap.size) (fun _ => ?_) ?_; rotate_left; omega)); (try (refine cutp (p := w.heap.size + 1 < w'.heap.size) (fun _ => ?_) ?_; rotate_left; omega)); (try (refine cutp (p := w.heap.size + 1 + 1 < w'.heap.size) (fun _ => ?_) ?_; rotate_left; omega)); (try (refine cutp (p := wr.heap.size < w'.heap.size) (fun _ => ?_) ?_; rotate_left; omega)); (try (refine cutp (p := wr.heap.size + 1 < w'.heap.size) (fun _ => ?_) ?_; rotate_left; omega)); (try (refine cutp (p := wr.heap.size + 1 + 1 < w'.heap.size) (fun _ => ?_) ?_; rotate_left; omega))) | (go_at_call 20; refine (Pier_turns _ _ _ _ _ _).mono ?_; rintro e w' ⟨rfl, hb⟩; obtain ⟨hc, hf, hz⟩ := hb.facts; have hsz := hb.size; (try simp at hsz); (try (refine cutp (p := w.heap.size < w'.heap.size) (fun _ => ?_) ?_; rotate_left; omega)); (try (refine cutp (p := w.heap.size + 1 < w'.heap.size) (fun _ => ?_) ?_; rotate_left; omega)); (try (refine cutp (p := w.heap.size + 1 + 1 < w'.heap.size) (fun _ => ?_) ?_; rotate_left; omega)); (try (refine cutp (p := wr.heap.size < w'.heap.size) (fun _ => ?_) ?_; rotate_left; omega)); (try (refine cutp (p := wr.heap.size + 1 < w'.heap.size) (fun _ => ?_) ?_; rotate_left; omega)); (try (refine cutp (p := wr.heap.size + 1 + 1 < w'.heap.size) (fun _ => ?_) ?_; rotate_left; omega))))
    go_ret
    exact ⟨by simp [turnO, okB, hp, hq], by (repeat (first | (with_reducible exact Bel.refl _) | (with_reducible assumption) | (with_reducible refine Bel.alloc ?_ _) | (with_reducible refine Bel.drew ?_) | (with_reducible refine Bel.drewN ?_ _) | (with_reducible refine Bel.setCell ?_ (by first | (with_reducible exact Nat.le_refl _) | omega | (simp; done) | (simp; omega)) _) | (with_reducible refine Bel.trans ?_ (by with_reducible assumption))))⟩

end Go.Proofs.Ytkaffcdjhbaifaa
