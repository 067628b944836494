/- PierStands, LeastWidth: a method called through an interface. -/
import Derived.Test.YtkaffcdjhbaifaaYDrawPier
import Derived.Test.YtkaffcdjhbaifaaYEBl
import Derived.Test.YtkaffcdjhbaifaaYI
import Derived.Test.YtkaffcdjhbaifaaYMPt
namespace Go.Proofs.Ytkaffcdjhbaifaa
open Go.RowKit Go.Eng

theorem impl_stays (a b h d n : Int) (w : World) :
    Calls Try.prog 18 #[.iface 25 (.agg #[.int .i64 a, .int .i64 b]), .agg #[.int .i64 h, .int .i64 d, .int .i64 n]] w fun e w' => e = .returned (.bool (decide (turnW a b h d n ≤ 0))) ∧ Bel w w' := by
  go_enter Try.func18, Try.ntmps18
  go_wp2_with (go_at_call 20; refine (Pier_turns _ _ _ _ _ _).mono ?_; rintro e w' ⟨rfl, hb⟩; obtain ⟨hc, hf, hz⟩ := hb.facts; have hsz := hb.size; (try simp at hsz); (try (refine cutp (p := w.heap.size < w'.heap.size) (fun _ => ?_) ?_; rotate_left; omega)); (try (refine cutp (p := w.heap.size + 1 < w'.heap.size) (fun _ => ?_) ?_; rotate_left; omega)); (try (refine cutp (p := w.heap.size + 1 + 1 < w'.heap.size) (fun _ => ?_) ?_; rotate_left; omega)); (try (refine cutp (p := wr.heap.size < w'.heap.size) (fun _ => ?_) ?_; rotate_left; omega)); (try (refine cutp (p := wr.heap.size + 1 < w'.heap.size) (fun _ => ?_) ?_; rotate_left; omega)); (try (refine cutp (p := wr.heap.size + 1 + 1 < w'.heap.size) (fun _ => ?_) ?_; rotate_left; omega)))
  go_ret
  exact ⟨by simp, by (repeat (first | (with_reducible exact Bel.refl _) | (with_reducible assumption) | (with_reducible refine Bel.alloc ?_ _) | (with_reducible refine Bel.drew ?_) | (with_reducible refine Bel.drewN ?_ _) | (with_reducible refine Bel.setCell ?_ (by first | (with_reducible exact Nat.le_refl _) | omega | (simp; done) | (simp; omega)) _) | (with_reducible refine Bel.trans ?_ (by with_reducible assumption))))⟩
theorem impl_PierStands (a b h d n : Int) (w : World) :
    Calls Try.prog 7 #[.agg #[.int .i64 a, .int .i64 b], .int .i64 h, .int .i64 d, .int .i64 n] w fun e w' => e = .returned (.bool (okB a b h d n && (decide (0 ≤ h) && decide (turnW a b h d n ≤ 0)))) ∧ Bel w w' := by
  by_cases hp : pierB a b = true <;> by_cases hq : pushB h d n = true <;> by_cases hh : 0 ≤ h
  all_goals
    go_enter Try.func7, Try.ntmps7
    go_wp2_with (first | (go_at_call 8; refine (impl_PierOk _ _ _).mono ?_; rintro e w' ⟨rfl, hb⟩; obtain ⟨hc, hf, hz⟩ := hb.facts; have hsz := hb.size; (try simp at hsz); (try (refine cutp (p := w.heap.size < w'.heap.size) (fun _ => ?_) ?_; rotate_left; omega)); (try (refine cutp (p := w.heap.size + 1 < w'.heap.size) (fun _ => ?_) ?_; rotate_left; omega)); (try (refine cutp (p := w.heap.size + 1 + 1 < w'.heap.size) (fun _ => ?_) ?_; rotate_left; omega)); (try (refine cutp (p := wr.heap.size < w'.heap.size) (fun _ => ?_) ?_; rotate_left; omega)); (try (refine cutp (p := wr.heap.size + 1 < w'.heap.size) (fun _ => ?_) ?_; rotate_left; omega)); (try (refine cutp (p := wr.heap.size + 1 + 1 < w'.heap.size) (fun _ => ?_) ?_; rotate_left; omega))) | (go_at_call 17; refine (push_ok _ _ _ _).mono ?_; rintro e w' ⟨rfl, hb⟩; obtain ⟨hc, hf, hz⟩ := hb.facts; have hsz := hb.size; (try simp at hsz); (try (refine cutp (p := w.heap.size < w'.heap.size) (fun _ => ?_) ?_; rotate_left; omega)); (try (refine cutp (p := w.heap.size + 1 < w'.heap.size) (fun _ => ?_) ?_; rotate_left; omega)); (try (refine cutp (p := w.heap.size + 1 + 1 < w'.heap.size) (fun _ => ?_) ?_; rotate_left; omega)); (try (refine cutp (p := wr.heap.size < w'.heap.size) (fun _ => ?_) ?_; rotate_left; omega)); (try (refine cutp (p := wr.heap.size + 1 < w'.heap.size) (fun _ => ?_) ?_; rotate_left; omega)); (try (refine cutp (p := wr.heap.size + 1 + 1 < w'.heap.size) (fun _ => ?_) ?_; rotate_left; omega))) | (go_at_call 18; refine (impl_stays _ _ _ _ _ _).mono ?_; rintro e w' ⟨rfl, hb⟩; obtain ⟨hc, hf, hz⟩ := hb.facts; have hsz := hb.size; (try simp at hsz); (try (refine cutp (p := w.heap.size < w'.heap.size) (fun _ => ?_) ?_; rotate_left; omega)); (try (refine cutp (p := w.heap.size + 1 < w'.heap.size) (fun _ => ?_) ?_; rotate_left; omega)); (try (refine cutp (p := w.heap.size + 1 + 1 < w'.heap.size) (fun _ => ?_) ?_; rotate_left; omega)); (try (refine cutp (p := wr.heap.size < w'.heap.size) (fun _ => ?_) ?_; rotate_left; omega)); (try (refine cutp (p := wr.heap.size + 1 < w'.heap.size) (fun _ => ?_) ?_; rotate_left; omega)); (try (refine cutp (p := wr.heap.size + 1 + 1 < w'.heap.size) (fun _ => ?_) ?_; rotate_left; omega))))
    go_ret
    exact ⟨by simp [okB, hp, hq, hh] <;> intros <;> omega, by (repeat (first | (with_reducible exact Bel.refl _) | (with_reducible assumption) | (with_reducible refine Bel.alloc ?_ _) | (with_reducible refine Bel.drew ?_) | (with_reducible refine Bel.drewN ?_ _) | (with_reducible refine Bel.setCell ?_ (by first | (with_reducible exact Nat.le_refl _) | omega | (simp; done) | (simp; omega)) _) | (with_reducible refine Bel.trans ?_ (by with_reducible assumption))))⟩
/-- Whether a pier of this width stands. -/
def stdW (b h d n : Int) (a : Int) : Bool := okB a b h d n && (decide (0 ≤ h) && decide (turnW a b h d n ≤ 0))
set_option maxRecDepth 100000
attribute [local irreducible] QV TV WL HW W CallOk Weak
theorem cPierOk (a b : Int) : CallOk Try.prog 8 [.agg [vi a, vi b]] (fun r => r = vb (pierB a b)) :=
  callOk_of_bel (vs := #[.agg #[.int .i64 a, .int .i64 b]]) (fun _ _ _ hd => args_pier (xs := []) hd) (fun w => impl_PierOk a b w)
theorem cTurnO (a b h d n : Int) : CallOk Try.prog 9 [.agg [vi a, vi b], vi h, vi d, vi n] (fun r => r = vi (turnO a b h d n)) :=
  callOk_of_bel (vs := #[.agg #[.int .i64 a, .int .i64 b], .int .i64 h, .int .i64 d, .int .i64 n]) (fun _ _ _ hd => args_pier (xs := [h, d, n]) hd) (fun w => impl_TurnOver a b h d n w)
theorem cStands (a b h d n : Int) : CallOk Try.prog 7 [.agg [vi a, vi b], vi h, vi d, vi n] (fun r => r = vb (stdW b h d n a)) :=
  callOk_of_bel (vs := #[.agg #[.int .i64 a, .int .i64 b], .int .i64 h, .int .i64 d, .int .i64 n]) (fun _ _ _ hd => args_pier (xs := [h, d, n]) hd) (fun w => impl_PierStands a b h d n w)
/-- The least width from k on, among n more. -/
def lwG (P : Int → Bool) : Nat → Nat → Int
  | 0, _ => -1
  | n + 1, k => bif P k then k else lwG P n (k + 1)
theorem lwG_spec (P : Int → Bool) : ∀ n k, (lwG P n k = -1 ∧ ∀ j : Nat, k ≤ j → j < k + n → P j = false) ∨ (∃ j : Nat, lwG P n k = j ∧ k ≤ j ∧ j < k + n ∧ P j = true ∧ ∀ i : Nat, k ≤ i → i < j → P i = false)
  | 0, k => .inl ⟨rfl, fun j h1 h2 => by omega⟩
  | n + 1, k => by
    cases e : P k
    · rcases lwG_spec P n (k + 1) with ⟨h1, h2⟩ | ⟨j, h1, h2, h3, h4, h5⟩
      · refine .inl ⟨by simp only [lwG, e]; exact h1, fun j h3 h4 => ?_⟩
        rcases Nat.eq_or_lt_of_le h3 with h | h
        · rw [← h]; exact e
        · exact h2 j (by omega) (by omega)
      · refine .inr ⟨j, by simp only [lwG, e]; exact h1, by omega, by omega, h4, fun i h6 h7 => ?_⟩
        rcases Nat.eq_or_lt_of_le h6 with h | h
        · rw [← h]; exact e
        · exact h5 i (by omega) h7
    · exact .inr ⟨k, by simp only [lwG, e]; rfl, by omega, by omega, e, fun i h1 h2 => by omega⟩
theorem cLeastWidth (b h d n : Int) : CallOk Try.prog 6 [vi b, vi h, vi d, vi n] (fun r => r = vi (lwG (stdW b h d n) 60 1)) := by
  refine callOk Try.func6 Try.ntmps6 Try.results6 rfl rfl rfl fun B w0 I0 => ?_
  (repeat (first | refine WL_nil ?_ | (apply wl0 (hd := rfl); (first | exact qv0 | exact QV_bne Try.underlying4 rfl rfl | exact QV_beq Try.underlying4 rfl rfl | exact qv1); (exact gy0)) | (apply wlb (hd := rfl); (first | exact q_box rfl rfl rfl | exact q_alloc); (exact gy0); rfl) | refine wln ⟨_, rfl, rfl⟩ rfl ?_ | refine wlnu ⟨_, rfl, rfl⟩ rfl ?_ | refine wst rfl rfl rfl List.not_mem_nil rfl rfl rfl rfl rfl rfl ?_ | refine W_seq ?_ | refine W_condT rfl ?_ | refine W_condF rfl ?_ | refine W_region ?_ | refine W_skip ?_ | refine W_ret ?_ | refine W_block ?_ | refine W_exit ?_))
  refine W_loop (fun m s => ∃ k : Nat, k ≤ 60 ∧ m = 60 - k ∧ lwG (stdW b h d n) (60 - k) (k + 1) = lwG (stdW b h d n) 60 1 ∧ s = ⟨[(0, vi b), (1, vi h), (2, vi d), (3, vi n), (9, vi (k + 1 : Nat))], [], []⟩) ⟨_, _, ⟨0, by omega, rfl, rfl, rfl⟩, (weak_mk (by repeat' (first | exact trivial | refine And.intro ?_ ?_ | exact Le.refl | exact Le.nilOwn rfl | exact Le.nilSl | exact Le.ownSl | exact Le.top)) (by repeat' (first | exact trivial | refine And.intro ?_ ?_ | exact ⟨_, rfl, Les.refl _⟩ | exact ⟨_, rfl, by repeat' (first | exact Les.nil | exact Les.cons Le.refl (Les.refl _) | refine Les.cons (by first | exact Le.top | exact Le.refl | exact Le.ownSl | exact Le.nilSl) ?_)⟩)) rfl (by repeat' (first | exact trivial | refine And.intro ?_ ?_ | exact rfl | exact refs_fill (fun _ => rfl) rfl | exact refs_map (fun _ => rfl))) (fun _ _ _ h => by first | exact h.elim | (obtain ⟨rfl, rfl, rfl⟩ := h; simp)))⟩ ?_
  rintro m s ⟨k, hk, rfl, he, rfl⟩
  by_cases hlt : k < 60
  · have c1 : abin .leq .i64 ((k + 1 : Nat) : Int) 60 = some (.bool true) := by simp [abin]; omega
    have hs := cStands (k + 1 : Nat) b h d n
    obtain ⟨f, hf⟩ : ∃ f, 60 - k = f + 1 := ⟨59 - k, by omega⟩
    cases e : stdW b h d n (k + 1 : Nat)
    · rw [e] at hs
      have hn : lwG (stdW b h d n) (60 - (k + 1)) (k + 1 + 1) = lwG (stdW b h d n) 60 1 := by
        rw [← he, hf, show 60 - (k + 1) = f by omega]
        simp only [lwG, e, cond_false]
      (repeat (first | refine WL_nil ?_ | (apply wl0 (hd := rfl); (first | exact QV_bin rfl rfl c1 | exact qv0 | exact QV_bne Try.underlying4 rfl rfl | exact QV_beq Try.underlying4 rfl rfl | exact qv1 | exact q_callA (hs)); (exact gy0)) | (apply wlb (hd := rfl); (first | exact q_box rfl rfl rfl | exact q_alloc); (exact gy0); rfl) | refine wln ⟨_, rfl, rfl⟩ rfl ?_ | refine wlnu ⟨_, rfl, rfl⟩ rfl ?_ | refine wst rfl rfl rfl List.not_mem_nil rfl rfl rfl rfl rfl rfl ?_ | refine W_seq ?_ | refine W_condT rfl ?_ | refine W_condF rfl ?_ | refine W_region ?_ | refine W_skip ?_ | refine W_ret ?_ | refine W_block ?_ | refine W_exit ?_))
      refine Exists.intro _ (Exists.intro _ ⟨?_, ⟨k + 1, by omega, rfl, hn, rfl⟩, (weak_mk (by repeat' (first | exact trivial | refine And.intro ?_ ?_ | exact Le.refl | exact Le.nilOwn rfl | exact Le.nilSl | exact Le.ownSl | exact Le.top)) (by repeat' (first | exact trivial | refine And.intro ?_ ?_ | exact ⟨_, rfl, Les.refl _⟩ | exact ⟨_, rfl, by repeat' (first | exact Les.nil | exact Les.cons Le.refl (Les.refl _) | refine Les.cons (by first | exact Le.top | exact Le.refl | exact Le.ownSl | exact Le.nilSl) ?_)⟩)) rfl (by repeat' (first | exact trivial | refine And.intro ?_ ?_ | exact rfl | exact refs_fill (fun _ => rfl) rfl | exact refs_map (fun _ => rfl))) (fun _ _ _ h => by first | exact h.elim | (obtain ⟨rfl, rfl, rfl⟩ := h; simp)))⟩)
      omega
    · rw [e] at hs
      have hn : lwG (stdW b h d n) 60 1 = (k + 1 : Nat) := by
        rw [← he, hf]
        simp only [lwG, e, cond_true]
      (repeat (first | refine WL_nil ?_ | (apply wl0 (hd := rfl); (first | exact QV_bin rfl rfl c1 | exact qv0 | exact QV_bne Try.underlying4 rfl rfl | exact QV_beq Try.underlying4 rfl rfl | exact qv1 | exact q_callA (hs)); (exact gy0)) | (apply wlb (hd := rfl); (first | exact q_box rfl rfl rfl | exact q_alloc); (exact gy0); rfl) | refine wln ⟨_, rfl, rfl⟩ rfl ?_ | refine wlnu ⟨_, rfl, rfl⟩ rfl ?_ | refine wst rfl rfl rfl List.not_mem_nil rfl rfl rfl rfl rfl rfl ?_ | refine W_seq ?_ | refine W_condT rfl ?_ | refine W_condF rfl ?_ | refine W_region ?_ | refine W_skip ?_ | refine W_ret ?_ | refine W_block ?_ | refine W_exit ?_))
      refine Exists.intro _ ⟨Weak.refl _, Exists.intro _ ⟨resA_tmp rfl rfl, ?_, rfl⟩⟩
      exact vi_eq hn.symm
  · have hk' : k = 60 := by omega
    subst hk'
    (repeat (first | refine WL_nil ?_ | (apply wl0 (hd := rfl); (first | exact qv0 | exact QV_bne Try.underlying4 rfl rfl | exact QV_beq Try.underlying4 rfl rfl | exact qv1); (exact gy0)) | (apply wlb (hd := rfl); (first | exact q_box rfl rfl rfl | exact q_alloc); (exact gy0); rfl) | refine wln ⟨_, rfl, rfl⟩ rfl ?_ | refine wlnu ⟨_, rfl, rfl⟩ rfl ?_ | refine wst rfl rfl rfl List.not_mem_nil rfl rfl rfl rfl rfl rfl ?_ | refine W_seq ?_ | refine W_condT rfl ?_ | refine W_condF rfl ?_ | refine W_region ?_ | refine W_skip ?_ | refine W_ret ?_ | refine W_block ?_ | refine W_exit ?_))
    refine Exists.intro _ ⟨Weak.refl _, Exists.intro _ ⟨resA_tmp rfl rfl, ?_, rfl⟩⟩
    exact vi_eq he
end Go.Proofs.Ytkaffcdjhbaifaa
