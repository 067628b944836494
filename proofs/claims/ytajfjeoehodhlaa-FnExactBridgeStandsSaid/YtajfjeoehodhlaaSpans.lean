/- Walks of the functions on spans: what each returns, as plain Lean functions on lists. -/
import Derived.Test.YtajfjeoehodhlaaRow
import Derived.Test.YtajfjeoehodhlaaPier
import Derived.Test.YtajfjeoehodhlaaSlices
import Derived.LoopTactic
import Derived.Deep.RegionWith
namespace Go.Proofs.Ytajfjeoehodhlaa
open Go.ChangeShapes Go.WideShapes Go.ChangeAt Go.RowKit

def spanB (s : T3) : Bool := inR s.a 0 10000 && inR s.b s.a 10000 && inR s.c 0 10000
def spansB (xs : List T3) : Bool := inR xs.length 1 10 && xs.all spanB

theorem laws_szSpanS (A : Option Addr) (n c : Nat) (l : Int) (w : World) (hn : n ≤ 9223372036854775807) (hl0 : 0 ≤ l) (hl : l ≤ 1048576) :
    Calls Try.prog 18 #[.slice A n c, .int .i64 l] w fun e w' => e = .returned (.int .i64 (if (n : Int) ≤ l then l - n else -1)) ∧ w = w' := by
  go_enter Try.func18, Try.ntmps18
  go_wp2
  all_goals (go_ret; exact ⟨by simp <;> omega, rfl⟩)

theorem laws_toSpan (s : T3) (w : World) :
    Calls Try.prog 41 #[.agg #[.int .i64 (s.a), .int .i64 (s.b), .int .i64 (s.c)]] w fun e w' => e = .returned (.agg #[.int .i64 (s.a), .int .i64 (s.b), .int .i64 (s.c)]) ∧ Bel w w' := by
  go_enter Try.func41, Try.ntmps41
  go_wp2
  go_returns
  exact ⟨rfl, by (repeat (first | (with_reducible exact Bel.refl _) | (with_reducible assumption) | (with_reducible refine Bel.alloc ?_ _) | (with_reducible refine Bel.drew ?_) | (with_reducible refine Bel.drewN ?_ _) | (with_reducible refine Bel.setCell ?_ (by first | (with_reducible exact Nat.le_refl _) | omega | (simp; done) | (simp; omega)) _) | (with_reducible refine Bel.trans ?_ (by with_reducible assumption))))⟩

theorem laws_eqSpan (s t : T3) (w : World) :
    Calls Try.prog 42 #[.agg #[.int .i64 (s.a), .int .i64 (s.b), .int .i64 (s.c)], .agg #[.int .i64 (t.a), .int .i64 (t.b), .int .i64 (t.c)]] w fun e w' => e = .returned (.bool (decide (s = t))) ∧ Bel w w' := by
  go_enter Try.func42, Try.ntmps42
  go_wp2
  all_goals (go_ret; refine ⟨?_, by (repeat (first | (with_reducible exact Bel.refl _) | (with_reducible assumption) | (with_reducible refine Bel.alloc ?_ _) | (with_reducible refine Bel.drew ?_) | (with_reducible refine Bel.drewN ?_ _) | (with_reducible refine Bel.setCell ?_ (by first | (with_reducible exact Nat.le_refl _) | omega | (simp; done) | (simp; omega)) _) | (with_reducible refine Bel.trans ?_ (by with_reducible assumption))))⟩; cases s; cases t; simp_all)

theorem info_Span : (Try.prog.info? 44).map (fun i => (i.zero, i.size, i.bytes)) = some (some (.agg #[.int .i64 0, .int .i64 0, .int .i64 0]), 3, 24) := by kernel_rfl

set_option maxHeartbeats 400000 in
theorem laws_toSpanS (A : Option Addr) (n c : Nat) (xs : List T3) (w : World) (h : SlAt 3 f3 w A n xs) (hn : n ≤ 1048576) :
    Calls Try.prog 20 #[.slice A n c] w fun e w' => ∃ g, e = .returned (.slice (some ⟨g, 0, none⟩) n n) ∧ w.heap.size ≤ g ∧ Own 3 f3 w' g 44 xs ∧ Bel w w' := by
  obtain ⟨i0, hi0, hz0, hz1, hz2⟩ := info_parts info_Span
  have hmk := fun W => run_make_cells (P := Try.prog) 33 44 i0 _ Try.underlying33 hi0 hz0 n (by rw [hz2]; omega) (by omega) W
  rw [hz1] at hmk
  clear hz1 hz0 hz2 hi0
  go_enter Try.func20, Try.ntmps20
  go_wp2_with fail
  go_loopw [4] (fun v wr => ∃ i : Nat, i ≤ n ∧ v = .int .i64 i ∧ Fill 3 f3 wr w.heap.size 44 n xs i ∧ Bel w wr) (fun v _ => n - (intOf v).toNat)
  case atStart => exact ⟨0, Nat.zero_le _, rfl, Fill.made _ _ _ _ _ _ _, by (repeat (first | (with_reducible exact Bel.refl _) | (with_reducible assumption) | (with_reducible refine Bel.alloc ?_ _) | (with_reducible refine Bel.drew ?_) | (with_reducible refine Bel.drewN ?_ _) | (with_reducible refine Bel.setCell ?_ (by first | (with_reducible exact Nat.le_refl _) | omega | (simp; done) | (simp; omega)) _) | (with_reducible refine Bel.trans ?_ (by with_reducible assumption))))⟩
  case round =>
    obtain ⟨i, hi, rfl, hfill, hb⟩ := hrel
    by_cases hlt : i < n
    · obtain ⟨b, o, s, rfl, hs, hl, c0, c1, c2⟩ := h.get3 hb hlt
      obtain ⟨⟨v0, e0⟩, z0⟩ := hfill.room (i * 3) (by omega)
      obtain ⟨⟨v1, e1⟩, z1⟩ := hfill.room (i * 3 + 1) (by omega)
      obtain ⟨⟨v2, e2⟩, z2⟩ := hfill.room (i * 3 + 2) (by omega)
      have hg := hfill.lt
      go_wp2_with (go_at_call 41; refine (laws_toSpan _ _).mono ?_; rintro e w' ⟨rfl, hb⟩; obtain ⟨hc, hf, hz⟩ := hb.facts)
      go_roundw
      case rel => exact ⟨i + 1, by omega, by go_num, (hfill.bel hb).step3 hlt hs.out, by (repeat (first | (with_reducible exact Bel.refl _) | (with_reducible assumption) | (with_reducible refine Bel.alloc ?_ _) | (with_reducible refine Bel.drew ?_) | (with_reducible refine Bel.drewN ?_ _) | (with_reducible refine Bel.setCell ?_ (by first | (with_reducible exact Nat.le_refl _) | omega | (simp; done) | (simp; omega)) _) | (with_reducible refine Bel.trans ?_ (by with_reducible assumption))))⟩
      case measure => simp [intOf]; omega
    · go_wp2
      go_ret
      exact ⟨_, rfl, Nat.le_refl _, hfill.done h.1 (by omega), hb⟩

set_option maxHeartbeats 400000 in
theorem laws_eqSpanS (A B : Option Addr) (n m c c' : Nat) (xs ys : List T3) (w : World) (h : SlAt 3 f3 w A n xs) (h' : SlAt 3 f3 w B m ys) (hn : n ≤ 1048576) (hm : m ≤ 1048576) :
    Calls Try.prog 22 #[.slice A n c, .slice B m c'] w fun e w' => e = .returned (.bool (decide (xs = ys))) ∧ Bel w w' := by
  by_cases hnm : n = m
  · subst hnm
    go_enter Try.func22, Try.ntmps22
    go_wp2_with fail
    go_loopw [5] (fun v wr => ∃ i : Nat, i ≤ n ∧ v = .int .i64 i ∧ Hid (xs.take i = ys.take i) ∧ Bel w wr) (fun v _ => n - (intOf v).toNat)
    case atStart => exact ⟨0, Nat.zero_le _, rfl, rfl, Bel.refl _⟩
    case round =>
      obtain ⟨i, hi, rfl, heq, hb⟩ := hrel
      by_cases hlt : i < n
      · obtain ⟨b, o, s, rfl, hs, hl, c0, c1, c2⟩ := h.get3 hb hlt
        obtain ⟨b', o', s', rfl, hs', hl', c0', c1', c2'⟩ := h'.get3 hb hlt
        go_wp2_with fail
        go_region_with (go_at_call 42; refine (laws_eqSpan _ _ _).mono ?_; rintro e w' ⟨rfl, hb⟩; obtain ⟨hc, hf, hz⟩ := hb.facts)
        all_goals go_wp2
        all_goals first
          | (go_ret; exact ⟨by rw [decide_eq_false (ne_of_get hs.out hs'.out (by simp_all))]; rfl, by (repeat (first | (with_reducible exact Bel.refl _) | (with_reducible assumption) | (with_reducible refine Bel.alloc ?_ _) | (with_reducible refine Bel.drew ?_) | (with_reducible refine Bel.drewN ?_ _) | (with_reducible refine Bel.setCell ?_ (by first | (with_reducible exact Nat.le_refl _) | omega | (simp; done) | (simp; omega)) _) | (with_reducible refine Bel.trans ?_ (by with_reducible assumption))))⟩)
          | (go_roundw
             case rel => exact ⟨i + 1, by omega, by go_num, take_succ_eq hs.out hs'.out heq.out (by simp_all), by (repeat (first | (with_reducible exact Bel.refl _) | (with_reducible assumption) | (with_reducible refine Bel.alloc ?_ _) | (with_reducible refine Bel.drew ?_) | (with_reducible refine Bel.drewN ?_ _) | (with_reducible refine Bel.setCell ?_ (by first | (with_reducible exact Nat.le_refl _) | omega | (simp; done) | (simp; omega)) _) | (with_reducible refine Bel.trans ?_ (by with_reducible assumption))))⟩
             case measure => simp [intOf]; omega)
      · go_wp2
        go_ret
        exact ⟨by rw [decide_eq_true (eq_of_take (show xs.take n = ys.take n by have := heq.out; rwa [show i = n by omega] at this) h.1 h'.1)]; rfl, by (repeat (first | (with_reducible exact Bel.refl _) | (with_reducible assumption) | (with_reducible refine Bel.alloc ?_ _) | (with_reducible refine Bel.drew ?_) | (with_reducible refine Bel.drewN ?_ _) | (with_reducible refine Bel.setCell ?_ (by first | (with_reducible exact Nat.le_refl _) | omega | (simp; done) | (simp; omega)) _) | (with_reducible refine Bel.trans ?_ (by with_reducible assumption))))⟩
  · have hne : ((n : Int) == (m : Int)) = false := by simp; omega
    go_enter Try.func22, Try.ntmps22
    go_wp2
    go_ret
    exact ⟨by rw [decide_eq_false (fun e => hnm (by rw [h.1, h'.1, e]))]; rfl, by (repeat (first | (with_reducible exact Bel.refl _) | (with_reducible assumption) | (with_reducible refine Bel.alloc ?_ _) | (with_reducible refine Bel.drew ?_) | (with_reducible refine Bel.drewN ?_ _) | (with_reducible refine Bel.setCell ?_ (by first | (with_reducible exact Nat.le_refl _) | omega | (simp; done) | (simp; omega)) _) | (with_reducible refine Bel.trans ?_ (by with_reducible assumption))))⟩
theorem spec_SpansOk (A : Option Addr) (n c : Nat) (xs : List T3) (w : World) (h : SlAt 3 f3 w A n xs) (hn : n ≤ 1048576) :
    Calls Try.prog 19 #[.slice A n c] w fun e w' => e = .returned (.bool (spansB xs)) ∧ Bel w w' := by
  go_enter Try.func19, Try.ntmps19
  go_wp2_with fail
  go_loopw [3] (fun k wr => ∃ i : Nat, i ≤ n ∧ k = .int .i64 i ∧ Hid ((xs.take i).all spanB = true) ∧ Bel w wr) (fun k _ => n - (intOf k).toNat)
  case atStart => exact ⟨0, Nat.zero_le _, rfl, rfl, Bel.refl _⟩
  case round =>
    obtain ⟨i, hi, rfl, hall, hb⟩ := hrel
    by_cases hlt : i < n
    · obtain ⟨b, o, s, rfl, hs, hl, c0, c1, c2⟩ := h.get3 hb hlt
      go_wp2_with (go_at_call 35; refine (spec_l01In _ _ _ _).mono ?_; rintro e w' ⟨rfl, rfl⟩)
      all_goals try (go_ret; exact ⟨by simp [spansB, all_false_of hs.out (show spanB s = false by simp_all [spanB])], by (repeat (first | (with_reducible exact Bel.refl _) | (with_reducible assumption) | (with_reducible refine Bel.alloc ?_ _) | (with_reducible refine Bel.drew ?_) | (with_reducible refine Bel.drewN ?_ _) | (with_reducible refine Bel.setCell ?_ (by first | (with_reducible exact Nat.le_refl _) | omega | (simp; done) | (simp; omega)) _) | (with_reducible refine Bel.trans ?_ (by with_reducible assumption))))⟩)
      go_roundw
      case rel => exact ⟨i + 1, by omega, by go_num, by show _ = _; rw [all_take_succ hs.out, hall.out]; simp_all [spanB], by (repeat (first | (with_reducible exact Bel.refl _) | (with_reducible assumption) | (with_reducible refine Bel.alloc ?_ _) | (with_reducible refine Bel.drew ?_) | (with_reducible refine Bel.drewN ?_ _) | (with_reducible refine Bel.setCell ?_ (by first | (with_reducible exact Nat.le_refl _) | omega | (simp; done) | (simp; omega)) _) | (with_reducible refine Bel.trans ?_ (by with_reducible assumption))))⟩
      case measure => simp [intOf]; omega
    · go_wp2_with (go_at_call 35; refine (spec_l01In _ _ _ _).mono ?_; rintro e w' ⟨rfl, rfl⟩)
      go_ret
      have ha := hall.out
      rw [List.take_of_length_le (by have := h.1; omega)] at ha
      exact ⟨by simp [spansB, ha, h.1], by (repeat (first | (with_reducible exact Bel.refl _) | (with_reducible assumption) | (with_reducible refine Bel.alloc ?_ _) | (with_reducible refine Bel.drew ?_) | (with_reducible refine Bel.drewN ?_ _) | (with_reducible refine Bel.setCell ?_ (by first | (with_reducible exact Nat.le_refl _) | omega | (simp; done) | (simp; omega)) _) | (with_reducible refine Bel.trans ?_ (by with_reducible assumption))))⟩
theorem impl_SpansOk (A : Option Addr) (n c : Nat) (xs : List T3) (w : World) (h : SlAt 3 f3 w A n xs) (hn : n ≤ 1048576) :
    Calls Try.prog 21 #[.slice A n c] w fun e w' => e = .returned (.bool (spansB xs)) ∧ Bel w w' := by
  by_cases hin : inR n 1 10 = true
  · go_enter Try.func21, Try.ntmps21
    go_wp2_with (go_at_call 38; refine (impl_within _ _ _ _).mono ?_; rintro e w' ⟨rfl, rfl⟩)
    go_loopw [11] (fun k wr => ∃ i : Nat, i ≤ n ∧ k = .int .i64 i ∧ Hid ((xs.take i).all spanB = true) ∧ Bel w wr) (fun k _ => n - (intOf k).toNat)
    case atStart => exact ⟨0, Nat.zero_le _, rfl, rfl, Bel.refl _⟩
    case round =>
      obtain ⟨i, hi, rfl, hall, hb⟩ := hrel
      by_cases hlt : i < n
      · obtain ⟨b, o, s, rfl, hs, hl, c0, c1, c2⟩ := h.get3 hb hlt
        go_wp2_with (go_at_call 38; refine (impl_within _ _ _ _).mono ?_; rintro e w' ⟨rfl, rfl⟩)
        all_goals try (go_ret; exact ⟨by simp [spansB, all_false_of hs.out (show spanB s = false by simp_all [spanB])], by (repeat (first | (with_reducible exact Bel.refl _) | (with_reducible assumption) | (with_reducible refine Bel.alloc ?_ _) | (with_reducible refine Bel.drew ?_) | (with_reducible refine Bel.drewN ?_ _) | (with_reducible refine Bel.setCell ?_ (by first | (with_reducible exact Nat.le_refl _) | omega | (simp; done) | (simp; omega)) _) | (with_reducible refine Bel.trans ?_ (by with_reducible assumption))))⟩)
        go_roundw
        case rel => exact ⟨i + 1, by omega, by go_num, by show _ = _; rw [all_take_succ hs.out, hall.out]; simp_all [spanB], by (repeat (first | (with_reducible exact Bel.refl _) | (with_reducible assumption) | (with_reducible refine Bel.alloc ?_ _) | (with_reducible refine Bel.drew ?_) | (with_reducible refine Bel.drewN ?_ _) | (with_reducible refine Bel.setCell ?_ (by first | (with_reducible exact Nat.le_refl _) | omega | (simp; done) | (simp; omega)) _) | (with_reducible refine Bel.trans ?_ (by with_reducible assumption))))⟩
        case measure => simp [intOf]; omega
      · go_wp2_with (go_at_call 38; refine (impl_within _ _ _ _).mono ?_; rintro e w' ⟨rfl, rfl⟩)
        go_ret
        have ha := hall.out
        rw [List.take_of_length_le (by have := h.1; omega)] at ha
        exact ⟨by simp [spansB, ha, ← h.1, hin], by (repeat (first | (with_reducible exact Bel.refl _) | (with_reducible assumption) | (with_reducible refine Bel.alloc ?_ _) | (with_reducible refine Bel.drew ?_) | (with_reducible refine Bel.drewN ?_ _) | (with_reducible refine Bel.setCell ?_ (by first | (with_reducible exact Nat.le_refl _) | omega | (simp; done) | (simp; omega)) _) | (with_reducible refine Bel.trans ?_ (by with_reducible assumption))))⟩
  · go_enter Try.func21, Try.ntmps21
    go_wp2_with (go_at_call 38; refine (impl_within _ _ _ _).mono ?_; rintro e w' ⟨rfl, rfl⟩)
    go_ret
    exact ⟨by simp [spansB, ← h.1, hin], by (repeat (first | (with_reducible exact Bel.refl _) | (with_reducible assumption) | (with_reducible refine Bel.alloc ?_ _) | (with_reducible refine Bel.drew ?_) | (with_reducible refine Bel.drewN ?_ _) | (with_reducible refine Bel.setCell ?_ (by first | (with_reducible exact Nat.le_refl _) | omega | (simp; done) | (simp; omega)) _) | (with_reducible refine Bel.trans ?_ (by with_reducible assumption))))⟩
end Go.Proofs.Ytajfjeoehodhlaa
