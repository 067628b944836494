/- Walks of the functions on spans: what each returns, as plain Lean functions on lists. -/
import Derived.Test.YtikbndfbjgdldaaRow
import Derived.Test.YtikbndfbjgdldaaPier
import Derived.Test.YtikbndfbjgdldaaSlices
import Derived.LoopTactic
import Derived.Deep.RegionWith
namespace Go.Proofs.Ytikbndfbjgdldaa
open Go.ChangeShapes Go.WideShapes Go.ChangeAt Go.RowKit

def spanB (s : T3) : Bool := inR s.a 0 10000 && inR s.b s.a 10000 && inR s.c 0 10000
def spansB (xs : List T3) : Bool := inR xs.length 1 10 && xs.all spanB

theorem info_Span : (Try.prog.info? 30).map (fun i => (i.zero, i.size, i.bytes)) = some (some (.agg #[.int .i64 0, .int .i64 0, .int .i64 0]), 3, 24) := by kernel_rfl

theorem impl_SpansOk (A : Option Addr) (n c : Nat) (xs : List T3) (w : World) (h : SlAt 3 f3 w A n xs) (hn : n ≤ 1048576) :
    Calls Try.prog 10 #[.slice A n c] w fun e w' => e = .returned (.bool (spansB xs)) ∧ Bel w w' := by
  by_cases hin : inR n 1 10 = true
  · go_enter Try.func10, Try.ntmps10
    go_wp2_with (go_at_call 32; refine (impl_within _ _ _ _).mono ?_; rintro e w' ⟨rfl, rfl⟩)
    go_loopw [11] (fun k wr => ∃ i : Nat, i ≤ n ∧ k = .int .i64 i ∧ Hid ((xs.take i).all spanB = true) ∧ Bel w wr) (fun k _ => n - (intOf k).toNat)
    case atStart => exact ⟨0, Nat.zero_le _, rfl, rfl, Bel.refl _⟩
    case round =>
      obtain ⟨i, hi, rfl, hall, hb⟩ := hrel
      by_cases hlt : i < n
      · obtain ⟨b, o, s, rfl, hs, hl, c0, c1, c2⟩ := h.get3 hb hlt
        go_wp2_with (go_at_call 32; refine (impl_within _ _ _ _).mono ?_; rintro e w' ⟨rfl, rfl⟩)
        all_goals try (go_ret; exact ⟨by simp [spansB, all_false_of hs.out (show spanB s = false by simp_all [spanB])], by (repeat (first | (with_reducible exact Bel.refl _) | (with_reducible assumption) | (with_reducible refine Bel.alloc ?_ _) | (with_reducible refine Bel.drew ?_) | (with_reducible refine Bel.drewN ?_ _) | (with_reducible refine Bel.setCell ?_ (by first | (with_reducible exact Nat.le_refl _) | omega | (simp; done) | (simp; omega)) _) | (with_reducible refine Bel.trans ?_ (by with_reducible assumption))))⟩)
        go_roundw
        case rel => exact ⟨i + 1, by omega, by go_num, by show _ = _; rw [all_take_stepS hs.out, hall.out]; simp_all [spanB], by (repeat (first | (with_reducible exact Bel.refl _) | (with_reducible assumption) | (with_reducible refine Bel.alloc ?_ _) | (with_reducible refine Bel.drew ?_) | (with_reducible refine Bel.drewN ?_ _) | (with_reducible refine Bel.setCell ?_ (by first | (with_reducible exact Nat.le_refl _) | omega | (simp; done) | (simp; omega)) _) | (with_reducible refine Bel.trans ?_ (by with_reducible assumption))))⟩
        case measure => simp [intOf]; omega
      · go_wp2_with (go_at_call 32; refine (impl_within _ _ _ _).mono ?_; rintro e w' ⟨rfl, rfl⟩)
        go_ret
        have ha := hall.out
        rw [List.take_of_length_le (by have := h.1; omega)] at ha
        exact ⟨by simp [spansB, ha, ← h.1, hin], by (repeat (first | (with_reducible exact Bel.refl _) | (with_reducible assumption) | (with_reducible refine Bel.alloc ?_ _) | (with_reducible refine Bel.drew ?_) | (with_reducible refine Bel.drewN ?_ _) | (with_reducible refine Bel.setCell ?_ (by first | (with_reducible exact Nat.le_refl _) | omega | (simp; done) | (simp; omega)) _) | (with_reducible refine Bel.trans ?_ (by with_reducible assumption))))⟩
  · go_enter Try.func10, Try.ntmps10
    go_wp2_with (go_at_call 32; refine (impl_within _ _ _ _).mono ?_; rintro e w' ⟨rfl, rfl⟩)
    go_ret
    exact ⟨by simp [spansB, ← h.1, hin], by (repeat (first | (with_reducible exact Bel.refl _) | (with_reducible assumption) | (with_reducible refine Bel.alloc ?_ _) | (with_reducible refine Bel.drew ?_) | (with_reducible refine Bel.drewN ?_ _) | (with_reducible refine Bel.setCell ?_ (by first | (with_reducible exact Nat.le_refl _) | omega | (simp; done) | (simp; omega)) _) | (with_reducible refine Bel.trans ?_ (by with_reducible assumption))))⟩
end Go.Proofs.Ytikbndfbjgdldaa
