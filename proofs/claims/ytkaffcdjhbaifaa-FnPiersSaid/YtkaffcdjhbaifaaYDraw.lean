/- The drawing functions: a cursor over bytes gives numbers in their ranges; nothing is said of which. -/
import Derived.Test.YtkaffcdjhbaifaaYRow
import Derived.Test.YtkaffcdjhbaifaaYSlices
import Derived.LoopTactic
import Derived.Deep.QuietTactic
import Derived.BigQuiet
import Derived.RegionTactic
namespace Go.Proofs.Ytkaffcdjhbaifaa
open Go.ChangeShapes Go.WideShapes Go.ChangeAt Go.RowKit

/-- Bytes that a slice reads: each is one. -/
def BytesAt (w : World) (A : Option Addr) (n : Nat) : Prop := 0 < n → ∃ b o, A = some ⟨b, o, none⟩ ∧ b < w.heap.size ∧ ∀ j, j < n → ∃ x : Int, w.cell? ⟨b, o + j, none⟩ = some (.int .u8 x) ∧ 0 ≤ x ∧ x ≤ 255
theorem BytesAt.bel {w wr : World} {A : Option Addr} {n : Nat} (h : BytesAt w A n) (hb : Bel w wr) : BytesAt wr A n := by
  intro hn
  obtain ⟨b, o, e, hl, hc⟩ := h hn
  refine ⟨b, o, e, Nat.lt_of_lt_of_le hl hb.size, fun j hj => ?_⟩
  obtain ⟨x, hx, h0, h1⟩ := hc j hj
  exact ⟨x, (hb.cell b _ hl).trans hx, h0, h1⟩
/-- The cursor in block g: over n bytes that lie below it. -/
def Cur (w : World) (g : Nat) : Prop := ∃ (A : Option Addr) (n c i : Nat) (h : Int), w.heap[g]? = some (.cells #[.slice A n c, .int .i64 (i : Int), .int .i64 h] 60 (0, 0)) ∧ i ≤ n ∧ n ≤ 1048576 ∧ BytesAt w A n ∧ (0 < n → ∀ b o, A = some ⟨b, o, none⟩ → b < g)
theorem Cur.lt {w : World} {g : Nat} (h : Cur w g) : g < w.heap.size := by obtain ⟨A, n, c, i, h, hh, _⟩ := h; exact heap_lt hh
theorem Cur.bel {w wr : World} {g : Nat} (h : Cur w g) (hb : Bel w wr) : Cur wr g := by
  obtain ⟨A, n, c, i, h, hh, h0, h1, h2, h3⟩ := h
  exact ⟨A, n, c, i, h, heap_bel hh hb, h0, h1, h2.bel hb, h3⟩
/-- Only the cursor's own block may have turned. -/
def Turn (g : Nat) (w w' : World) : Prop := w.grownBy w' (some g)
theorem Turn.bel {a w w' : World} {g : Nat} (hb : Bel a w) (h : Turn g w w') (hg : a.heap.size ≤ g) : Bel a w' := hb.grown h (fun g' e => by injection e with e; omega)
theorem Turn.cell {w w' : World} {g b : Nat} (h : Turn g w w') (hb : b < w.heap.size) (hne : b ≠ g) (o : Nat) : w'.cell? ⟨b, o, none⟩ = w.cell? ⟨b, o, none⟩ := World.cell?_of_block (h.block b hb (by simpa using hne))
theorem Turn.frozen {w w' : World} {g b : Nat} (h : Turn g w w') (hb : b < w.heap.size) (hne : b ≠ g) (o : Nat) : w'.frozen? ⟨b, o, none⟩ = w.frozen? ⟨b, o, none⟩ := World.frozen?_of_block (h.block b hb (by simpa using hne))
theorem Turn.facts {w w' : World} {g : Nat} (h : Turn g w w') : (∀ b o, b < w.heap.size → ¬ b = g → w'.cell? ⟨b, o, none⟩ = w.cell? ⟨b, o, none⟩) ∧ (∀ b o, b < w.heap.size → ¬ b = g → w'.frozen? ⟨b, o, none⟩ = w.frozen? ⟨b, o, none⟩) ∧ (∀ k, k < w.heap.size → k < w'.heap.size) :=
  ⟨fun _ o hb hne => h.cell hb hne o, fun _ o hb hne => h.frozen hb hne o, fun _ hk => Nat.lt_of_lt_of_le hk h.size⟩
theorem Turn.refl (g : Nat) (w : World) : Turn g w w := World.grownBy.refl w _
theorem Turn.trans {a b c : World} {g : Nat} (h : Turn g a b) (k : Turn g b c) : Turn g a c :=
  ⟨k.os.trans h.os, k.tape.trans h.tape, k.output.trans h.output, Nat.le_trans h.size k.size, fun i hi hne => (k.block i (Nat.lt_of_lt_of_le hi h.size) hne).trans (h.block i hi hne)⟩
theorem Turn.drew {a w : World} {g : Nat} (h : Turn g a w) : Turn g a w.drew := ⟨h.os, h.tape, h.output, h.size, h.block⟩
theorem Turn.drewN {a w : World} {g : Nat} (h : Turn g a w) (n : Nat) : Turn g a (w.drewN n) := ⟨h.os, h.tape, h.output, h.size, h.block⟩
theorem Turn.of_bel {a w : World} {g : Nat} (h : Bel a w) : Turn g a w := ⟨h.os, h.tape, h.output, h.size, fun i hi _ => h.block i hi⟩
theorem Turn.setCell {a w : World} {g : Nat} (h : Turn g a w) (p : Nat) (u : Value) : Turn g a (w.setCell ⟨g, p, none⟩ u) :=
  h.trans ⟨rfl, rfl, rfl, by simp [World.setCell], fun i _ hne => Below.heap_setCell _ _ _ _ (fun e => hne (by rw [e]))⟩
theorem Turn.alloc {a w : World} {g : Nat} (h : Turn g a w) (o : Obj) : Turn g a (w.alloc o) := h.trans (Turn.of_bel ((Bel.refl w).alloc o))
theorem Turn.setNew {a w : World} {g b : Nat} (h : Turn g a w) (hb : a.heap.size ≤ b) (p : Nat) (u : Value) : Turn g a (w.setCell ⟨b, p, none⟩ u) :=
  ⟨h.os, h.tape, h.output, by have := h.size; simpa [World.setCell] using this, fun i hi hne => (Below.heap_setCell _ _ _ _ (by simp; omega)).trans (h.block i hi hne)⟩
theorem Cur.far {w : World} {g b : Nat} (h : Cur w g) (hb : g < b) (p : Nat) (u : Value) : Cur (w.setCell ⟨b, p, none⟩ u) g := by
  obtain ⟨A, n, c, i, h, hh, h0, h1, h2, h3⟩ := h
  refine ⟨A, n, c, i, h, heap_set_ne hh (by omega) p u, h0, h1, fun hn => ?_, h3⟩
  obtain ⟨b', o, rfl, hl, hc⟩ := h2 hn
  have := h3 hn b' o rfl
  refine ⟨b', o, rfl, by simpa [World.setCell] using hl, fun j hj => ?_⟩
  obtain ⟨x, hx, hx'⟩ := hc j hj
  exact ⟨x, by rw [World.cell?_setCell_other _ _ _ _ (fun e => by injection e with e; omega)]; exact hx, hx'⟩
theorem Cur.drew {w : World} {g : Nat} (h : Cur w g) : Cur w.drew g := h.bel ((Bel.refl w).drew)
theorem Cur.alloc {w : World} {g : Nat} (h : Cur w g) (o : Obj) : Cur (w.alloc o) g := h.bel ((Bel.refl w).alloc o)
theorem BytesAt.turn {w w' : World} {A : Option Addr} {n g : Nat} (h : BytesAt w A n) (ht : Turn g w w') (hA : 0 < n → ∀ b o, A = some ⟨b, o, none⟩ → b < g) : BytesAt w' A n := by
  intro hn
  obtain ⟨b, o, rfl, hl, hc⟩ := h hn
  have hg := hA hn b o rfl
  refine ⟨b, o, rfl, Nat.lt_of_lt_of_le hl ht.size, fun j hj => ?_⟩
  obtain ⟨x, hx, h0, h1⟩ := hc j hj
  exact ⟨x, (ht.cell hl (by omega) _).trans hx, h0, h1⟩
theorem bits255k (x : Int) : 0 ≤ bits .and .i64 x 255 ∧ bits .and .i64 x 255 ≤ 255 := by
  have h : (BitVec.ofInt 64 x &&& BitVec.ofInt 64 255).toNat ≤ 255 := by
    rw [BitVec.toNat_and]
    exact Nat.and_le_right
  have e : bits .and .i64 x 255 = IntKind.i64.wrap ((BitVec.ofInt 64 x &&& BitVec.ofInt 64 255).toNat : Int) := rfl
  rw [e, IntKind.wrap_i64]
  omega
set_option maxHeartbeats 1000000 in
theorem l01Byte_calls (g : Nat) (w : World) (hcur : Cur w g) :
    Calls Try.prog 26 #[.pointer (some ⟨g, 0, none⟩)] w fun e w' => ∃ x : Int, 0 ≤ x ∧ x ≤ 255 ∧ e = .returned (.int .i64 x) ∧ Cur w' g ∧ Turn g w w' := by
  obtain ⟨A, n, c, i, h, hh, h0, h1, hby, hA⟩ := hcur
  have c0 : w.cell? ⟨g, 0, none⟩ = some (.slice A n c) := by rw [cell_of_heap hh]; rfl
  have c1 : w.cell? ⟨g, 1, none⟩ = some (.int .i64 (i : Int)) := by rw [cell_of_heap hh]; rfl
  have c2 : w.cell? ⟨g, 2, none⟩ = some (.int .i64 h) := by rw [cell_of_heap hh]; rfl
  have z1 : w.frozen? ⟨g, 1, none⟩ = false := frozen_of_heap hh _
  have z2 : w.frozen? ⟨g, 2, none⟩ = false := frozen_of_heap hh _
  have HH := Lib.hid hh
  clear hh
  by_cases hin : i < n
  · obtain ⟨b, o, rfl, hbl, hbytes⟩ := hby (by omega)
    obtain ⟨x, hx, x0, x1⟩ := hbytes i hin
    have hbg := hA (by omega) b o rfl
    have hne : b ≠ g := by omega
    have HB := Lib.hid hby
    have HA := Lib.hid hA
    clear hbytes hby hA
    go_enter Try.func26, Try.ntmps26
    go_wp2_with fail
    go_quiet (fail)
    go_wp2_with fail
    go_quiet (fail)
    go_wp2_with fail
    go_quiet (fail)
    go_wp2
    go_ret
    refine ⟨_, (bits255k _).1, (bits255k _).2, rfl, ⟨_, n, c, i + 1, _, heap_set (heap_set HH.out 2 _) 1 _, by omega, h1, HB.out.turn (g := g) ?_ HA.out, HA.out⟩, ?_⟩
    all_goals (repeat (first | (with_reducible exact Turn.refl _ _) | (with_reducible assumption) | (with_reducible refine Turn.drew ?_) | (with_reducible refine Turn.drewN ?_ _) | (with_reducible refine Turn.alloc ?_ _) | (with_reducible refine Turn.setCell ?_ _ _) | (with_reducible refine Turn.setNew ?_ (by first | (with_reducible exact Nat.le_refl _) | omega) _ _) | (with_reducible refine Turn.trans ?_ (by with_reducible assumption))))
  · have HB := Lib.hid hby
    have HA := Lib.hid hA
    clear hby hA
    go_enter Try.func26, Try.ntmps26
    go_wp2_with fail
    go_quiet (fail)
    go_wp2_with fail
    go_quiet (fail)
    go_wp2
    go_ret
    refine ⟨_, (bits255k _).1, (bits255k _).2, rfl, ⟨_, n, c, i, _, heap_set HH.out 2 _, h0, h1, HB.out.turn (g := g) ?_ HA.out, HA.out⟩, ?_⟩
    all_goals (repeat (first | (with_reducible exact Turn.refl _ _) | (with_reducible assumption) | (with_reducible refine Turn.drew ?_) | (with_reducible refine Turn.drewN ?_ _) | (with_reducible refine Turn.alloc ?_ _) | (with_reducible refine Turn.setCell ?_ _ _) | (with_reducible refine Turn.setNew ?_ (by first | (with_reducible exact Nat.le_refl _) | omega) _ _) | (with_reducible refine Turn.trans ?_ (by with_reducible assumption))))

set_option maxHeartbeats 1000000 in
theorem l01Below_calls (g : Nat) (n : Int) (w : World) (hcur : Cur w g) (hn0 : 0 < n) (hn : n ≤ 10000) :
    Calls Try.prog 16 #[.pointer (some ⟨g, 0, none⟩), .int .i64 n] w fun e w' => ∃ x : Int, 0 ≤ x ∧ x < n ∧ e = .returned (.int .i64 x) ∧ Cur w' g ∧ Turn g w w' := by
  have hne : (n == 0) = false := by simp; omega
  have hne' : ¬ n = 0 := by omega
  by_cases hle : n ≤ 256
  · go_enter Try.func16, Try.ntmps16
    go_wp2_with (go_at_call 26; refine (l01Byte_calls _ _ hcur).mono ?_; rintro e w' ⟨x, hx0, hx1, rfl, hcur, ht⟩; obtain ⟨hc, hf, hz⟩ := ht.facts; have hsz := ht.size; (try simp at hsz); (try (refine cutp (p := w.heap.size < w'.heap.size) (fun _ => ?_) ?_; rotate_left; omega)); (try (refine cutp (p := w.heap.size + 1 < w'.heap.size) (fun _ => ?_) ?_; rotate_left; omega)); (try (refine cutp (p := w.heap.size + 1 + 1 < w'.heap.size) (fun _ => ?_) ?_; rotate_left; omega)); (try (refine cutp (p := wr.heap.size < w'.heap.size) (fun _ => ?_) ?_; rotate_left; omega)); (try (refine cutp (p := wr.heap.size + 1 < w'.heap.size) (fun _ => ?_) ?_; rotate_left; omega)); (try (refine cutp (p := wr.heap.size + 1 + 1 < w'.heap.size) (fun _ => ?_) ?_; rotate_left; omega)))
    go_ret
    refine ⟨_, ?_, ?_, rfl, by assumption, by (repeat (first | (with_reducible exact Turn.refl _ _) | (with_reducible assumption) | (with_reducible refine Turn.drew ?_) | (with_reducible refine Turn.drewN ?_ _) | (with_reducible refine Turn.alloc ?_ _) | (with_reducible refine Turn.setCell ?_ _ _) | (with_reducible refine Turn.setNew ?_ (by first | (with_reducible exact Nat.le_refl _) | omega) _ _) | (with_reducible refine Turn.trans ?_ (by with_reducible assumption))))⟩
    · exact Int.emod_nonneg _ hne'
    · exact Int.emod_lt_of_pos _ hn0
  · go_enter Try.func16, Try.ntmps16
    go_wp2_with (go_at_call 26; refine (l01Byte_calls _ _ (by assumption)).mono ?_; rintro e w' ⟨x, hx0, hx1, rfl, hcur, ht⟩; obtain ⟨hc, hf, hz⟩ := ht.facts; have hsz := ht.size; (try simp at hsz); (try (refine cutp (p := w.heap.size < w'.heap.size) (fun _ => ?_) ?_; rotate_left; omega)); (try (refine cutp (p := w.heap.size + 1 < w'.heap.size) (fun _ => ?_) ?_; rotate_left; omega)); (try (refine cutp (p := w.heap.size + 1 + 1 < w'.heap.size) (fun _ => ?_) ?_; rotate_left; omega)); (try (refine cutp (p := wr.heap.size < w'.heap.size) (fun _ => ?_) ?_; rotate_left; omega)); (try (refine cutp (p := wr.heap.size + 1 < w'.heap.size) (fun _ => ?_) ?_; rotate_left; omega)); (try (refine cutp (p := wr.heap.size + 1 + 1 < w'.heap.size) (fun _ => ?_) ?_; rotate_left; omega)))
    go_ret
    refine ⟨_, ?_, ?_, rfl, by assumption, by (repeat (first | (with_reducible exact Turn.refl _ _) | (with_reducible assumption) | (with_reducible refine Turn.drew ?_) | (with_reducible refine Turn.drewN ?_ _) | (with_reducible refine Turn.alloc ?_ _) | (with_reducible refine Turn.setCell ?_ _ _) | (with_reducible refine Turn.setNew ?_ (by first | (with_reducible exact Nat.le_refl _) | omega) _ _) | (with_reducible refine Turn.trans ?_ (by with_reducible assumption))))⟩
    · exact Int.emod_nonneg _ hne'
    · exact Int.emod_lt_of_pos _ hn0
set_option maxRecDepth 100000 in
set_option maxHeartbeats 1000000 in
theorem l01New_calls (A : Option Addr) (n c : Nat) (w : World) (hby : BytesAt w A n) (hn : n ≤ 1048576) :
    Calls Try.prog 14 #[.slice A n c] w fun e w' => ∃ g, e = .returned (.pointer (some ⟨g, 0, none⟩)) ∧ w.heap.size ≤ g ∧ Cur w' g ∧ Bel w w' := by
  have HB := Lib.hid hby
  clear hby
  go_enter Try.func14, Try.ntmps14
  go_wp2_with fail
  go_loop [3, 4] (fun h i => ∃ (k : Nat) (y : Int), k ≤ n ∧ i = .int .i64 k ∧ h = .int .i64 y) (fun _ i => n - (intOf i).toNat)
  case atStart => exact ⟨0, _, Nat.zero_le _, rfl, rfl⟩
  case round =>
    obtain ⟨k, y, hk, rfl, rfl⟩ := hrel
    by_cases hlt : k < n
    · by_cases hlt2 : k < 4000
      · obtain ⟨b, o, rfl, hbl, hbytes⟩ := HB.out (by omega)
        obtain ⟨x, hx, x0, x1⟩ := hbytes k hlt
        clear hbytes
        go_wp2
        go_round
        case rel => exact ⟨k + 1, _, by omega, by go_num, rfl⟩
        case measure => simp [intOf] <;> omega
      · go_wp2
        go_ret
        refine ⟨_, rfl, Nat.le_refl _, ⟨A, n, c, 0, y, heap_alloc_new w _, Nat.zero_le _, hn, HB.out.bel (by (repeat (first | (with_reducible exact Bel.refl _) | (with_reducible assumption) | (with_reducible refine Bel.alloc ?_ _) | (with_reducible refine Bel.drew ?_) | (with_reducible refine Bel.drewN ?_ _) | (with_reducible refine Bel.setCell ?_ (by first | (with_reducible exact Nat.le_refl _) | omega | (simp; done) | (simp; omega)) _) | (with_reducible refine Bel.trans ?_ (by with_reducible assumption))))), ?_⟩, by (repeat (first | (with_reducible exact Bel.refl _) | (with_reducible assumption) | (with_reducible refine Bel.alloc ?_ _) | (with_reducible refine Bel.drew ?_) | (with_reducible refine Bel.drewN ?_ _) | (with_reducible refine Bel.setCell ?_ (by first | (with_reducible exact Nat.le_refl _) | omega | (simp; done) | (simp; omega)) _) | (with_reducible refine Bel.trans ?_ (by with_reducible assumption))))⟩
        rintro _ b o rfl
        obtain ⟨b', o', e, hbl, _⟩ := HB.out (by omega)
        injection e with e
        injection e with e1
        omega
    · go_wp2
      go_ret
      refine ⟨_, rfl, Nat.le_refl _, ⟨A, n, c, 0, y, heap_alloc_new w _, Nat.zero_le _, hn, HB.out.bel (by (repeat (first | (with_reducible exact Bel.refl _) | (with_reducible assumption) | (with_reducible refine Bel.alloc ?_ _) | (with_reducible refine Bel.drew ?_) | (with_reducible refine Bel.drewN ?_ _) | (with_reducible refine Bel.setCell ?_ (by first | (with_reducible exact Nat.le_refl _) | omega | (simp; done) | (simp; omega)) _) | (with_reducible refine Bel.trans ?_ (by with_reducible assumption))))), ?_⟩, by (repeat (first | (with_reducible exact Bel.refl _) | (with_reducible assumption) | (with_reducible refine Bel.alloc ?_ _) | (with_reducible refine Bel.drew ?_) | (with_reducible refine Bel.drewN ?_ _) | (with_reducible refine Bel.setCell ?_ (by first | (with_reducible exact Nat.le_refl _) | omega | (simp; done) | (simp; omega)) _) | (with_reducible refine Bel.trans ?_ (by with_reducible assumption))))⟩
      rintro h0 b o rfl
      obtain ⟨b', o', e, hbl, _⟩ := HB.out h0
      injection e with e
      injection e with e1
      omega

theorem laws_big (A : Option Addr) (n c : Nat) (w : World) :
    Calls Try.prog 4 #[.slice A n c] w fun e w' => e = .returned (.bool (decide (1048576 < (n : Int)))) ∧ w = w' := by
  go_enter Try.func4, Try.ntmps4
  go_wp2
  go_ret
  exact ⟨rfl, rfl⟩
end Go.Proofs.Ytkaffcdjhbaifaa
