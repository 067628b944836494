/- Walks of the functions on bridges. -/
import Derived.Test.YtikbndfbjgdldaaSpans
import Derived.RegionTactic
import Derived.BigRegion
import Derived.Deep.QuietTactic
import Derived.BigQuiet
import Derived.Deep.CutRange
namespace Go.Proofs.Ytikbndfbjgdldaa
open Go.ChangeShapes Go.WideShapes Go.ChangeAt Go.RowKit

def maxI (a b : Int) : Int := if a < b then b else a
def minI (a b : Int) : Int := if b < a then b else a
def pairV (r : T2) : Array Value := #[.int .i64 (r.a), .int .i64 (r.b)]
set_option maxHeartbeats 400000 in
theorem narrow_calls (g p : Nat) (lo hi x y c : Int) (w : World) (h0 : w.cell? ⟨g, p, none⟩ = some (.int .i64 lo)) (h1 : w.cell? ⟨g, p + 1, none⟩ = some (.int .i64 hi)) (z0 : w.frozen? ⟨g, p, none⟩ = false) (z1 : w.frozen? ⟨g, p + 1, none⟩ = false)
    (hg : g < w.heap.size) (hx0 : -100000 ≤ x) (hx1 : x ≤ 100000) (hy0 : -100000 ≤ y) (hy1 : y ≤ 100000) (hc0 : 0 ≤ c) (hc1 : c ≤ 10000) :
    Calls Try.prog 31 #[.pointer (some ⟨g, p, none⟩), .agg #[.int .i64 x, .int .i64 y], .int .i64 c] w fun e w' => e = .returned (.tuple #[]) ∧
      (((w.setCell ⟨g, p, none⟩ (.int .i64 (maxI lo (x - c)))).setCell ⟨g, p + 1, none⟩ (.int .i64 (minI hi (y + c)))).alloc (.cells #[.int .i64 x, .int .i64 y] 66)).drew = w' := by
  have hg1 : g ≤ w.heap.size := by omega
  have hgn : g ≠ w.heap.size := by omega
  unfold maxI minI
  go_enter Try.func31, Try.ntmps31
  go_wp2_with fail
  go_region
  go_wp2
  all_goals (go_end0; exact ⟨rfl, rfl⟩)

/-- One step from the back: the forces of a span that go with those of the next one. -/
def narrowI (s : T3) (r : T2) : T2 := ⟨maxI s.a (r.a - s.c), minI s.b (r.b + s.c)⟩
def backs : List T3 → List T2
  | [] => []
  | [s] => [⟨s.a, s.b⟩]
  | s :: t :: l => narrowI s ((backs (t :: l)).headD default) :: backs (t :: l)
def rangeOk (r : T2) : Bool := decide (r.a ≤ r.b)
theorem backs_length : ∀ xs : List T3, (backs xs).length = xs.length
  | [] => rfl
  | [_] => rfl
  | s :: t :: l => by rw [backs, List.length_cons, backs_length (t :: l)]; rfl
theorem backs_last {xs : List T3} {i : Nat} {s : T3} (hs : xs[i]? = some s) (hi : i + 1 = xs.length) : (backs xs)[i]? = some ⟨s.a, s.b⟩ := by
  induction xs generalizing i with
  | nil => simp at hs
  | cons t l ih =>
    cases l with
    | nil => obtain rfl : i = 0 := by simpa using hi
             simp at hs; subst hs; rfl
    | cons u l =>
      cases i with
      | zero => simp at hi
      | succ i => rw [backs]; simpa using ih (by simpa using hs) (by simpa using hi)
theorem backs_step {xs : List T3} {i : Nat} {s : T3} {r : T2} (hs : xs[i]? = some s) (hr : (backs xs)[i + 1]? = some r) : (backs xs)[i]? = some (narrowI s r) := by
  induction xs generalizing i with
  | nil => simp at hs
  | cons t l ih =>
    cases l with
    | nil => simp [backs] at hr
    | cons u l =>
      cases i with
      | zero =>
        simp at hs; subst hs
        rw [backs] at hr ⊢
        have h0 : (backs (u :: l))[0]? = some r := by simpa using hr
        have : (backs (u :: l)).headD default = r := by
          cases h : backs (u :: l) with
          | nil => rw [h] at h0; simp at h0
          | cons x y => rw [h] at h0; simpa using h0
        show some (narrowI t ((backs (u :: l)).headD default)) = _
        rw [this]
      | succ i => rw [backs] at hr ⊢; simpa using ih (by simpa using hs) (by simpa using hr)
theorem backs_bound {xs : List T3} (h : xs.all spanB = true) : ∀ r ∈ backs xs, -100000 ≤ r.a ∧ r.a ≤ 10000 ∧ 0 ≤ r.b ∧ r.b ≤ 100000 := by
  induction xs with
  | nil => simp [backs]
  | cons t l ih =>
    simp only [List.all_cons, Bool.and_eq_true] at h
    have ht := h.1
    simp only [spanB, Bool.and_eq_true, inR_true] at ht
    cases l with
    | nil => intro r hr; simp [backs] at hr; subst hr; simp only; omega
    | cons u l =>
      intro r hr
      rw [backs] at hr
      simp only [List.mem_cons] at hr
      rcases hr with rfl | hr
      · cases hb : backs (u :: l) with
        | nil => have := backs_length (u :: l); rw [hb] at this; simp at this
        | cons x y =>
          have hx := ih h.2 x (by rw [hb]; simp)
          simp only [narrowI, maxI, minI, List.headD_cons]
          omega
      · exact ih h.2 r hr
theorem span_bound {xs : List T3} {i : Nat} {s : T3} (h : xs.all spanB = true) (hs : xs[i]? = some s) : 0 ≤ s.a ∧ s.b ≤ 10000 ∧ 0 ≤ s.c ∧ s.c ≤ 10000 := by
  have := List.all_eq_true.1 h s (List.mem_of_getElem? hs)
  simp only [spanB, Bool.and_eq_true, inR_true] at this
  omega
/-- A row of the call's own that is filled from its end: the elements from i on are those of rs. -/
def FillB (w : World) (g : Nat) (E : TypeId) (rs : List T2) (i : Nat) : Prop :=
  (∃ arr, w.heap[g]? = some (.cells arr E (0, 0)) ∧ rs.length * 2 ≤ arr.size) ∧ ∀ j r, i ≤ j → rs[j]? = some r → w.cell? ⟨g, j * 2, none⟩ = some (.int .i64 (r.a)) ∧ w.cell? ⟨g, j * 2 + 1, none⟩ = some (.int .i64 (r.b))
theorem FillB.room {w : World} {g : Nat} {E : TypeId} {rs : List T2} {i : Nat} (h : FillB w g E rs i) (k : Nat) (hk : k < rs.length) :
    ∃ v0 v1, w.cell? ⟨g, k * 2, none⟩ = some v0 ∧ w.cell? ⟨g, k * 2 + 1, none⟩ = some v1 ∧ w.frozen? ⟨g, k * 2, none⟩ = false ∧ w.frozen? ⟨g, k * 2 + 1, none⟩ = false ∧ g < w.heap.size := by
  obtain ⟨⟨arr, ha, hs⟩, _⟩ := h
  exact ⟨arr[k * 2]'(by omega), arr[k * 2 + 1]'(by omega), by rw [cell_of_heap ha]; exact Array.getElem?_eq_getElem (by omega), by rw [cell_of_heap ha]; exact Array.getElem?_eq_getElem (by omega), frozen_of_heap ha _, frozen_of_heap ha _, heap_lt ha⟩
/-- The element behind the one that is being written, as it reads ahead of and behind the store. -/
theorem FillB.next {w : World} {g : Nat} {E : TypeId} {rs : List T2} {k : Nat} (h : FillB w g E rs (k + 1)) (hk : k + 1 < rs.length) (u v : Value) :
    ∃ r, Hid (rs[k + 1]? = some r) ∧ w.cell? ⟨g, (k + 1) * 2, none⟩ = some (.int .i64 (r.a)) ∧ w.cell? ⟨g, (k + 1) * 2 + 1, none⟩ = some (.int .i64 (r.b)) ∧
      ((w.setCell ⟨g, k * 2, none⟩ u).setCell ⟨g, k * 2 + 1, none⟩ v).cell? ⟨g, (k + 1) * 2, none⟩ = some (.int .i64 (r.a)) ∧ ((w.setCell ⟨g, k * 2, none⟩ u).setCell ⟨g, k * 2 + 1, none⟩ v).cell? ⟨g, (k + 1) * 2 + 1, none⟩ = some (.int .i64 (r.b)) := by
  have hr : rs[k + 1]? = some rs[k + 1] := List.getElem?_eq_getElem hk
  obtain ⟨h0, h1⟩ := h.2 _ _ (Nat.le_refl _) hr
  exact ⟨rs[k + 1], hr, h0, h1, by rw [cell_set, cell_set, if_neg (by omega), if_neg (by omega), h0], by rw [cell_set, cell_set, if_neg (by omega), if_neg (by omega), h1]⟩
theorem FillB.set {w : World} {g : Nat} {E : TypeId} {rs : List T2} {i : Nat} (h : FillB w g E rs i) {p : Nat} (hp : p < i * 2) (u : Value) : FillB (w.setCell ⟨g, p, none⟩ u) g E rs i := by
  obtain ⟨⟨arr, ha, hs⟩, hc⟩ := h
  exact ⟨⟨_, heap_set ha _ _, by simpa using hs⟩, fun j r hj hr => by rw [cell_set, cell_set, if_neg (by omega), if_neg (by omega)]; exact hc j r hj hr⟩
theorem FillB.bel {w wr : World} {g : Nat} {E : TypeId} {rs : List T2} {i : Nat} (h : FillB w g E rs i) (hb : Bel w wr) : FillB wr g E rs i := by
  obtain ⟨⟨arr, ha, hs⟩, hc⟩ := h
  have hl := heap_lt ha
  exact ⟨⟨arr, heap_bel ha hb, hs⟩, fun j r hj hr => ⟨(hb.cell g _ hl).trans (hc j r hj hr).1, (hb.cell g _ hl).trans (hc j r hj hr).2⟩⟩
theorem FillB.down {w : World} {g : Nat} {E : TypeId} {rs : List T2} {k : Nat} {r : T2} (h : FillB w g E rs (k + 1)) (hr : rs[k]? = some r) (h0 : w.cell? ⟨g, k * 2, none⟩ = some (.int .i64 (r.a))) (h1 : w.cell? ⟨g, k * 2 + 1, none⟩ = some (.int .i64 (r.b))) : FillB w g E rs k := by
  refine ⟨h.1, fun j t hj ht => ?_⟩
  rcases Nat.lt_or_ge k j with hlt | hge
  · exact h.2 j t hlt ht
  · obtain rfl : j = k := by omega
    rw [hr] at ht
    injection ht with ht
    subst ht
    exact ⟨h0, h1⟩
theorem FillB.own {w : World} {g : Nat} {E : TypeId} {rs : List T2} (h : FillB w g E rs 0) : Own 2 f2 w g E rs :=
  ⟨h.1, fun j s _ hs q hq => by
    obtain ⟨h0, h1⟩ := h.2 j s (Nat.zero_le _) hs
    match q, hq with
    | 0, _ => exact h0
    | 1, _ => exact h1⟩
theorem all_drop_step {α : Type} {p : α → Bool} {xs : List α} {k : Nat} {s : α} (hs : xs[k]? = some s) : (xs.drop k).all p = (p s && (xs.drop (k + 1)).all p) := by
  have hk := (List.getElem?_eq_some_iff.1 hs)
  obtain ⟨hl, he⟩ := hk
  rw [List.drop_eq_getElem_cons hl, he]
  rfl
theorem info_forceRange : (Try.prog.info? 66).map (fun i => (i.zero, i.size, i.bytes)) = some (some (.agg #[.int .i64 0, .int .i64 0]), 2, 16) := by kernel_rfl

set_option maxHeartbeats 2000000 in
theorem forcesFrom_calls (A : Option Addr) (n c : Nat) (xs : List T3) (w : World) (h : SlAt 3 f3 w A n xs) (hn : n ≤ 1048576) (hok : xs.all spanB = true) (hn0 : 0 < n) :
    Calls Try.prog 30 #[.slice A n c] w fun e w' => ∃ g, e = .returned (.tuple #[.slice (some ⟨g, 0, none⟩) n n, .bool ((backs xs).all rangeOk)]) ∧ w.heap.size ≤ g ∧ Own 2 f2 w' g 66 (backs xs) ∧ Bel w w' := by
  obtain ⟨i0, hi0, hz0, hz1, hz2⟩ := info_parts info_forceRange
  have hmk := fun W => run_make_cells (P := Try.prog) 62 66 i0 _ Try.underlying62 hi0 hz0 n (by rw [hz2]; omega) (by omega) W
  rw [hz1] at hmk
  clear hz1 hz0 hz2 hi0
  have HOK := Lib.hid hok
  clear hok
  go_enter Try.func30, Try.ntmps30
  go_wp2_with fail
  go_loopw [5, 6] (fun o v wr => ∃ i : Nat, i ≤ n ∧ v = .int .i64 ((i : Int) - 1) ∧ o = .bool (((backs xs).drop i).all rangeOk) ∧ Hid (FillB wr w.heap.size 66 (backs xs) i) ∧ Bel w wr) (fun _ v _ => (intOf v + 1).toNat)
  case atStart =>
    refine ⟨n, Nat.le_refl _, rfl, ?_, ⟨⟨_, heap_alloc_new w _, ?_⟩, fun j r hj hr => ?_⟩, by (repeat (first | (with_reducible exact Bel.refl _) | (with_reducible assumption) | (with_reducible refine Bel.alloc ?_ _) | (with_reducible refine Bel.drew ?_) | (with_reducible refine Bel.drewN ?_ _) | (with_reducible refine Bel.setCell ?_ (by first | (with_reducible exact Nat.le_refl _) | omega | (simp; done) | (simp; omega)) _) | (with_reducible refine Bel.trans ?_ (by with_reducible assumption))))⟩
    · rw [List.drop_eq_nil_of_le (by rw [backs_length]; have := h.1; omega)]; rfl
    · rw [backs_length, ← h.1]; exact Nat.le_of_eq (size_madeCells _ _).symm
    · have := (List.getElem?_eq_some_iff.1 hr).1
      rw [backs_length, ← h.1] at this
      omega
  case round =>
    obtain ⟨i, hi, rfl, rfl, hfill, hb⟩ := hrel
    by_cases hlt : 0 < i
    · obtain ⟨k, rfl⟩ : ∃ k, i = k + 1 := ⟨i - 1, by omega⟩
      rw [show ((k + 1 : Nat) : Int) - 1 = (k : Int) by omega]
      obtain ⟨b, o, s, rfl, hs, hl, c0, c1, c2⟩ := h.get3 (i := k) hb (by omega)
      obtain ⟨ob, hob⟩ : ∃ ob, ((backs xs).drop (k + 1)).all rangeOk = ob := ⟨_, rfl⟩
      rw [hob]
      have HB := Lib.hid hob
      clear hob
      obtain ⟨v0, v1, e0, e1, z0, z1, hg⟩ := FillB.room hfill.out k (by rw [backs_length, ← h.1]; omega)
      by_cases hk : k + 1 < n
      · obtain ⟨r, hr, d0, d1, d2, d3⟩ := FillB.next hfill.out (k := k) (by rw [backs_length, ← h.1]; omega) (.int .i64 (s.a)) (.int .i64 (s.b))
        go_wp2_with fail
        have rb := backs_bound HOK.out r (List.mem_of_getElem? hr.out)
        have sb := span_bound HOK.out hs.out
        obtain ⟨rb0, rb1, rb2, rb3⟩ := rb
        obtain ⟨sb0, sb1, sb2, sb3⟩ := sb
        go_region
        go_wp2_with fail
        have q0 : (k : Int) + 1 < (n : Int) := by omega
        have q1 : IntKind.i64.wrap ((k : Int) + 1) = (k : Int) + 1 := IntWalk.i64_in _ (by omega)
        have q2 : (0 : Int) ≤ (k : Int) + 1 := by omega
        have q3 : ((k : Int) + 1).toNat = k + 1 := by omega
        go_cut [7] from 14 to 62 (fun s7 wx => s7 = .pointer (some ⟨w.heap.size, k * 2, none⟩) ∧ (((((wr.setCell ⟨w.heap.size, k * 2, none⟩ (.int .i64 (s.a))).setCell ⟨w.heap.size, k * 2 + 1, none⟩ (.int .i64 (s.b))).setCell ⟨w.heap.size, k * 2, none⟩ (.int .i64 (maxI s.a (r.a - s.c)))).setCell ⟨w.heap.size, k * 2 + 1, none⟩ (.int .i64 (minI s.b (r.b + s.c)))).alloc (.cells #[.int .i64 (r.a), .int .i64 (r.b)] 66)).drew.drew.drew = wx)
        case first =>
          go_region_with (go_at_call 31; refine (narrow_calls _ _ s.a s.b r.a r.b s.c _ (by go_simp) (by go_simp) (by go_simp) (by go_simp) (by go_simp) (by omega) (by omega) (by omega) (by omega) (by omega) (by omega)).mono ?_; rintro e w' ⟨rfl, rfl⟩)
          all_goals (go_wp2_with fail; go_meet)
          all_goals exact ⟨rfl, rfl⟩
        case rest =>
          obtain ⟨rfl, hw⟩ := hcut
          have HW := Lib.hid hw
          clear hw
          have g0 : wc.cell? ⟨w.heap.size, k * 2, none⟩ = some (.int .i64 (maxI s.a (r.a - s.c))) := by rw [← HW.out]; first | (go_simp; done) | (go_simp; simp [cell_set, e1])
          have g1 : wc.cell? ⟨w.heap.size, k * 2 + 1, none⟩ = some (.int .i64 (minI s.b (r.b + s.c))) := by rw [← HW.out]; first | (go_simp; done) | (go_simp; simp [cell_set, e1])
          clear q1 q3 d0 d1 d2 d3 e0 e1 z0 z1 c0 c1 c2
          go_wp2_with fail
          cases ob
          · have hrk := Lib.hid (backs_step hs.out hr.out)
            have hf2 := Lib.hid ((((hfill.out.set (p := k * 2) (by omega) (.int .i64 (s.a))).set (p := k * 2 + 1) (by omega) (.int .i64 (s.b))).set (p := k * 2) (by omega) (.int .i64 (maxI s.a (r.a - s.c)))).set (p := k * 2 + 1) (by omega) (.int .i64 (minI s.b (r.b + s.c))))
            go_quiet (fail)
            go_wp2
            go_roundw
            case rel => exact ⟨k, by omega, rfl, congrArg Value.bool (by rw [all_drop_step hrk.out, HB.out, Bool.eq_iff_iff]; simp [rangeOk, narrowI] <;> exact decide_eq_true_iff.symm), FillB.down (FillB.bel hf2.out (by rw [← HW.out]; (repeat (first | (with_reducible exact Bel.refl _) | (with_reducible assumption) | (with_reducible refine Bel.alloc ?_ _) | (with_reducible refine Bel.drew ?_) | (with_reducible refine Bel.drewN ?_ _) | (with_reducible refine Bel.setCell ?_ (by first | (with_reducible exact Nat.le_refl _) | omega | (simp; done) | (simp; omega)) _) | (with_reducible refine Bel.trans ?_ (by with_reducible assumption)))))) hrk.out g0 g1, by rw [← HW.out]; (repeat (first | (with_reducible exact Bel.refl _) | (with_reducible assumption) | (with_reducible refine Bel.alloc ?_ _) | (with_reducible refine Bel.drew ?_) | (with_reducible refine Bel.drewN ?_ _) | (with_reducible refine Bel.setCell ?_ (by first | (with_reducible exact Nat.le_refl _) | omega | (simp; done) | (simp; omega)) _) | (with_reducible refine Bel.trans ?_ (by with_reducible assumption))))⟩
            case measure => simp [intOf] <;> omega
          · have hrk := Lib.hid (backs_step hs.out hr.out)
            have hf2 := Lib.hid ((((hfill.out.set (p := k * 2) (by omega) (.int .i64 (s.a))).set (p := k * 2 + 1) (by omega) (.int .i64 (s.b))).set (p := k * 2) (by omega) (.int .i64 (maxI s.a (r.a - s.c)))).set (p := k * 2 + 1) (by omega) (.int .i64 (minI s.b (r.b + s.c))))
            go_quiet (fail)
            go_wp2
            go_roundw
            case rel => exact ⟨k, by omega, rfl, congrArg Value.bool (by rw [all_drop_step hrk.out, HB.out, Bool.eq_iff_iff]; simp [rangeOk, narrowI] <;> exact decide_eq_true_iff.symm), FillB.down (FillB.bel hf2.out (by rw [← HW.out]; (repeat (first | (with_reducible exact Bel.refl _) | (with_reducible assumption) | (with_reducible refine Bel.alloc ?_ _) | (with_reducible refine Bel.drew ?_) | (with_reducible refine Bel.drewN ?_ _) | (with_reducible refine Bel.setCell ?_ (by first | (with_reducible exact Nat.le_refl _) | omega | (simp; done) | (simp; omega)) _) | (with_reducible refine Bel.trans ?_ (by with_reducible assumption)))))) hrk.out g0 g1, by rw [← HW.out]; (repeat (first | (with_reducible exact Bel.refl _) | (with_reducible assumption) | (with_reducible refine Bel.alloc ?_ _) | (with_reducible refine Bel.drew ?_) | (with_reducible refine Bel.drewN ?_ _) | (with_reducible refine Bel.setCell ?_ (by first | (with_reducible exact Nat.le_refl _) | omega | (simp; done) | (simp; omega)) _) | (with_reducible refine Bel.trans ?_ (by with_reducible assumption))))⟩
            case measure => simp [intOf] <;> omega
      · have hkn : k + 1 = n := by omega
        have hrk := backs_last hs.out (by rw [hkn]; exact h.1)
        have hob : ob = true := by
          rw [← HB.out, List.drop_eq_nil_of_le (by rw [backs_length]; have := h.1; omega)]; rfl
        clear HB
        subst hob
        have q0 : ¬ (k : Int) + 1 < (n : Int) := by omega
        have HK := Lib.hid hkn
        clear hkn
        go_wp2_with fail
        go_region
        go_wp2_with fail
        go_quiet (fail)
        go_wp2
        go_roundw
        case rel =>
          have hf2 := (hfill.out.set (p := k * 2) (by omega) (.int .i64 (s.a))).set (p := k * 2 + 1) (by omega) (.int .i64 (s.b))
          have hnil : (backs xs).drop (k + 1) = [] := List.drop_eq_nil_of_le (by rw [backs_length]; have := h.1; have := HK.out; omega)
          exact ⟨k, by omega, rfl, congrArg Value.bool (by rw [all_drop_step hrk, hnil]; simp [rangeOk]), FillB.down (FillB.bel hf2 (by (repeat (first | (with_reducible exact Bel.refl _) | (with_reducible assumption) | (with_reducible refine Bel.alloc ?_ _) | (with_reducible refine Bel.drew ?_) | (with_reducible refine Bel.drewN ?_ _) | (with_reducible refine Bel.setCell ?_ (by first | (with_reducible exact Nat.le_refl _) | omega | (simp; done) | (simp; omega)) _) | (with_reducible refine Bel.trans ?_ (by with_reducible assumption)))))) hrk (by go_simp) (by go_simp), by (repeat (first | (with_reducible exact Bel.refl _) | (with_reducible assumption) | (with_reducible refine Bel.alloc ?_ _) | (with_reducible refine Bel.drew ?_) | (with_reducible refine Bel.drewN ?_ _) | (with_reducible refine Bel.setCell ?_ (by first | (with_reducible exact Nat.le_refl _) | omega | (simp; done) | (simp; omega)) _) | (with_reducible refine Bel.trans ?_ (by with_reducible assumption))))⟩
        case measure => simp [intOf] <;> omega
    · obtain rfl : i = 0 := by omega
      go_wp2
      go_ret2
      exact ⟨_, rfl, Nat.le_refl _, hfill.out.own, hb⟩

theorem info_Span2 : (Try.prog.info? 30).map (fun i => (i.zero, i.size, i.bytes)) = some (some (.agg #[.int .i64 0, .int .i64 0, .int .i64 0]), 3, 24) := by kernel_rfl
/-- The spans from m on are narrowed, the others are as they came. -/
def Mid (w : World) (g : Nat) (E : TypeId) (xs : List T3) (m : Nat) : Prop :=
  (∃ arr, w.heap[g]? = some (.cells arr E (0, 0)) ∧ xs.length * 3 ≤ arr.size) ∧ ∀ j s r, xs[j]? = some s → (backs xs)[j]? = some r →
    w.cell? ⟨g, j * 3, none⟩ = some (.int .i64 (if j < m then s.a else r.a)) ∧ w.cell? ⟨g, j * 3 + 1, none⟩ = some (.int .i64 (if j < m then s.b else r.b)) ∧ w.cell? ⟨g, j * 3 + 2, none⟩ = some (.int .i64 (s.c))
theorem Mid.bel {w wr : World} {g : Nat} {E : TypeId} {xs : List T3} {m : Nat} (h : Mid w g E xs m) (hb : Bel w wr) : Mid wr g E xs m := by
  obtain ⟨⟨arr, ha, hs⟩, hc⟩ := h
  have hl := heap_lt ha
  exact ⟨⟨arr, heap_bel ha hb, hs⟩, fun j s r hj hr => ⟨(hb.cell g _ hl).trans (hc j s r hj hr).1, (hb.cell g _ hl).trans (hc j s r hj hr).2.1, (hb.cell g _ hl).trans (hc j s r hj hr).2.2⟩⟩
theorem Mid.of_own {w : World} {g : Nat} {E : TypeId} {xs : List T3} (h : Own 3 f3 w g E xs) : Mid w g E xs (xs.length - 1) := by
  refine ⟨h.1, fun j s r hj hr => ?_⟩
  have hjl := (List.getElem?_eq_some_iff.1 hj).1
  have h0 := h.2 j s hjl hj 0 (by decide)
  have h1 := h.2 j s hjl hj 1 (by decide)
  have h2 := h.2 j s hjl hj 2 (by decide)
  by_cases hlt : j < xs.length - 1
  · rw [if_pos hlt, if_pos hlt]; exact ⟨h0, h1, h2⟩
  · have := backs_last hj (by omega)
    rw [this] at hr
    injection hr with hr
    subst hr
    rw [if_neg hlt, if_neg hlt]; exact ⟨h0, h1, h2⟩
theorem Mid.down {w : World} {g : Nat} {E : TypeId} {xs : List T3} {k : Nat} {s : T3} {r : T2} (h : Mid w g E xs (k + 1)) (hs : xs[k]? = some s) (hr : (backs xs)[k]? = some r) :
    Mid ((w.setCell ⟨g, k * 3, none⟩ (.int .i64 (r.a))).setCell ⟨g, k * 3 + 1, none⟩ (.int .i64 (r.b))) g E xs k := by
  obtain ⟨⟨arr, ha, hz⟩, hc⟩ := h
  refine ⟨⟨_, heap_set (heap_set ha _ _) _ _, by simpa using hz⟩, fun j s' r' hj hr' => ?_⟩
  simp only [cell_set]
  obtain ⟨c0, c1, c2⟩ := hc j s' r' hj hr'
  rcases Nat.lt_trichotomy j k with hlt | rfl | hgt
  · have n1 : ¬ k * 3 + 1 = j * 3 := by omega
    have n2 : ¬ k * 3 = j * 3 := by omega
    have n3 : ¬ k * 3 + 1 = j * 3 + 1 := by omega
    have n4 : ¬ k * 3 = j * 3 + 1 := by omega
    have n5 : ¬ k * 3 + 1 = j * 3 + 2 := by omega
    have n6 : ¬ k * 3 = j * 3 + 2 := by omega
    rw [if_pos (show j < k + 1 by omega)] at c0 c1
    rw [if_neg n1, if_neg n2, if_neg n3, if_neg n4, if_neg n5, if_neg n6, if_pos hlt, if_pos hlt]
    exact ⟨c0, c1, c2⟩
  · rw [hr] at hr'
    injection hr' with hr'
    subst hr'
    have n1 : ¬ j * 3 + 1 = j * 3 := by omega
    have n4 : ¬ j * 3 = j * 3 + 1 := by omega
    have n5 : ¬ j * 3 + 1 = j * 3 + 2 := by omega
    have n6 : ¬ j * 3 = j * 3 + 2 := by omega
    have n7 : ¬ j < j := by omega
    rw [if_neg n1, if_pos rfl, if_pos rfl, if_neg n4, if_neg n5, if_neg n6, if_neg n7, if_neg n7, c0, c1]
    exact ⟨rfl, rfl, c2⟩
  · have n1 : ¬ k * 3 + 1 = j * 3 := by omega
    have n2 : ¬ k * 3 = j * 3 := by omega
    have n3 : ¬ k * 3 + 1 = j * 3 + 1 := by omega
    have n4 : ¬ k * 3 = j * 3 + 1 := by omega
    have n5 : ¬ k * 3 + 1 = j * 3 + 2 := by omega
    have n6 : ¬ k * 3 = j * 3 + 2 := by omega
    have n7 : ¬ j < k := by omega
    rw [if_neg (show ¬ j < k + 1 by omega)] at c0 c1
    rw [if_neg n1, if_neg n2, if_neg n3, if_neg n4, if_neg n5, if_neg n6, if_neg n7, if_neg n7]
    exact ⟨c0, c1, c2⟩
theorem Mid.at_ {w : World} {g : Nat} {E : TypeId} {xs : List T3} {k : Nat} (h : Mid w g E xs (k + 1)) (hk : k + 1 < xs.length) (u : Value) :
    ∃ s r, Hid (xs[k]? = some s ∧ (backs xs)[k + 1]? = some r) ∧ w.cell? ⟨g, k * 3, none⟩ = some (.int .i64 (s.a)) ∧ w.cell? ⟨g, k * 3 + 1, none⟩ = some (.int .i64 (s.b)) ∧ w.cell? ⟨g, k * 3 + 2, none⟩ = some (.int .i64 (s.c)) ∧
      w.cell? ⟨g, (k + 1) * 3, none⟩ = some (.int .i64 (r.a)) ∧ (w.setCell ⟨g, k * 3, none⟩ u).cell? ⟨g, (k + 1) * 3 + 1, none⟩ = some (.int .i64 (r.b)) ∧ w.frozen? ⟨g, k * 3, none⟩ = false ∧ w.frozen? ⟨g, k * 3 + 1, none⟩ = false ∧ g < w.heap.size := by
  have hs : xs[k]? = some xs[k] := List.getElem?_eq_getElem (by omega)
  have hs1 : xs[k + 1]? = some xs[k + 1] := List.getElem?_eq_getElem hk
  have hr : (backs xs)[k]? = some ((backs xs)[k]'(by rw [backs_length]; omega)) := List.getElem?_eq_getElem _
  have hr1 : (backs xs)[k + 1]? = some ((backs xs)[k + 1]'(by rw [backs_length]; omega)) := List.getElem?_eq_getElem _
  obtain ⟨⟨arr, ha, hz⟩, hc⟩ := h
  obtain ⟨a0, a1, a2⟩ := hc _ _ _ hs hr
  obtain ⟨b0, b1, b2⟩ := hc _ _ _ hs1 hr1
  rw [if_pos (by omega)] at a0 a1
  rw [if_neg (by omega)] at b0 b1
  exact ⟨_, _, ⟨hs, hr1⟩, a0, a1, a2, b0, by rw [cell_set, if_neg (by omega)]; exact b1, frozen_of_heap ha _, frozen_of_heap ha _, heap_lt ha⟩
def bridgeB (xs : List T3) : Bool := spansB xs && (backs xs).all rangeOk
theorem spans_all {xs : List T3} (h : spansB xs = true) : xs.all spanB = true ∧ 0 < xs.length ∧ xs.length ≤ 10 := by
  simp only [spansB, Bool.and_eq_true, inR_true] at h
  exact ⟨h.2, by omega, by omega⟩
theorem impl_BridgeStands (A : Option Addr) (n c : Nat) (xs : List T3) (w : World) (h : SlAt 3 f3 w A n xs) (hn : n ≤ 1048576) :
    Calls Try.prog 9 #[.slice A n c] w fun e w' => e = .returned (.bool (bridgeB xs)) ∧ Bel w w' := by
  have H := Lib.hid h
  clear h
  by_cases hsp : spansB xs = true
  · have hal := Lib.hid (spans_all hsp)
    go_enter Try.func9, Try.ntmps9
    go_wp2_with (first | (go_at_call 10; refine (impl_SpansOk _ _ _ xs _ H.out hn).mono ?_; rintro e w' ⟨rfl, hb⟩; obtain ⟨hc, hf, hz⟩ := hb.facts) | (go_at_call 30; refine (forcesFrom_calls _ _ _ xs _ (by exact H.out.bel (by (repeat (first | (with_reducible exact Bel.refl _) | (with_reducible assumption) | (with_reducible refine Bel.alloc ?_ _) | (with_reducible refine Bel.drew ?_) | (with_reducible refine Bel.drewN ?_ _) | (with_reducible refine Bel.setCell ?_ (by first | (with_reducible exact Nat.le_refl _) | omega | (simp; done) | (simp; omega)) _) | (with_reducible refine Bel.trans ?_ (by with_reducible assumption)))))) hn hal.out.1 (by rw [H.out.1]; exact hal.out.2.1)).mono ?_; rintro e w' ⟨g, rfl, hg, ho, hb⟩; obtain ⟨hc, hf, hz⟩ := hb.facts))
    go_ret
    exact ⟨by simp [bridgeB, hsp], by (repeat (first | (with_reducible exact Bel.refl _) | (with_reducible assumption) | (with_reducible refine Bel.alloc ?_ _) | (with_reducible refine Bel.drew ?_) | (with_reducible refine Bel.drewN ?_ _) | (with_reducible refine Bel.setCell ?_ (by first | (with_reducible exact Nat.le_refl _) | omega | (simp; done) | (simp; omega)) _) | (with_reducible refine Bel.trans ?_ (by with_reducible assumption))))⟩
  · go_enter Try.func9, Try.ntmps9
    go_wp2_with (first | (go_at_call 10; refine (impl_SpansOk _ _ _ xs _ H.out hn).mono ?_; rintro e w' ⟨rfl, hb⟩; obtain ⟨hc, hf, hz⟩ := hb.facts))
    go_ret
    exact ⟨by simp [bridgeB, hsp], by (repeat (first | (with_reducible exact Bel.refl _) | (with_reducible assumption) | (with_reducible refine Bel.alloc ?_ _) | (with_reducible refine Bel.drew ?_) | (with_reducible refine Bel.drewN ?_ _) | (with_reducible refine Bel.setCell ?_ (by first | (with_reducible exact Nat.le_refl _) | omega | (simp; done) | (simp; omega)) _) | (with_reducible refine Bel.trans ?_ (by with_reducible assumption))))⟩
end Go.Proofs.Ytikbndfbjgdldaa
