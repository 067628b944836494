/- Spans of a bridge: the older contracts as the engine's; drawn spans. -/
import Derived.Test.YtikbndfbjgdldaaADw
import Derived.Test.YtikbndfbjgdldaaEBl
import Derived.Test.YtikbndfbjgdldaaEP
import Derived.Test.YtikbndfbjgdldaaAJt
import Derived.Test.YtikbndfbjgdldaaBridge
namespace Go.Proofs.Ytikbndfbjgdldaa
open Go.Eng Go.RowKit

def row3 (s : T3) : List AV := [vi s.a, vi s.b, vi s.c]
def row2 (r : T2) : List AV := [vi r.a, vi r.b]
abbrev sl3 (xs : List T3) : AV := .sl 3 (xs.map row3)
theorem slAt_of {I : Nat → Nat → Prop} {w : World} {xs : List T3} {v : Value} (hI : ∀ b o, I b o → (w.cell? ⟨b, o, none⟩).isSome = true) (h : drep I w (sl3 xs) v) : ∃ A c, v = .slice A xs.length c ∧ SlAt 3 f3 w A xs.length xs := by
  simp only [drep] at h
  obtain ⟨A, c, e, hr, _⟩ := h
  refine ⟨A, c, by simpa using e, rfl, fun hn => ?_⟩
  rcases hr with hr | ⟨b, o, rfl, hr⟩
  · have : xs = [] := by simpa using hr
    rw [this] at hn; simp at hn
  · have cell : ∀ i s, xs[i]? = some s → w.cell? ⟨b, o + i * 3, none⟩ = some (.int .i64 s.a) ∧ w.cell? ⟨b, o + i * 3 + 1, none⟩ = some (.int .i64 s.b) ∧ w.cell? ⟨b, o + i * 3 + 1 + 1, none⟩ = some (.int .i64 s.c) ∧ I b (o + i * 3) := fun i s hs => by
      have := (drows_get hr (i := i) (r := row3 s) (by simp [hs])).2
      simp only [row3, dcells, drep] at this
      obtain ⟨⟨z1, h1, i1, rfl⟩, ⟨z2, h2, _, rfl⟩, ⟨z3, h3, _, rfl⟩, _⟩ := this
      exact ⟨h1, h2, h3, i1⟩
    obtain ⟨x0, hx0⟩ : ∃ x, xs[0]? = some x := ⟨_, List.getElem?_eq_getElem hn⟩
    refine ⟨b, o, rfl, cell_lt (hI b _ (cell 0 x0 hx0).2.2.2), fun i s hs j hj => ?_⟩
    obtain ⟨k1, k2, k3, _⟩ := cell i s hs
    have : j = 0 ∨ j = 1 ∨ j = 2 := by omega
    rcases this with rfl | rfl | rfl
    · exact k1
    · exact k2
    · exact k3
theorem ret_bel {I : Nat → Nat → Prop} {w w' : World} (hI : ∀ b o, I b o → (w.cell? ⟨b, o, none⟩).isSome = true) (hb : Bel w w') : Ret I w ⟨I, fun _ => none, fun _ => none, fun _ => False, fun _ => 0⟩ w' :=
  ⟨⟨hb.os, hb.tape, hb.output, Bel.size hb, fun k hk _ => hb.block k hk⟩, fun _ _ h => h, fun _ _ h => .inl h, fun b o hI' => by rw [Bel.cell hb b o (cell_lt (hI b o hI'))]; exact hI b o hI', fun _ _ h => h.elim, fun _ _ _ h => h.elim⟩
theorem callOk_bel1 {P : Program} {f : Nat} {xs : List T3} {y : Value} (h : ∀ (A : Option Addr) (c : Nat) (w : World), SlAt 3 f3 w A xs.length xs → Calls P f #[.slice A xs.length c] w fun e w' => e = .returned y ∧ Bel w w') : CallOk P f [sl3 xs] (fun r => r = .v y) := by
  intro I w vals hI hd
  simp only [dreps] at hd
  obtain ⟨v, zs, e, hy, rfl⟩ := hd
  obtain ⟨A, c, rfl, hs⟩ := slAt_of hI hy
  obtain rfl : vals = #[.slice A xs.length c] := by cases vals; simp_all
  refine (h A c w hs).mono ?_
  rintro e w' ⟨rfl, hb⟩
  exact ⟨y, .v y, _, rfl, rfl, by simp [rep], ret_bel hI hb⟩
theorem cSpansOk (xs : List T3) (hn : xs.length ≤ 1048576) : CallOk Try.prog 10 [sl3 xs] (fun r => r = vb (spansB xs)) :=
  callOk_bel1 fun A c w h => impl_SpansOk A _ c xs w h hn
theorem cBridge (xs : List T3) (hn : xs.length ≤ 1048576) : CallOk Try.prog 9 [sl3 xs] (fun r => r = vb (bridgeB xs)) :=
  callOk_bel1 fun A c w h => impl_BridgeStands A _ c xs w h hn
theorem own_drows {I : Nat → Nat → Prop} {w : World} {g : Nat} : ∀ (l : List T2) (i0 : Nat), (∀ i s, l[i]? = some s → (w.cell? ⟨g, (i0 + i) * 2, none⟩ = some (.int .i64 s.a) ∧ I g ((i0 + i) * 2)) ∧ w.cell? ⟨g, (i0 + i) * 2 + 1, none⟩ = some (.int .i64 s.b) ∧ I g ((i0 + i) * 2 + 1)) → drows I w 2 g (i0 * 2) (l.map row2)
  | [], _, _ => by simp [drows]
  | s :: l, i0, h => by
    simp only [List.map_cons, drows]
    obtain ⟨⟨h1, h2⟩, h3, h4⟩ := h 0 s rfl
    rw [Nat.add_zero] at h1 h2 h3 h4
    refine ⟨⟨rfl, ?_⟩, ?_⟩
    · simp only [row2, dcells, drep]
      exact ⟨⟨_, h1, h2, rfl⟩, ⟨_, h3, h4, rfl⟩, trivial⟩
    · have := own_drows l (i0 + 1) fun i s hs => by
        have := h (i + 1) s (by simpa using hs)
        rwa [show i0 + (i + 1) = i0 + 1 + i by omega] at this
      rwa [show (i0 + 1) * 2 = i0 * 2 + 2 by omega] at this
theorem cForces (xs : List T3) (hn : xs.length ≤ 1048576) (hok : xs.all spanB = true) (h0 : 0 < xs.length) : CallOk Try.prog 30 [sl3 xs] (fun r => r = .tup [.sl 2 ((backs xs).map row2), vb ((backs xs).all rangeOk)]) := by
  intro I w vals hI hd
  simp only [dreps] at hd
  obtain ⟨v, zs, e, hy, rfl⟩ := hd
  obtain ⟨A, c, rfl, hs⟩ := slAt_of hI hy
  obtain rfl : vals = #[.slice A xs.length c] := by cases vals; simp_all
  refine (forcesFrom_calls A _ c xs w hs hn hok h0).mono ?_
  rintro e w' ⟨g, rfl, hg, ho, hb⟩
  have hbl := backs_length xs
  have hcell : ∀ i s, (backs xs)[i]? = some s → w'.cell? ⟨g, i * 2, none⟩ = some (.int .i64 s.a) ∧ w'.cell? ⟨g, i * 2 + 1, none⟩ = some (.int .i64 s.b) := fun i s hs => by
    have := ho.2 i s (List.getElem?_eq_some_iff.1 hs).1 hs
    exact ⟨this 0 (by decide), this 1 (by decide)⟩
  have hr := ret_bel hI hb
  refine ⟨_, .tup [.sl 2 ((backs xs).map row2), vb ((backs xs).all rangeOk)], ⟨fun b o => I b o ∨ (b = g ∧ (w'.cell? ⟨g, o, none⟩).isSome = true), fun _ => none, fun _ => none, fun _ => False, fun _ => 0⟩, rfl, rfl, ?_, ⟨hr.below, fun _ _ h => .inl h, fun b o h => ?_, fun b o h => ?_, fun _ _ h => h.elim, fun _ _ _ h => h.elim⟩⟩
  · simp only [rep, reps, drep]
    refine ⟨_, rfl, _, _, rfl, ⟨some ⟨g, 0, none⟩, xs.length, by simp [hbl], .inr ⟨g, 0, rfl, ?_⟩, by simp [hbl]⟩, _, _, rfl, rfl, rfl⟩
    have := own_drows (I := fun b o => I b o ∨ (b = g ∧ (w'.cell? ⟨g, o, none⟩).isSome = true)) (w := w') (g := g) (backs xs) 0 fun i s hs => by
      obtain ⟨k1, k2⟩ := hcell i s hs
      rw [Nat.zero_add]
      exact ⟨⟨k1, .inr ⟨rfl, by rw [k1]; rfl⟩⟩, k2, .inr ⟨rfl, by rw [k2]; rfl⟩⟩
    simpa using this
  · rcases h with h | ⟨rfl, _⟩
    · exact .inl h
    · exact .inr hg
  · rcases h with h | ⟨rfl, h⟩
    · exact hr.cell b o h
    · exact h
set_option maxRecDepth 100000
attribute [local irreducible] QV TV WL HW W CallOk Weak
/-- Drawn spans. -/
def SpanD (s : T3) : Prop := (0 ≤ s.a ∧ s.a < 40) ∧ (s.a ≤ s.b ∧ s.b < s.a + 20) ∧ 0 ≤ s.c ∧ s.c < 14
@[reducible] def SpansD (l : List Int) (r : AV) (cs : List AV) : Prop := ∃ xs : List T3, (1 ≤ xs.length ∧ xs.length ≤ 6) ∧ (∀ s ∈ xs, SpanD s) ∧ r = sl3 xs ∧ CurR l cs
theorem row3_cells (s : T3) : ∀ x ∈ [row3 s].flatten, isCell x = true := by
  intro x hx
  simp only [List.flatten_cons, List.flatten_nil, List.append_nil, row3, List.mem_cons, List.not_mem_nil, or_false] at hx
  rcases hx with rfl | rfl | rfl <;> rfl
theorem row3_lens (s : T3) : ∀ r ∈ [row3 s], r.length = 3 := by
  intro r hr
  simp only [List.mem_singleton] at hr
  subst hr; rfl
theorem l23List_ok (l : List Int) (hl : Bts l) (i : Nat) (h : Int) : CallPtr Try.prog 28 [.ptr 1000000 0] [slU l, vi i, vi h] (SpansD l) := by
  refine callPtr Try.func28 Try.ntmps28 Try.results28 rfl rfl rfl fun B w0 b T I0 => ?_
  (repeat (first | refine WL_nil ?_ | (apply wl0 (hd := rfl); (first | exact qv0 | exact QV_bne Try.underlying4 rfl rfl | exact QV_beq Try.underlying4 rfl rfl | exact qv1); (exact gy0)) | (apply wlb (hd := rfl); (first | exact q_box rfl rfl rfl | exact q_alloc); (exact gy0); rfl) | refine wln ⟨_, rfl, rfl⟩ rfl ?_ | refine wlnu ⟨_, rfl, rfl⟩ rfl ?_ | (apply wln1 (hd := rfl); exact q_buildSlice 7 rfl rfl rfl rfl; (exact gy0); rfl) | refine wst rfl rfl rfl List.not_mem_nil rfl rfl rfl rfl rfl rfl ?_ | refine W_seq ?_ | refine W_condT rfl ?_ | refine W_condF rfl ?_ | refine W_region ?_ | refine W_skip ?_ | refine W_ret ?_ | refine W_block ?_ | refine W_exit ?_))
  refine wldraw (l01Below_ok l hl 6 (by decide) (by decide) i h) rfl (by repeat' (first | exact PtA.nil | refine PtA.ptr ?_ | refine PtA.v ?_)) rfl rfl List.not_mem_nil rfl (fun n i1 h1 hn0 hn1 => ?_)
  obtain ⟨n, rfl⟩ : ∃ m : Nat, n = m := ⟨n.toNat, by omega⟩
  (repeat (first | refine WL_nil ?_ | (apply wl0 (hd := rfl); (first | exact qv0 | exact QV_bne Try.underlying4 rfl rfl | exact QV_beq Try.underlying4 rfl rfl | exact qv1); (exact gy0)) | (apply wlb (hd := rfl); (first | exact q_box rfl rfl rfl | exact q_alloc); (exact gy0); rfl) | refine wln ⟨_, rfl, rfl⟩ rfl ?_ | refine wlnu ⟨_, rfl, rfl⟩ rfl ?_ | refine wst rfl rfl rfl List.not_mem_nil rfl rfl rfl rfl rfl rfl ?_ | refine W_seq ?_ | refine W_condT rfl ?_ | refine W_condF rfl ?_ | refine W_region ?_ | refine W_skip ?_ | refine W_ret ?_ | refine W_block ?_ | refine W_exit ?_))
  refine W_loop (fun m s => ∃ (k : Nat) (xs : List T3) (rows : List (List AV)) (i : Nat) (h : Int), k ≤ n + 1 ∧ m = n + 1 - k ∧ xs.length = k ∧ (∀ s ∈ xs, SpanD s) ∧ rows = xs.map row3 ∧ s = ⟨[(0, .ptr 1000000 0), (3, .own 7 30 3 rows), (4, vi (1 + (n : Int))), (5, vi k)], [(1000000, [slU l, vi i, vi h])], [7]⟩) ⟨_, _, ⟨0, [], [], i1, h1, by omega, rfl, rfl, by simp, rfl, rfl⟩, (weak_mk (by repeat' (first | exact trivial | refine And.intro ?_ ?_ | exact Le.refl | exact Le.nilOwn rfl | exact Le.nilSl | exact Le.ownSl | exact Le.top)) (by repeat' (first | exact trivial | refine And.intro ?_ ?_ | exact ⟨_, rfl, Les.refl _⟩ | exact ⟨_, rfl, by repeat' (first | exact Les.nil | exact Les.cons Le.refl (Les.refl _) | refine Les.cons (by first | exact Le.top | exact Le.refl | exact Le.ownSl | exact Le.nilSl) ?_)⟩)) rfl (by repeat' (first | exact trivial | refine And.intro ?_ ?_ | exact rfl | exact refs_fill (fun _ => rfl) rfl | exact refs_map (fun _ => rfl))) (fun _ _ _ h => by first | exact h.elim | (obtain ⟨rfl, rfl, rfl⟩ := h; simp)))⟩ ?_
  rintro m s ⟨k, xs, rows, i2, h2, hk, rfl, hlen, hall, hrows, rfl⟩
  by_cases hlt : k < n + 1
  · have c1 : abin .lss .i64 (k : Int) (1 + (n : Int)) = some (.bool true) := by simp [abin]; omega
    (repeat (first | refine WL_nil ?_ | (apply wl0 (hd := rfl); (first | exact QV_bin rfl rfl c1 | exact qv0 | exact QV_bne Try.underlying4 rfl rfl | exact QV_beq Try.underlying4 rfl rfl | exact qv1); (exact gy0)) | (apply wlb (hd := rfl); (first | exact q_box rfl rfl rfl | exact q_alloc); (exact gy0); rfl) | refine wln ⟨_, rfl, rfl⟩ rfl ?_ | refine wlnu ⟨_, rfl, rfl⟩ rfl ?_ | refine wst rfl rfl rfl List.not_mem_nil rfl rfl rfl rfl rfl rfl ?_ | refine W_seq ?_ | refine W_condT rfl ?_ | refine W_condF rfl ?_ | refine W_region ?_ | refine W_skip ?_ | refine W_ret ?_ | refine W_block ?_ | refine W_exit ?_))
    refine wldraw (l01Below_ok l hl 40 (by decide) (by decide) i2 h2) rfl (by repeat' (first | exact PtA.nil | refine PtA.ptr ?_ | refine PtA.v ?_)) rfl rfl List.not_mem_nil rfl (fun a i3 h3 ha0 ha1 => ?_)
    (repeat (first | refine WL_nil ?_ | (apply wl0 (hd := rfl); (first | exact qv0 | exact QV_bne Try.underlying4 rfl rfl | exact QV_beq Try.underlying4 rfl rfl | exact qv1); (exact gy0)) | (apply wlb (hd := rfl); (first | exact q_box rfl rfl rfl | exact q_alloc); (exact gy0); rfl) | refine wln ⟨_, rfl, rfl⟩ rfl ?_ | refine wlnu ⟨_, rfl, rfl⟩ rfl ?_ | refine wst rfl rfl rfl List.not_mem_nil rfl rfl rfl rfl rfl rfl ?_ | refine W_seq ?_ | refine W_condT rfl ?_ | refine W_condF rfl ?_ | refine W_region ?_ | refine W_skip ?_ | refine W_ret ?_ | refine W_block ?_ | refine W_exit ?_))
    refine wldraw (l01Below_ok l hl 20 (by decide) (by decide) i3 h3) rfl (by repeat' (first | exact PtA.nil | refine PtA.ptr ?_ | refine PtA.v ?_)) rfl rfl List.not_mem_nil rfl (fun b i4 h4 hb0 hb1 => ?_)
    (repeat (first | refine WL_nil ?_ | (apply wl0 (hd := rfl); (first | exact qv0 | exact QV_bne Try.underlying4 rfl rfl | exact QV_beq Try.underlying4 rfl rfl | exact qv1); (exact gy0)) | (apply wlb (hd := rfl); (first | exact q_box rfl rfl rfl | exact q_alloc); (exact gy0); rfl) | refine wln ⟨_, rfl, rfl⟩ rfl ?_ | refine wlnu ⟨_, rfl, rfl⟩ rfl ?_ | refine wst rfl rfl rfl List.not_mem_nil rfl rfl rfl rfl rfl rfl ?_ | refine W_seq ?_ | refine W_condT rfl ?_ | refine W_condF rfl ?_ | refine W_region ?_ | refine W_skip ?_ | refine W_ret ?_ | refine W_block ?_ | refine W_exit ?_))
    refine wldraw (l01Below_ok l hl 14 (by decide) (by decide) i4 h4) rfl (by repeat' (first | exact PtA.nil | refine PtA.ptr ?_ | refine PtA.v ?_)) rfl rfl List.not_mem_nil rfl (fun c i5 h5 hc0 hc1 => ?_)
    have hr : rows.length + [row3 ⟨a, a + b, c⟩].length ≤ 1048576 := by rw [hrows, List.length_map, hlen]; simp; omega
    (repeat (first | refine WL_nil ?_ | (apply wl0 (hd := rfl); (first | exact qv0 | exact QV_bne Try.underlying4 rfl rfl | exact QV_beq Try.underlying4 rfl rfl | exact qv1); (exact gy0)) | (apply wlb (hd := rfl); (first | exact q_box rfl rfl rfl | exact q_alloc); (exact gy0); rfl) | refine wln ⟨_, rfl, rfl⟩ rfl ?_ | refine wlnu ⟨_, rfl, rfl⟩ rfl ?_ | (apply wln1 (hd := rfl); exact q_buildSlice 27 rfl rfl rfl rfl; (exact gy0); rfl) | refine wst rfl rfl rfl List.not_mem_nil rfl rfl rfl rfl rfl rfl ?_ | refine wapp (rows2 := [row3 ⟨a, a + b, c⟩]) rfl rfl rfl (row3_cells _) (row3_lens _) hr rfl rfl rfl rfl ?_ | refine W_seq ?_ | refine W_condT rfl ?_ | refine W_condF rfl ?_ | refine W_region ?_ | refine W_skip ?_ | refine W_ret ?_ | refine W_block ?_ | refine W_exit ?_))
    refine Exists.intro _ (Exists.intro _ ⟨?_, ⟨k + 1, xs ++ [⟨a, a + b, c⟩], rows ++ [row3 ⟨a, a + b, c⟩], i5, h5, by omega, rfl, by simp [hlen], fun s hs => by rcases List.mem_append.1 hs with h9 | h9; exact hall s h9; rw [List.mem_singleton.1 h9]; exact ⟨⟨ha0, ha1⟩, by simp only; omega, hc0, hc1⟩, by rw [hrows]; simp, rfl⟩, (weak_mk (by repeat' (first | exact trivial | refine And.intro ?_ ?_ | exact Le.refl | exact Le.nilOwn rfl | exact Le.nilSl | exact Le.ownSl | exact Le.top)) (by repeat' (first | exact trivial | refine And.intro ?_ ?_ | exact ⟨_, rfl, Les.refl _⟩ | exact ⟨_, rfl, by repeat' (first | exact Les.nil | exact Les.cons Le.refl (Les.refl _) | refine Les.cons (by first | exact Le.top | exact Le.refl | exact Le.ownSl | exact Le.nilSl) ?_)⟩)) rfl (by repeat' (first | exact trivial | refine And.intro ?_ ?_ | exact rfl | exact refs_fill (fun _ => rfl) rfl | exact refs_map (fun _ => rfl))) (fun _ _ _ h => by first | exact h.elim | (obtain ⟨rfl, rfl, rfl⟩ := h; simp)))⟩)
    omega
  · have c1 : abin .lss .i64 (k : Int) (1 + (n : Int)) = some (.bool false) := by simp [abin]; omega
    (repeat (first | refine WL_nil ?_ | (apply wl0 (hd := rfl); (first | exact QV_bin rfl rfl c1 | exact qv0 | exact QV_bne Try.underlying4 rfl rfl | exact QV_beq Try.underlying4 rfl rfl | exact qv1); (exact gy0)) | (apply wlb (hd := rfl); (first | exact q_box rfl rfl rfl | exact q_alloc); (exact gy0); rfl) | refine wln ⟨_, rfl, rfl⟩ rfl ?_ | refine wlnu ⟨_, rfl, rfl⟩ rfl ?_ | refine wst rfl rfl rfl List.not_mem_nil rfl rfl rfl rfl rfl rfl ?_ | refine W_seq ?_ | refine W_condT rfl ?_ | refine W_condF rfl ?_ | refine W_region ?_ | refine W_skip ?_ | refine W_ret ?_ | refine W_block ?_ | refine W_exit ?_))
    refine ptrEnd (s' := ⟨[(2, .sl 3 rows)], [(1000000, [slU l, vi i2, vi h2])], []⟩) (weak_mk (by repeat' (first | exact trivial | refine And.intro ?_ ?_ | exact Le.refl | exact Le.nilOwn rfl | exact Le.nilSl | exact Le.ownSl | exact Le.top)) (by repeat' (first | exact trivial | refine And.intro ?_ ?_ | exact ⟨_, rfl, Les.refl _⟩ | exact ⟨_, rfl, by repeat' (first | exact Les.nil | exact Les.cons Le.refl (Les.refl _) | refine Les.cons (by first | exact Le.top | exact Le.refl | exact Le.ownSl | exact Le.nilSl) ?_)⟩)) rfl (by repeat' (first | exact trivial | refine And.intro ?_ ?_ | exact rfl | exact refs_fill (fun _ => rfl) rfl | exact refs_map (fun _ => rfl))) (fun _ _ _ h => by first | exact h.elim | (obtain ⟨rfl, rfl, rfl⟩ := h; simp))) (resA_tmp rfl rfl) rfl rfl rfl ?_
    exact ⟨xs, by omega, hall, by rw [hrows]; rfl, i2, h2, rfl⟩
theorem drawSpans_ok (l : List Int) (hl : Bts l) : CallOk Try.prog 7 [slU l] (fun r => ∃ xs : List T3, (1 ≤ xs.length ∧ xs.length ≤ 6) ∧ (∀ s ∈ xs, SpanD s) ∧ r = sl3 xs) := by
  refine callOk Try.func7 Try.ntmps7 Try.results7 rfl rfl rfl fun B w0 I0 => ?_
  (repeat (first | refine WL_nil ?_ | (apply wl0 (hd := rfl); (first | exact qv0 | exact QV_bne Try.underlying4 rfl rfl | exact QV_beq Try.underlying4 rfl rfl | exact qv1); (exact gy0)) | (apply wlb (hd := rfl); (first | exact q_box rfl rfl rfl | exact q_alloc); (exact gy0); rfl) | refine wln ⟨_, rfl, rfl⟩ rfl ?_ | refine wlnu ⟨_, rfl, rfl⟩ rfl ?_ | refine wst rfl rfl rfl List.not_mem_nil rfl rfl rfl rfl rfl rfl ?_ | refine W_seq ?_ | refine W_condT rfl ?_ | refine W_condF rfl ?_ | refine W_region ?_ | refine W_skip ?_ | refine W_ret ?_ | refine W_block ?_ | refine W_exit ?_))
  refine wlmake 77 (l01New_ok l hl) rfl (by (repeat' (first | exact LeDs.nil | refine LeDs.cons (by first | exact LeD.v | exact LeD.sl | exact LeD.own | exact LeD.nil | exact LeD.top) ?_ | refine LeDs.agg ?_ ?_)); first | done | fail "open") rfl rfl (fun cs hR => ?_)
  obtain ⟨i, h, rfl⟩ := hR
  (repeat (first | refine WL_nil ?_ | (apply wl0 (hd := rfl); (first | exact qv0 | exact QV_bne Try.underlying4 rfl rfl | exact QV_beq Try.underlying4 rfl rfl | exact qv1); (exact gy0)) | (apply wlb (hd := rfl); (first | exact q_box rfl rfl rfl | exact q_alloc); (exact gy0); rfl) | refine wln ⟨_, rfl, rfl⟩ rfl ?_ | refine wlnu ⟨_, rfl, rfl⟩ rfl ?_ | refine wst rfl rfl rfl List.not_mem_nil rfl rfl rfl rfl rfl rfl ?_ | refine W_seq ?_ | refine W_condT rfl ?_ | refine W_condF rfl ?_ | refine W_region ?_ | refine W_skip ?_ | refine W_ret ?_ | refine W_block ?_ | refine W_exit ?_))
  refine wlptr 0 [] (l23List_ok l hl i h) rfl (by repeat' (first | exact PtA.nil | refine PtA.ptr ?_ | refine PtA.v ?_)) rfl rfl List.not_mem_nil (fun r cs ⟨_, _, _, hr, i, h, hc⟩ => by subst hr; subst hc; exact ⟨rfl, rfl⟩) rfl rfl (fun r cs hR => ?_)
  obtain ⟨xs, h1, h2, rfl, i1, h3, rfl⟩ := hR
  (repeat (first | refine WL_nil ?_ | (apply wl0 (hd := rfl); (first | exact qv0 | exact QV_bne Try.underlying4 rfl rfl | exact QV_beq Try.underlying4 rfl rfl | exact qv1); (exact gy0)) | (apply wlb (hd := rfl); (first | exact q_box rfl rfl rfl | exact q_alloc); (exact gy0); rfl) | refine wln ⟨_, rfl, rfl⟩ rfl ?_ | refine wlnu ⟨_, rfl, rfl⟩ rfl ?_ | refine wst rfl rfl rfl List.not_mem_nil rfl rfl rfl rfl rfl rfl ?_ | refine W_seq ?_ | refine W_condT rfl ?_ | refine W_condF rfl ?_ | refine W_region ?_ | refine W_skip ?_ | refine W_ret ?_ | refine W_block ?_ | refine W_exit ?_))
  refine Exists.intro _ ⟨Weak.refl _, Exists.intro _ ⟨resA_tmp rfl rfl, ?_, rfl⟩⟩
  exact ⟨xs, h1, h2, rfl⟩
end Go.Proofs.Ytikbndfbjgdldaa
