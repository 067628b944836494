/- BridgeForces, LoneSpans: the program's. -/
import Derived.Test.YtikbndfbjgdldaaABr
import Derived.Test.YtikbndfbjgdldaaMBr
import Derived.Test.YtikbndfbjgdldaaEAr
import Derived.Test.YtikbndfbjgdldaaEPt
import Derived.Test.YtikbndfbjgdldaaES
import Derived.Test.YtikbndfbjgdldaaAArch
namespace Go.Proofs.Ytikbndfbjgdldaa
open Go.Eng Go.RowKit

@[reducible] def NarR (a b : Int) (r : AV) (cs : List AV) : Prop := r = .tup [] ∧ cs = [vi a, vi b]
theorem narrow_ptr (lo hi x y p : Int) (hx : -100000 ≤ x ∧ x ≤ 100000) (hy : -100000 ≤ y ∧ y ≤ 100000) (hp : 0 ≤ p ∧ p ≤ 10000) : CallPtr Try.prog 31 [.ptr 1000000 0, .agg [vi x, vi y], vi p] [vi lo, vi hi] (NarR (maxI lo (x - p)) (minI hi (y + p))) := by
  intro I w b T vals arr hI hIb hh hcs hargs
  simp only [reps, rep] at hcs hargs
  obtain ⟨_, _, e1, rfl, _, _, rfl, rfl, rfl⟩ := hcs
  obtain rfl : arr = #[.int .i64 lo, .int .i64 hi] := by cases arr; simp_all
  obtain ⟨_, _, e2, ⟨b', hb', rfl⟩, _, _, rfl, ⟨ag, rfl, _, _, e3, rfl, _, _, rfl, rfl, rfl⟩, _, _, rfl, rfl, rfl⟩ := hargs
  have : b' = b := by simpa [gP] using hb'.symm
  subst this
  obtain rfl : ag = #[.int .i64 x, .int .i64 y] := by cases ag; simp_all
  obtain rfl : vals = #[.pointer (some ⟨b', 0, none⟩), .agg #[.int .i64 x, .int .i64 y], .int .i64 p] := by cases vals; simp_all
  have hlt : b' < w.heap.size := (Array.getElem?_eq_some_iff.1 hh).1
  have c0 : w.cell? ⟨b', 0, none⟩ = some (.int .i64 lo) := by simp [World.cell?, hh]
  have c1 : w.cell? ⟨b', 0 + 1, none⟩ = some (.int .i64 hi) := by simp [World.cell?, hh]
  have z0 : w.frozen? ⟨b', 0, none⟩ = false := by simp [World.frozen?, hh]
  have z1 : w.frozen? ⟨b', 0 + 1, none⟩ = false := by simp [World.frozen?, hh]
  refine (narrow_calls b' 0 lo hi x y p w c0 c1 z0 z1 hlt hx.1 hx.2 hy.1 hy.2 hp.1 hp.2).mono ?_
  rintro e w' ⟨rfl, hw⟩
  have hheap : ∀ k, k < w.heap.size → k ≠ b' → w'.heap[k]? = w.heap[k]? := fun k hk hne => by
    rw [← hw]
    show (World.alloc _ _).heap[k]? = _
    rw [alloc_heap _ _ _ (by simpa using hk), Below.heap_setCell _ _ _ _ hne, Below.heap_setCell _ _ _ _ hne]
  have hb2 : w'.heap[b']? = some (.cells #[.int .i64 (maxI lo (x - p)), .int .i64 (minI hi (y + p))] T (0, 0)) := by
    rw [← hw]
    show (World.alloc _ _).heap[b']? = _
    rw [alloc_heap _ _ _ (by simpa using hlt), heap_set (heap_set hh 0 _) (0 + 1) _]
    simp
  refine ⟨.tuple #[], .tup [], _, _, ⟨I, fun _ => none, fun _ => none, fun _ => False, fun _ => 0⟩, rfl, ⟨rfl, rfl⟩, by simp [rep, reps], ⟨⟨by rw [← hw]; rfl, by rw [← hw]; rfl, by rw [← hw]; rfl, by rw [← hw]; show _ ≤ (World.alloc _ _).heap.size; simp <;> omega, fun k hk hne => hheap k hk hne⟩, fun _ _ h => h, fun _ _ h => .inl h, fun c o h => ?_, fun _ _ h => h.elim, fun _ _ _ h => h.elim⟩, hb2, by simp [reps, rep], hIb⟩
  have hne : c ≠ b' := fun e => hIb o (e ▸ h)
  rw [World.cell?_of_block (a := ⟨c, o, none⟩) (hheap c (cell_lt (hI c o h)) hne)]
  exact hI c o h
theorem one_cellF (n : Int) : ∀ x ∈ [[vi n]].flatten, isCell x = true := by
  intro x hx
  simp only [List.flatten_cons, List.flatten_nil, List.append_nil, List.mem_singleton] at hx
  subst hx; rfl
theorem one_lenF (n : Int) : ∀ r ∈ [[vi n]], r.length = 1 := by
  intro r hr
  simp only [List.mem_singleton] at hr
  subst hr; rfl
theorem max_maxI (a b : Int) : maxI a b = max a b := by unfold maxI; omega
theorem spans_cs {xs : List T3} (h : xs.all spanB = true) {i : Nat} (hi : i < xs.length) : (0 ≤ (atS xs i).a ∧ (atS xs i).a ≤ (atS xs i).b ∧ (atS xs i).b ≤ 10000) ∧ 0 ≤ (atS xs i).c ∧ (atS xs i).c ≤ 10000 := by
  have := List.all_eq_true.1 h _ (List.mem_of_getElem? (atS_lt hi))
  simp only [spanB, Bool.and_eq_true, inR_true] at this
  omega
set_option maxRecDepth 100000
attribute [local irreducible] QV TV WL HW W CallOk Weak
def forcesR (xs : List T3) (k : Nat) : List (List AV) := (List.range k).map fun i => [vi (force xs i)]
theorem bridgeForces_no (xs : List T3) (hsp : spansB xs = true) (hok : (backs xs).all rangeOk = false) : CallOk Try.prog 8 [sl3 xs] (fun r => r = .tup [.v (.slice none 0 0), vb false]) := by
  obtain ⟨hal, h0, h10⟩ := spans_all hsp
  have c1 := cSpansOk xs (by omega)
  rw [hsp] at c1
  have c2 := cForces xs (by omega) hal h0
  rw [hok] at c2
  refine callOk Try.func8 Try.ntmps8 Try.results8 rfl rfl rfl fun B w0 I0 => ?_
  (repeat (first | refine WL_nil ?_ | (apply wl0 (hd := rfl); (first | exact qv0 | exact QV_bne Try.underlying4 rfl rfl | exact QV_beq Try.underlying4 rfl rfl | exact qv1 | exact q_callA (c1) | exact q_callA (c2)); (exact gy0)) | (apply wlb (hd := rfl); (first | exact q_box rfl rfl rfl | exact q_alloc); (exact gy0); rfl) | refine wln ⟨_, rfl, rfl⟩ rfl ?_ | refine wlnu ⟨_, rfl, rfl⟩ rfl ?_ | refine wst rfl rfl rfl List.not_mem_nil rfl rfl rfl rfl rfl rfl ?_ | refine W_seq ?_ | refine W_condT rfl ?_ | refine W_condF rfl ?_ | refine W_region ?_ | refine W_skip ?_ | refine W_ret ?_ | refine W_block ?_ | refine W_exit ?_))
  refine Exists.intro _ ⟨Weak.refl _, Exists.intro _ ⟨resA_tmp rfl (resA_tmp rfl rfl), ?_, rfl⟩⟩
  rfl
theorem bridgeForces_yes (xs : List T3) (hsp : spansB xs = true) (hok : (backs xs).all rangeOk = true) : CallOk Try.prog 8 [sl3 xs] (fun r => r = .tup [.sl 1 (forcesR xs xs.length), vb true]) := by
  obtain ⟨hal, h0, h10⟩ := spans_all hsp
  have hbl := backs_length xs
  have c1 := cSpansOk xs (by omega)
  rw [hsp] at c1
  have c2 := cForces xs (by omega) hal h0
  rw [hok] at c2
  have hcs : ∀ i, i < xs.length → 0 ≤ (atS xs i).c := fun i hi => (spans_cs hal hi).2.1
  refine callOk_dat (X := .tup [.own 20 3 1 (forcesR xs xs.length), vb true]) ?_ rfl
  refine callOk Try.func8 Try.ntmps8 Try.results8 rfl rfl rfl fun B w0 I0 => ?_
  (repeat (first | refine WL_nil ?_ | (apply wl0 (hd := rfl); (first | exact qv0 | exact QV_bne Try.underlying4 rfl rfl | exact QV_beq Try.underlying4 rfl rfl | exact qv1 | exact q_callA (c1) | exact q_callA (c2)); (exact gy0)) | (apply wlb (hd := rfl); (first | exact q_box rfl rfl rfl | exact q_alloc); (exact gy0); rfl) | refine wln ⟨_, rfl, rfl⟩ rfl ?_ | refine wlnu ⟨_, rfl, rfl⟩ rfl ?_ | refine wst rfl rfl rfl List.not_mem_nil rfl rfl rfl rfl rfl rfl ?_ | refine W_seq ?_ | refine W_condT rfl ?_ | refine W_condF rfl ?_ | refine W_region ?_ | refine W_skip ?_ | refine W_ret ?_ | refine W_block ?_ | refine W_exit ?_))
  refine W_loop (fun n s => ∃ (k : Nat) (rows : List (List AV)), k ≤ xs.length ∧ n = xs.length - k ∧ rows = forcesR xs k ∧ s = ⟨[(0, sl3 xs), (6, .own 20 3 1 rows), (19, .sl 2 ((backs xs).map row2)), (20, vi (backs xs).length), (21, vi k)], [], [20]⟩) ⟨_, _, ⟨0, [], by omega, rfl, rfl, rfl⟩, (weak_mk (by repeat' (first | exact trivial | refine And.intro ?_ ?_ | exact Le.refl | exact Le.nilOwn rfl | exact Le.nilSl | exact Le.ownSl | exact Le.top)) (by repeat' (first | exact trivial | refine And.intro ?_ ?_ | exact ⟨_, rfl, Les.refl _⟩)) rfl (by repeat' (first | exact trivial | refine And.intro ?_ ?_ | exact rfl)) (fun _ _ _ h => by first | exact h.elim | (obtain ⟨rfl, rfl, rfl⟩ := h; simp)))⟩ ?_
  rintro n s ⟨k, rows, hk, rfl, hrows, rfl⟩
  have hrl : rows.length = k := by rw [hrows, forcesR]; simp
  by_cases hlt : k < xs.length
  · have c3 : abin .lss .i64 (k : Int) ((backs xs).length : Int) = some (.bool true) := by simp [abin]; omega
    have hr := atR_lt (rs := backs xs) (i := k) (by omega)
    cases k with
    | zero =>
      have c4 : abin .gtr .i64 ((0 : Nat) : Int) 0 = some (.bool false) := rfl
      have hw : rows.length + [[vi (force xs 0)]].length ≤ 1048576 := by simp [hrl]
      (repeat (first | refine WL_nil ?_ | (apply wl0 (hd := rfl); (first | exact QV_bin rfl rfl c3 | exact QV_bin rfl rfl c4 | exact qv0 | exact QV_bne Try.underlying4 rfl rfl | exact QV_beq Try.underlying4 rfl rfl | exact qv1 | exact QV_indexAddr rfl rfl rfl rfl (row_at hr)); (exact gy0)) | (apply wlb (hd := rfl); (first | exact q_box rfl rfl rfl | exact q_alloc); (exact gy0); rfl) | refine wln ⟨_, rfl, rfl⟩ rfl ?_ | refine wlnu ⟨_, rfl, rfl⟩ rfl ?_ | (apply wln1 (hd := rfl); exact q_buildSlice 49 rfl rfl rfl rfl; (exact gy0); rfl) | refine wst rfl rfl rfl List.not_mem_nil rfl rfl rfl rfl rfl rfl ?_ | refine wapp (rows2 := [[vi (force xs 0)]]) rfl rfl rfl (one_cellF _) (one_lenF _) hw rfl rfl rfl rfl ?_ | refine W_seq ?_ | refine W_condT rfl ?_ | refine W_condF rfl ?_ | refine W_region ?_ | refine W_skip ?_ | refine W_ret ?_ | refine W_block ?_ | refine W_exit ?_))
      refine Exists.intro _ (Exists.intro _ ⟨?_, ⟨1, rows ++ [[vi (force xs 0)]], by omega, rfl, by rw [hrows]; rfl, rfl⟩, (weak_mk (by repeat' (first | exact trivial | refine And.intro ?_ ?_ | exact Le.refl | exact Le.nilOwn rfl | exact Le.nilSl | exact Le.ownSl | exact Le.top)) (by repeat' (first | exact trivial | refine And.intro ?_ ?_ | exact ⟨_, rfl, Les.refl _⟩ | exact ⟨_, rfl, by repeat' (first | exact Les.nil | exact Les.cons Le.refl (Les.refl _) | refine Les.cons (by first | exact Le.top | exact Le.refl | exact Le.ownSl | exact Le.nilSl) ?_)⟩)) rfl (by repeat' (first | exact trivial | refine And.intro ?_ ?_ | exact rfl | exact refs_fill (fun _ => rfl) rfl | exact refs_map (fun _ => rfl))) (fun _ _ _ h => by first | exact h.elim | (obtain ⟨rfl, rfl, rfl⟩ := h; simp)))⟩)
      omega
    | succ j =>
      have c4 : abin .gtr .i64 ((j + 1 : Nat) : Int) 0 = some (.bool true) := by simp [abin] <;> omega
      have hs := atS_lt (xs := xs) (i := j) (by omega)
      have hb := spans_cs hal (i := j) (by omega)
      have hf := force_in hok hcs j (by omega)
      have hrb := backs_bound hal _ (List.mem_of_getElem? (atR_lt (rs := backs xs) (i := j) (by omega)))
      have hrow : rows[j]? = some [vi (force xs j)] := by rw [hrows, forcesR]; simp
      have cn := narrow_ptr (atR (backs xs) (j + 1)).a (atR (backs xs) (j + 1)).b (force xs j) (force xs j) (atS xs j).c (by omega) (by omega) hb.2
      rw [max_maxI] at cn
      have hw : rows.length + [[vi (force xs (j + 1))]].length ≤ 1048576 := by simp only [List.length_cons, List.length_nil]; omega
      (repeat (first | refine WL_nil ?_ | (apply wl0 (hd := rfl); (first | exact QV_bin rfl rfl c3 | exact QV_bin rfl rfl c4 | exact qv0 | exact QV_bne Try.underlying4 rfl rfl | exact QV_beq Try.underlying4 rfl rfl | exact qv1 | exact QV_indexAddr rfl rfl rfl rfl (row_at hr)); (exact gy0)) | (apply wlb (hd := rfl); (first | exact q_box rfl rfl rfl | exact q_alloc); (exact gy0); rfl) | refine wln ⟨_, rfl, rfl⟩ rfl ?_ | refine wlnu ⟨_, rfl, rfl⟩ rfl ?_ | refine wst rfl rfl rfl List.not_mem_nil rfl rfl rfl rfl rfl rfl ?_ | refine W_seq ?_ | refine W_condT rfl ?_ | refine W_condF rfl ?_ | refine W_region ?_ | refine W_skip ?_ | refine W_ret ?_ | refine W_block ?_ | refine W_exit ?_))
      refine wdraw 17 (by kernel_rfl) (by kernel_rfl) (by kernel_rfl) rfl ?_
      (repeat (first | refine HW_nil ?_ | (apply hw0 (hd := rfl); (first | exact qv0 | exact QV_bne Try.underlying4 rfl rfl | exact QV_beq Try.underlying4 rfl rfl | exact qv1 | exact QV_indexAddr rfl rfl rfl (pred_at j) hrow | exact QV_indexAddr rfl rfl rfl (pred_at j) (row_at hs)); (exact gy0)) | (apply hwb (hd := rfl); (first | exact q_box rfl rfl rfl | exact q_alloc); (exact gy0); rfl) | refine hwn ⟨_, rfl, rfl⟩ rfl ?_ | refine hwnu ⟨_, rfl, rfl⟩ rfl ?_))
      refine wlptr 0 [] cn rfl (by repeat' (first | exact PtA.nil | refine PtA.ptr ?_ | refine PtA.v ?_ | refine PtA.agg (LeDs.cons LeD.v (LeDs.cons LeD.v LeDs.nil)) ?_)) rfl rfl List.not_mem_nil (fun r cs ⟨hr, hc⟩ => by subst hr; subst hc; exact ⟨rfl, rfl⟩) rfl rfl (fun r cs hR => ?_)
      obtain ⟨rfl, rfl⟩ := hR
      (repeat (first | refine WL_nil ?_ | (apply wl0 (hd := rfl); (first | exact qv0 | exact QV_bne Try.underlying4 rfl rfl | exact QV_beq Try.underlying4 rfl rfl | exact qv1); (exact gy0)) | (apply wlb (hd := rfl); (first | exact q_box rfl rfl rfl | exact q_alloc); (exact gy0); rfl) | refine wln ⟨_, rfl, rfl⟩ rfl ?_ | refine wlnu ⟨_, rfl, rfl⟩ rfl ?_ | (apply wln1 (hd := rfl); exact q_buildSlice 49 rfl rfl rfl rfl; (exact gy0); rfl) | refine wst rfl rfl rfl List.not_mem_nil rfl rfl rfl rfl rfl rfl ?_ | refine wapp (rows2 := [[vi (force xs (j + 1))]]) rfl rfl rfl (one_cellF _) (one_lenF _) hw rfl rfl rfl rfl ?_ | refine W_seq ?_ | refine W_condT rfl ?_ | refine W_condF rfl ?_ | refine W_region ?_ | refine W_skip ?_ | refine W_ret ?_ | refine W_block ?_ | refine W_exit ?_))
      refine Exists.intro _ (Exists.intro _ ⟨?_, ⟨j + 1 + 1, rows ++ [[vi (force xs (j + 1))]], by omega, rfl, by rw [hrows, forcesR, forcesR, List.range_succ (n := j + 1)]; simp, rfl⟩, (weak_mk (by repeat' (first | exact trivial | refine And.intro ?_ ?_ | exact Le.refl | exact Le.nilOwn rfl | exact Le.nilSl | exact Le.ownSl | exact Le.top)) (by repeat' (first | exact trivial | refine And.intro ?_ ?_ | exact ⟨_, rfl, Les.refl _⟩ | exact ⟨_, rfl, by repeat' (first | exact Les.nil | exact Les.cons Le.refl (Les.refl _) | refine Les.cons (by first | exact Le.top | exact Le.refl | exact Le.ownSl | exact Le.nilSl) ?_)⟩)) rfl (by repeat' (first | exact trivial | refine And.intro ?_ ?_ | exact rfl | exact refs_fill (fun _ => rfl) rfl | exact refs_map (fun _ => rfl))) (fun _ _ _ h => by first | exact h.elim | (obtain ⟨rfl, rfl, rfl⟩ := h; simp)))⟩)
      omega
  · have c3 : abin .lss .i64 (k : Int) ((backs xs).length : Int) = some (.bool false) := by simp [abin]; omega
    have hk' : k = xs.length := by omega
    subst hk'
    subst hrows
    (repeat (first | refine WL_nil ?_ | (apply wl0 (hd := rfl); (first | exact QV_bin rfl rfl c3 | exact qv0 | exact QV_bne Try.underlying4 rfl rfl | exact QV_beq Try.underlying4 rfl rfl | exact qv1); (exact gy0)) | (apply wlb (hd := rfl); (first | exact q_box rfl rfl rfl | exact q_alloc); (exact gy0); rfl) | refine wln ⟨_, rfl, rfl⟩ rfl ?_ | refine wlnu ⟨_, rfl, rfl⟩ rfl ?_ | refine wst rfl rfl rfl List.not_mem_nil rfl rfl rfl rfl rfl rfl ?_ | refine W_seq ?_ | refine W_condT rfl ?_ | refine W_condF rfl ?_ | refine W_region ?_ | refine W_skip ?_ | refine W_ret ?_ | refine W_block ?_ | refine W_exit ?_))
    refine Exists.intro _ ⟨Weak.refl _, Exists.intro _ ⟨resA_tmp rfl (resA_tmp rfl rfl), ?_, rfl⟩⟩
    rfl
theorem loneSpans_ok (s : T3) (r : List T3) (x : Int) (hsp : spansB (s :: r) = true) (hx : inR x s.a s.b = true) : CallOk Try.prog 11 [sl3 (s :: r), vi x] (fun q => q = vb (bridgeB (lone x (s :: r)))) := by
  obtain ⟨hal, h0, h10⟩ := spans_all hsp
  have c1 := cSpansOk (s :: r) (by omega)
  rw [hsp] at c1
  have c2 := within_ok x s.a s.b
  rw [hx] at c2
  have c3 := cBridge (lone x (s :: r)) (by show (s :: r).length ≤ 1048576; omega)
  have h00 : ((s :: r).map row3)[0]? = some (row3 s) := rfl
  have hcell : ∀ y ∈ ((s :: r).map row3).flatten, isCell y = true := by
    intro y hy
    obtain ⟨q, hq, hy⟩ := List.mem_flatten.1 hy
    obtain ⟨p, _, rfl⟩ := List.mem_map.1 hq
    simp only [row3, List.mem_cons, List.not_mem_nil, or_false] at hy
    rcases hy with rfl | rfl | rfl <;> rfl
  have hlens : ∀ q ∈ (s :: r).map row3, q.length = 3 := map_lens (fun _ => rfl)
  refine callOk Try.func11 Try.ntmps11 Try.results11 rfl rfl rfl fun B w0 I0 => ?_
  (repeat (first | refine WL_nil ?_ | (apply wl0 (hd := rfl); (first | exact qv0 | exact QV_bne Try.underlying4 rfl rfl | exact QV_beq Try.underlying4 rfl rfl | exact qv1); (exact gy0)) | (apply wlb (hd := rfl); (first | exact q_box rfl rfl rfl | exact q_alloc); (exact gy0); rfl) | refine wln ⟨_, rfl, rfl⟩ rfl ?_ | refine wlnu ⟨_, rfl, rfl⟩ rfl ?_ | refine wst rfl rfl rfl List.not_mem_nil rfl rfl rfl rfl rfl rfl ?_ | refine W_seq ?_ | refine W_condT rfl ?_ | refine W_condF rfl ?_ | refine W_region ?_ | refine W_skip ?_ | refine W_ret ?_ | refine W_block ?_ | refine W_exit ?_))
  refine wdraw 15 (by kernel_rfl) (by kernel_rfl) (by kernel_rfl) rfl ?_
  (repeat (first | refine HW_nil ?_ | (apply hw0 (hd := rfl); (first | exact qv0 | exact QV_bne Try.underlying4 rfl rfl | exact QV_beq Try.underlying4 rfl rfl | exact qv1 | exact q_callA (c1) | exact q_callA (c2) | exact QV_indexAddr rfl rfl rfl rfl h00); (exact gy0)) | (apply hwb (hd := rfl); (first | exact q_box rfl rfl rfl | exact q_alloc); (exact gy0); rfl) | refine hwn ⟨_, rfl, rfl⟩ rfl ?_ | refine hwnu ⟨_, rfl, rfl⟩ rfl ?_))
  (repeat (first | refine WL_nil ?_ | (apply wl0 (hd := rfl); (first | exact qv0 | exact QV_bne Try.underlying4 rfl rfl | exact QV_beq Try.underlying4 rfl rfl | exact qv1); (exact gy0)) | (apply wlb (hd := rfl); (first | exact q_box rfl rfl rfl | exact q_alloc); (exact gy0); rfl) | refine wln ⟨_, rfl, rfl⟩ rfl ?_ | refine wlnu ⟨_, rfl, rfl⟩ rfl ?_ | refine wst rfl rfl rfl List.not_mem_nil rfl rfl rfl rfl rfl rfl ?_ | refine wapp0A (N := 2000000) rfl rfl rfl (map_plainB (l := s :: r) (row := row3) (fun _ => rfl)) hcell hlens (by simp) (by simp at h10 ⊢; omega) rfl rfl rfl rfl (fun more hmore => ?_) | refine W_seq ?_ | refine W_condT rfl ?_ | refine W_condF rfl ?_ | refine W_region ?_ | refine W_skip ?_ | refine W_ret ?_ | refine W_block ?_ | refine W_exit ?_))
  have r0 : RowAt ((s :: r).map row3 ++ more) 0 3 (row3 s) := ⟨rfl, fun q hq => by
    rcases List.mem_append.1 hq with hq | hq
    · exact hlens q hq
    · exact (hmore q hq).1⟩
  have r1 := r0.set (r' := [vi x, vi s.b, vi s.c]) rfl
  (repeat (first | refine WL_nil ?_ | (apply wl0 (hd := rfl); (first | exact qv0 | exact QV_bne Try.underlying4 rfl rfl | exact QV_beq Try.underlying4 rfl rfl | exact qv1 | exact QV_indexA rfl rfl (j := 0) rfl (by simp)); (exact gy0)) | (apply wlb (hd := rfl); (first | exact q_box rfl rfl rfl | exact q_alloc); (exact gy0); rfl) | refine wln ⟨_, rfl, rfl⟩ rfl ?_ | refine wlnu ⟨_, rfl, rfl⟩ rfl ?_ | refine wst rfl rfl rfl List.not_mem_nil rfl rfl rfl rfl rfl rfl ?_ | refine wstP (j := 0) (e := 3) (o := 0) rfl rfl rfl List.not_mem_nil rfl rfl rfl rfl r0.at_ rfl r0.len rfl ?_ | refine wstP (j := 0) (e := 3) (o := 1) rfl rfl rfl List.not_mem_nil rfl rfl rfl rfl r1.at_ rfl r1.len rfl ?_ | refine W_seq ?_ | refine W_condT rfl ?_ | refine W_condF rfl ?_ | refine W_region ?_ | refine W_skip ?_ | refine W_ret ?_ | refine W_block ?_ | refine W_exit ?_))
  (repeat (first | refine WL_nil ?_ | (apply wl0 (hd := rfl); (first | exact qv0 | exact QV_bne Try.underlying4 rfl rfl | exact QV_beq Try.underlying4 rfl rfl | exact qv1 | exact q_callSA c3 rfl (LeS.arr (rows := (lone x (s :: r)).map row3) (more := more) rfl (by simp [lone]) (map_lens (fun _ => rfl)) (map_plainB (fun _ => rfl)) LeS.nil)); (exact gy0)) | (apply wlb (hd := rfl); (first | exact q_box rfl rfl rfl | exact q_alloc); (exact gy0); rfl) | refine wln ⟨_, rfl, rfl⟩ rfl ?_ | refine wlnu ⟨_, rfl, rfl⟩ rfl ?_ | refine wst rfl rfl rfl List.not_mem_nil rfl rfl rfl rfl rfl rfl ?_ | refine W_seq ?_ | refine W_condT rfl ?_ | refine W_condF rfl ?_ | refine W_region ?_ | refine W_skip ?_ | refine W_ret ?_ | refine W_block ?_ | refine W_exit ?_))
  refine Exists.intro _ ⟨Weak.refl _, Exists.intro _ ⟨resA_tmp rfl rfl, ?_, rfl⟩⟩
  rfl
theorem loneSpans_no (s : T3) (r : List T3) (x : Int) (hsp : spansB (s :: r) = true) (hx : inR x s.a s.b = false) : CallOk Try.prog 11 [sl3 (s :: r), vi x] (fun q => q = vb false) := by
  obtain ⟨hal, h0, h10⟩ := spans_all hsp
  have c1 := cSpansOk (s :: r) (by omega)
  rw [hsp] at c1
  have c2 := within_ok x s.a s.b
  rw [hx] at c2
  have h00 : ((s :: r).map row3)[0]? = some (row3 s) := rfl
  refine callOk Try.func11 Try.ntmps11 Try.results11 rfl rfl rfl fun B w0 I0 => ?_
  (repeat (first | refine WL_nil ?_ | (apply wl0 (hd := rfl); (first | exact qv0 | exact QV_bne Try.underlying4 rfl rfl | exact QV_beq Try.underlying4 rfl rfl | exact qv1); (exact gy0)) | (apply wlb (hd := rfl); (first | exact q_box rfl rfl rfl | exact q_alloc); (exact gy0); rfl) | refine wln ⟨_, rfl, rfl⟩ rfl ?_ | refine wlnu ⟨_, rfl, rfl⟩ rfl ?_ | refine wst rfl rfl rfl List.not_mem_nil rfl rfl rfl rfl rfl rfl ?_ | refine W_seq ?_ | refine W_condT rfl ?_ | refine W_condF rfl ?_ | refine W_region ?_ | refine W_skip ?_ | refine W_ret ?_ | refine W_block ?_ | refine W_exit ?_))
  refine wdraw 15 (by kernel_rfl) (by kernel_rfl) (by kernel_rfl) rfl ?_
  (repeat (first | refine HW_nil ?_ | (apply hw0 (hd := rfl); (first | exact qv0 | exact QV_bne Try.underlying4 rfl rfl | exact QV_beq Try.underlying4 rfl rfl | exact qv1 | exact q_callA (c1) | exact q_callA (c2) | exact QV_indexAddr rfl rfl rfl rfl h00); (exact gy0)) | (apply hwb (hd := rfl); (first | exact q_box rfl rfl rfl | exact q_alloc); (exact gy0); rfl) | refine hwn ⟨_, rfl, rfl⟩ rfl ?_ | refine hwnu ⟨_, rfl, rfl⟩ rfl ?_))
  (repeat (first | refine WL_nil ?_ | (apply wl0 (hd := rfl); (first | exact qv0 | exact QV_bne Try.underlying4 rfl rfl | exact QV_beq Try.underlying4 rfl rfl | exact qv1); (exact gy0)) | (apply wlb (hd := rfl); (first | exact q_box rfl rfl rfl | exact q_alloc); (exact gy0); rfl) | refine wln ⟨_, rfl, rfl⟩ rfl ?_ | refine wlnu ⟨_, rfl, rfl⟩ rfl ?_ | refine wst rfl rfl rfl List.not_mem_nil rfl rfl rfl rfl rfl rfl ?_ | refine W_seq ?_ | refine W_condT rfl ?_ | refine W_condF rfl ?_ | refine W_region ?_ | refine W_skip ?_ | refine W_ret ?_ | refine W_block ?_ | refine W_exit ?_))
  refine Exists.intro _ ⟨Weak.refl _, Exists.intro _ ⟨resA_tmp rfl rfl, ?_, rfl⟩⟩
  rfl
end Go.Proofs.Ytikbndfbjgdldaa
