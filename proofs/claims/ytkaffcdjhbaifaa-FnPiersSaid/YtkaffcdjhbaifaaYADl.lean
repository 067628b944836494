/- Drawn loads. -/
import Derived.Test.YtkaffcdjhbaifaaYADv
import Derived.Test.YtkaffcdjhbaifaaYADa
import Derived.Test.YtkaffcdjhbaifaaYALd
import Derived.Test.YtkaffcdjhbaifaaZ2
namespace Go.Proofs.Ytkaffcdjhbaifaa
open Go.Eng
set_option maxRecDepth 100000
attribute [local irreducible] QV TV WL HW W CallOk Weak

theorem ld_cells1 (l : Ld) : ∀ x ∈ [l.row].flatten, isCell x = true := by
  intro x hx
  simp only [List.flatten_cons, List.flatten_nil, List.append_nil, Ld.row, List.mem_cons, List.not_mem_nil, or_false] at hx
  rcases hx with rfl | rfl | rfl <;> rfl
theorem ld_lens1 (l : Ld) : ∀ r ∈ [l.row], r.length = 3 := by
  intro r hr
  simp only [List.mem_singleton] at hr
  subst hr; rfl
/-- The draws as functions. -/
theorem draws_fn (l : List Int) (hl : Bts l) : ∃ B : Int → Nat → Int → Int × Nat × Int, ∀ n i h, 0 < n → n ≤ 256 → 0 ≤ (B n i h).1 ∧ (B n i h).1 < n ∧ CallPtr Try.prog 16 [.ptr 1000000 0, vi n] [slU l, vi i, vi h] (DetR l (B n i h).1 (B n i h).2.1 (B n i h).2.2) := by
  have H : ∀ q : Int × Nat × Int, ∃ p : Int × Nat × Int, 0 < q.1 → q.1 ≤ 256 → 0 ≤ p.1 ∧ p.1 < q.1 ∧ CallPtr Try.prog 16 [.ptr 1000000 0, vi q.1] [slU l, vi q.2.1, vi q.2.2] (DetR l p.1 p.2.1 p.2.2) := by
    rintro ⟨n, i, h⟩
    by_cases hn : 0 < n ∧ n ≤ 256
    · obtain ⟨x, i1, h1, k0, k1, k2⟩ := l01Below_det l hl n hn.1 hn.2 i h
      exact ⟨⟨x, i1, h1⟩, fun _ _ => ⟨k0, k1, k2⟩⟩
    · exact ⟨⟨0, 0, 0⟩, fun a b => absurd ⟨a, b⟩ hn⟩
  obtain ⟨B, hB⟩ := Classical.axiomOfChoice H
  exact ⟨fun n i h => B ⟨n, i, h⟩, fun n i h h0 h1 => hB ⟨n, i, h⟩ h0 h1⟩
theorem pickInt_det {l : List Int} {xs : List Int} {j : Nat} {i i1 : Nat} {h h1 : Int} {p m : Int} (hm : (xs.length : Int) = m) (hj : xs[j]? = some p) (c : CallPtr Try.prog 16 [.ptr 1000000 0, vi m] [slU l, vi i, vi h] (DetR l j i1 h1)) : CallPtr Try.prog 42 [.ptr 1000000 0, .sl 1 (xs.map fun n => [vi n])] [slU l, vi i, vi h] (DetR l p i1 h1) := by
  subst hm
  refine callPtr Try.func42 Try.ntmps42 Try.results42 rfl rfl rfl fun B w0 b T I0 => ?_
  (repeat (first | refine WL_nil ?_ | (apply wl0 (hd := rfl); (first | exact qv0 | exact QV_bne Try.underlying4 rfl rfl | exact QV_beq Try.underlying4 rfl rfl | exact qv1); (exact gy0)) | (apply wlb (hd := rfl); (first | exact q_box rfl rfl rfl | exact q_alloc); (exact gy0); rfl) | refine wln ⟨_, rfl, rfl⟩ rfl ?_ | refine wlnu ⟨_, rfl, rfl⟩ rfl ?_ | refine wst rfl rfl rfl List.not_mem_nil rfl rfl rfl rfl rfl rfl ?_ | refine W_seq ?_ | refine W_condT rfl ?_ | refine W_condF rfl ?_ | refine W_region ?_ | refine W_skip ?_ | refine W_ret ?_ | refine W_block ?_ | refine W_exit ?_))
  refine wlptr 0 [] c rfl (by repeat' (first | exact PtA.nil | refine PtA.ptr ?_ | (rw [List.length_map]; refine PtA.v ?_) | refine PtA.v ?_)) rfl rfl List.not_mem_nil (fun r cs ⟨hr, hc⟩ => by subst hr; subst hc; exact ⟨rfl, rfl⟩) rfl rfl (fun r cs hR => ?_)
  obtain ⟨rfl, rfl⟩ := hR
  (repeat (first | refine WL_nil ?_ | (apply wl0 (hd := rfl); (first | exact qv0 | exact QV_bne Try.underlying4 rfl rfl | exact QV_beq Try.underlying4 rfl rfl | exact qv1 | exact QV_indexAddr rfl rfl rfl rfl (row_at (f := fun n => [vi n]) hj)); (exact gy0)) | (apply wlb (hd := rfl); (first | exact q_box rfl rfl rfl | exact q_alloc); (exact gy0); rfl) | refine wln ⟨_, rfl, rfl⟩ rfl ?_ | refine wlnu ⟨_, rfl, rfl⟩ rfl ?_ | refine wst rfl rfl rfl List.not_mem_nil rfl rfl rfl rfl rfl rfl ?_ | refine W_seq ?_ | refine W_condT rfl ?_ | refine W_condF rfl ?_ | refine W_region ?_ | refine W_skip ?_ | refine W_ret ?_ | refine W_block ?_ | refine W_exit ?_))
  refine ptrEnd (Weak.refl _) (resA_tmp rfl rfl) rfl rfl rfl ?_
  exact ⟨rfl, rfl⟩
/-- What the loads are like. -/
def LdOk (js : List Jt) (ld : Ld) : Prop := (0 ≤ ld.s ∧ ld.s < (js.length : Int) - 1) ∧ (0 ≤ ld.w ∧ ld.w ≤ 200) ∧ -60 ≤ ld.x ∧ ld.x ≤ 60
@[reducible] def LoadR (l : List Int) (ls : List Ld) (i : Nat) (h : Int) (r : AV) (cs : List AV) : Prop := r = slLd ls ∧ cs = [slU l, vi i, vi h]
theorem l07Loads_det (l : List Int) (hl : Bts l) (js : List Jt) (h8 : 3 ≤ js.length ∧ js.length ≤ 8) (hs : SmJ 22 js) (i : Nat) (h : Int) : ∃ (ls : List Ld) (i1 : Nat) (h1 : Int), ls.length ≤ 3 ∧ (∀ ld ∈ ls, LdOk js ld) ∧ CallPtr Try.prog 28 [.ptr 1000000 0, .agg [slJt js]] [slU l, vi i, vi h] (LoadR l ls i1 h1) := by
  obtain ⟨D, hD⟩ := draws_fn l hl
  obtain ⟨n0, i0, h0, e0⟩ : ∃ n0 i0 h0, D 4 i h = (n0, i0, h0) := ⟨_, _, _, rfl⟩
  have b0 := hD 4 i h (by decide) (by decide)
  rw [e0] at b0
  obtain ⟨k00, k01, c0⟩ := b0
  obtain ⟨n, rfl⟩ : ∃ n : Nat, n0 = n := ⟨n0.toNat, by omega⟩
  simp only at k01
  let list5 : List Int := [0, 6, 20, 60, 200]
  let stepL : Nat × Int → Ld × (Nat × Int) := fun p =>
    let b1 := D ((js.length : Int) - 1) p.1 p.2
    let b2 := D 5 b1.2.1 b1.2.2
    let b3 := D 4 b2.2.1 b2.2.2
    (⟨b1.1, list5.getD b2.1.toNat 0, (jat js b1.1.toNat).o.x + b3.1⟩, b3.2)
  let iter : Nat → List Ld × (Nat × Int) := fun k => Nat.rec ([], (i0, h0)) (fun _ r => (r.1 ++ [(stepL r.2).1], (stepL r.2).2)) k
  have iter_s : ∀ k, iter (k + 1) = ((iter k).1 ++ [(stepL (iter k).2).1], (stepL (iter k).2).2) := fun _ => rfl
  have len : ∀ k, (iter k).1.length = k := by
    intro k
    induction k with
    | zero => rfl
    | succ k ih => rw [iter_s]; simp [ih]
  have five : ∀ x : Int, 0 ≤ x → x < 5 → ∃ p, list5[x.toNat]? = some p ∧ 0 ≤ p ∧ p ≤ 200 ∧ list5.getD x.toNat 0 = p := fun x a b => by
    have : x = 0 ∨ x = 1 ∨ x = 2 ∨ x = 3 ∨ x = 4 := by omega
    rcases this with rfl | rfl | rfl | rfl | rfl <;> exact ⟨_, rfl, by decide, by decide, rfl⟩
  have ok1 : ∀ p, LdOk js (stepL p).1 := fun p => by
    obtain ⟨a0, a1, _⟩ := hD ((js.length : Int) - 1) p.1 p.2 (by omega) (by omega)
    obtain ⟨d0, d1, _⟩ := hD 5 (D ((js.length : Int) - 1) p.1 p.2).2.1 (D ((js.length : Int) - 1) p.1 p.2).2.2 (by decide) (by decide)
    obtain ⟨f0, f1, _⟩ := hD 4 (D 5 (D ((js.length : Int) - 1) p.1 p.2).2.1 (D ((js.length : Int) - 1) p.1 p.2).2.2).2.1 (D 5 (D ((js.length : Int) - 1) p.1 p.2).2.1 (D ((js.length : Int) - 1) p.1 p.2).2.2).2.2 (by decide) (by decide)
    obtain ⟨q, _, q1, q2, q3⟩ := five _ d0 d1
    have hat := (hs.at (k := (D ((js.length : Int) - 1) p.1 p.2).1.toNat) (by omega)).2
    unfold smP at hat
    refine ⟨⟨a0, a1⟩, ?_, ?_⟩
    · show 0 ≤ list5.getD _ 0 ∧ list5.getD _ 0 ≤ 200
      rw [q3]; exact ⟨q1, q2⟩
    · show -60 ≤ _ + _ ∧ _ + _ ≤ 60
      omega
  have okk : ∀ k, ∀ ld ∈ (iter k).1, LdOk js ld := by
    intro k
    induction k with
    | zero => intro ld hld; have h9 : ld ∈ ([] : List Ld) := hld; cases h9
    | succ k ih =>
      intro ld hld
      rw [iter_s] at hld
      rcases List.mem_append.1 hld with h1 | h1
      · exact ih ld h1
      · rw [List.mem_singleton.1 h1]; exact ok1 _
  refine ⟨(iter n).1, (iter n).2.1, (iter n).2.2, by rw [len]; omega, okk n, ?_⟩
  refine callPtr Try.func28 Try.ntmps28 Try.results28 rfl rfl rfl fun B w0 b T I0 => ?_
  (repeat (first | refine WL_nil ?_ | (apply wl0 (hd := rfl); (first | exact qv0 | exact QV_bne Try.underlying4 rfl rfl | exact QV_beq Try.underlying4 rfl rfl | exact qv1); (exact gy0)) | (apply wlb (hd := rfl); (first | exact q_box rfl rfl rfl | exact q_alloc); (exact gy0); rfl) | refine wln ⟨_, rfl, rfl⟩ rfl ?_ | refine wlnu ⟨_, rfl, rfl⟩ rfl ?_ | (apply wln1 (hd := rfl); exact q_buildSlice 10 rfl rfl rfl rfl; (exact gy0); rfl) | refine wst rfl rfl rfl List.not_mem_nil rfl rfl rfl rfl rfl rfl ?_ | refine W_seq ?_ | refine W_condT rfl ?_ | refine W_condF rfl ?_ | refine W_region ?_ | refine W_skip ?_ | refine W_ret ?_ | refine W_block ?_ | refine W_exit ?_))
  refine wlptr 0 [] c0 rfl (by repeat' (first | exact PtA.nil | refine PtA.ptr ?_ | refine PtA.v ?_)) rfl rfl List.not_mem_nil (fun r cs ⟨hr, hc⟩ => by subst hr; subst hc; exact ⟨rfl, rfl⟩) rfl rfl (fun r cs hR => ?_)
  obtain ⟨rfl, rfl⟩ := hR
  (repeat (first | refine WL_nil ?_ | (apply wl0 (hd := rfl); (first | exact qv0 | exact QV_bne Try.underlying4 rfl rfl | exact QV_beq Try.underlying4 rfl rfl | exact qv1); (exact gy0)) | (apply wlb (hd := rfl); (first | exact q_box rfl rfl rfl | exact q_alloc); (exact gy0); rfl) | refine wln ⟨_, rfl, rfl⟩ rfl ?_ | refine wlnu ⟨_, rfl, rfl⟩ rfl ?_ | refine wst rfl rfl rfl List.not_mem_nil rfl rfl rfl rfl rfl rfl ?_ | refine W_seq ?_ | refine W_condT rfl ?_ | refine W_condF rfl ?_ | refine W_region ?_ | refine W_skip ?_ | refine W_ret ?_ | refine W_block ?_ | refine W_exit ?_))
  refine W_loop (fun m s => ∃ (k : Nat) (rows : List (List AV)) (pi : Nat) (ph : Int), k ≤ n ∧ m = n - k ∧ rows = (iter k).1.map Ld.row ∧ (iter k).2 = (pi, ph) ∧ s = ⟨[(0, .ptr 1000000 0), (3, .ptr 3 0), (5, .own 10 87 3 rows), (6, vi n), (7, vi k)], [(3, [slJt js]), (1000000, [slU l, vi pi, vi ph])], [10]⟩) ⟨_, _, ⟨0, [], i0, h0, by omega, rfl, rfl, rfl, rfl⟩, (weak_mk (by repeat' (first | exact trivial | refine And.intro ?_ ?_ | exact Le.refl | exact Le.nilOwn rfl | exact Le.nilSl | exact Le.ownSl | exact Le.top)) (by repeat' (first | exact trivial | refine And.intro ?_ ?_ | exact ⟨_, rfl, Les.refl _⟩ | exact ⟨_, rfl, by repeat' (first | exact Les.nil | exact Les.cons Le.refl (Les.refl _) | refine Les.cons (by first | exact Le.top | exact Le.refl | exact Le.ownSl | exact Le.nilSl) ?_)⟩)) rfl (by repeat' (first | exact trivial | refine And.intro ?_ ?_ | exact rfl | exact refs_fill (fun _ => rfl) rfl | exact refs_map (fun _ => rfl))) (fun _ _ _ h => by first | exact h.elim | (obtain ⟨rfl, rfl, rfl⟩ := h; simp)))⟩ ?_
  rintro m s ⟨k, rows, pi, ph, hk, rfl, hrows, hp, rfl⟩
  by_cases hlt : k < n
  · have c1 : abin .lss .i64 (k : Int) (n : Int) = some (.bool true) := by simp [abin]; omega
    have c2 : abin .gtr .i64 (js.length : Int) 1 = some (.bool true) := by simp [abin]; omega
    have d1 := hD ((js.length : Int) - 1) pi ph (by omega) (by omega)
    obtain ⟨x1, i1, g1, e1⟩ : ∃ x i h, D ((js.length : Int) - 1) pi ph = (x, i, h) := ⟨_, _, _, rfl⟩
    rw [e1] at d1
    obtain ⟨a0, a1, cx1⟩ := d1
    have d2 := hD 5 i1 g1 (by decide) (by decide)
    obtain ⟨x2, i2, g2, e2⟩ : ∃ x i h, D 5 i1 g1 = (x, i, h) := ⟨_, _, _, rfl⟩
    rw [e2] at d2
    obtain ⟨a2, a3, cx2⟩ := d2
    have d3 := hD 4 i2 g2 (by decide) (by decide)
    obtain ⟨x3, i3, g3, e3⟩ : ∃ x i h, D 4 i2 g2 = (x, i, h) := ⟨_, _, _, rfl⟩
    rw [e3] at d3
    obtain ⟨a4, a5, cx3⟩ := d3
    simp only at a0 a1 a2 a3 a4 a5 cx1 cx2 cx3
    obtain ⟨j, rfl⟩ : ∃ j : Nat, x1 = j := ⟨x1.toNat, by omega⟩
    obtain ⟨y, rfl⟩ : ∃ y : Nat, x2 = y := ⟨x2.toNat, by omega⟩
    obtain ⟨w5, hw5, _, _, hw6⟩ := five (y : Int) a2 a3
    have hw7 : ([0, 6, 20, 60, 200] : List Int)[y]? = some w5 := hw5
    have cp := pickInt_det (m := 5) rfl hw7 cx2
    have hst : stepL (iter k).2 = (⟨(j : Int), w5, (jat js j).o.x + x3⟩, (i3, g3)) := by
      rw [hp]
      have hw8 : list5.getD y 0 = w5 := hw6
      simp only [stepL, e1, e2, e3, Int.toNat_natCast, hw8]
    have hjl : j < js.length := by omega
    have hat := (hs.at hjl).2
    unfold smP at hat
    have hpj := jat_lt hjl
    have hr : rows.length + [(⟨(j : Int), w5, (jat js j).o.x + x3⟩ : Ld).row].length ≤ 1048576 := by rw [hrows, List.length_map, len]; simp; omega
    (repeat (first | refine WL_nil ?_ | (apply wl0 (hd := rfl); (first | exact QV_bin rfl rfl c1 | exact QV_bin rfl rfl c2 | exact qv0 | exact QV_bne Try.underlying4 rfl rfl | exact QV_beq Try.underlying4 rfl rfl | exact qv1); (exact gy0)) | (apply wlb (hd := rfl); (first | exact q_box rfl rfl rfl | exact q_alloc); (exact gy0); rfl) | refine wln ⟨_, rfl, rfl⟩ rfl ?_ | refine wlnu ⟨_, rfl, rfl⟩ rfl ?_ | refine wst rfl rfl rfl List.not_mem_nil rfl rfl rfl rfl rfl rfl ?_ | refine W_seq ?_ | refine W_condT rfl ?_ | refine W_condF rfl ?_ | refine W_region ?_ | refine W_skip ?_ | refine W_ret ?_ | refine W_block ?_ | refine W_exit ?_))
    refine wlptr 0 [] cx1 rfl (by repeat' (first | exact PtA.nil | refine PtA.ptr ?_ | refine PtA.v ?_)) rfl rfl List.not_mem_nil (fun r cs ⟨hr, hc⟩ => by subst hr; subst hc; exact ⟨rfl, rfl⟩) rfl rfl (fun r cs hR => ?_)
    obtain ⟨rfl, rfl⟩ := hR
    (repeat (first | refine WL_nil ?_ | (apply wl0 (hd := rfl); (first | exact qv0 | exact QV_bne Try.underlying4 rfl rfl | exact QV_beq Try.underlying4 rfl rfl | exact qv1); (exact gy0)) | (apply wlb (hd := rfl); (first | exact q_box rfl rfl rfl | exact q_alloc); (exact gy0); rfl) | refine wln ⟨_, rfl, rfl⟩ rfl ?_ | refine wlnu ⟨_, rfl, rfl⟩ rfl ?_ | (apply wln1 (hd := rfl); exact q_buildSlice 31 rfl rfl rfl rfl; (exact gy0); rfl) | refine wst rfl rfl rfl List.not_mem_nil rfl rfl rfl rfl rfl rfl ?_ | refine W_seq ?_ | refine W_condT rfl ?_ | refine W_condF rfl ?_ | refine W_region ?_ | refine W_skip ?_ | refine W_ret ?_ | refine W_block ?_ | refine W_exit ?_))
    refine wlptr 0 [] cp rfl (by repeat' (first | exact PtA.nil | refine PtA.ptr ?_ | refine PtA.v ?_ | refine PtA.own ?_)) rfl rfl List.not_mem_nil (fun r cs ⟨hr, hc⟩ => by subst hr; subst hc; exact ⟨rfl, rfl⟩) rfl rfl (fun r cs hR => ?_)
    obtain ⟨rfl, rfl⟩ := hR
    (repeat (first | refine WL_nil ?_ | (apply wl0 (hd := rfl); (first | exact qv0 | exact QV_bne Try.underlying4 rfl rfl | exact QV_beq Try.underlying4 rfl rfl | exact qv1); (exact gy0)) | (apply wlb (hd := rfl); (first | exact q_box rfl rfl rfl | exact q_alloc); (exact gy0); rfl) | refine wln ⟨_, rfl, rfl⟩ rfl ?_ | refine wlnu ⟨_, rfl, rfl⟩ rfl ?_ | refine wst rfl rfl rfl List.not_mem_nil rfl rfl rfl rfl rfl rfl ?_ | refine W_seq ?_ | refine W_condT rfl ?_ | refine W_condF rfl ?_ | refine W_region ?_ | refine W_skip ?_ | refine W_ret ?_ | refine W_block ?_ | refine W_exit ?_))
    refine wdrawC 15 1000000 [11] (by kernel_rfl) (by kernel_rfl) (by kernel_rfl) (by kernel_rfl) (by kernel_rfl) rfl rfl rfl ?_
    (repeat (first | refine HC_nil ?_ | (apply hc0 (hd := rfl); (first | exact qv0 | exact QV_bne Try.underlying4 rfl rfl | exact QV_beq Try.underlying4 rfl rfl | exact qv1 | exact QV_indexAddr rfl rfl rfl rfl (row_at hpj)); (exact gy0)) | refine hcn ⟨_, rfl, rfl⟩ rfl ?_ | (apply hcn1 (hd := rfl); exact q_buildSlice 47 rfl rfl rfl rfl; (exact gy0); rfl) | refine hcE (evPtr (cx3) rfl (by repeat' (first | exact PtA.nil | refine PtA.ptr ?_ | refine PtA.v ?_ | refine PtA.sl ?_ | refine PtA.own ?_ | refine PtA.agg (by (repeat' (first | exact LeDs.nil | refine LeDs.cons (by first | exact LeD.v | exact LeD.sl | exact LeD.own | exact LeD.nil | exact LeD.top) ?_))) ?_)) rfl rfl rfl List.not_mem_nil) rfl rfl ?_))
    (repeat (first | refine WL_nil ?_ | (apply wl0 (hd := rfl); (first | exact qv0 | exact QV_bne Try.underlying4 rfl rfl | exact QV_beq Try.underlying4 rfl rfl | exact qv1); (exact gy0)) | (apply wlb (hd := rfl); (first | exact q_box rfl rfl rfl | exact q_alloc); (exact gy0); rfl) | refine wln ⟨_, rfl, rfl⟩ rfl ?_ | refine wlnu ⟨_, rfl, rfl⟩ rfl ?_ | refine wst rfl rfl rfl List.not_mem_nil rfl rfl rfl rfl rfl rfl ?_ | refine wapp (rows2 := [(⟨(j : Int), w5, (jat js j).o.x + x3⟩ : Ld).row]) rfl rfl rfl (ld_cells1 _) (ld_lens1 _) hr rfl rfl rfl rfl ?_ | refine W_seq ?_ | refine W_condT rfl ?_ | refine W_condF rfl ?_ | refine W_region ?_ | refine W_skip ?_ | refine W_ret ?_ | refine W_block ?_ | refine W_exit ?_))
    refine Exists.intro _ (Exists.intro _ ⟨?_, ⟨k + 1, rows ++ [(⟨(j : Int), w5, (jat js j).o.x + x3⟩ : Ld).row], i3, g3, by omega, rfl, by rw [hrows, iter_s, hst]; simp, by rw [iter_s, hst], rfl⟩, (weak_mk (by repeat' (first | exact trivial | refine And.intro ?_ ?_ | exact Le.refl | exact Le.nilOwn rfl | exact Le.nilSl | exact Le.ownSl | exact Le.top)) (by repeat' (first | exact trivial | refine And.intro ?_ ?_ | exact ⟨_, rfl, Les.refl _⟩ | exact ⟨_, rfl, by repeat' (first | exact Les.nil | exact Les.cons Le.refl (Les.refl _) | refine Les.cons (by first | exact Le.top | exact Le.refl | exact Le.ownSl | exact Le.nilSl) ?_)⟩)) rfl (by repeat' (first | exact trivial | refine And.intro ?_ ?_ | exact rfl | exact refs_fill (fun _ => rfl) rfl | exact refs_map (fun _ => rfl))) (fun _ _ _ h => by first | exact h.elim | (obtain ⟨rfl, rfl, rfl⟩ := h; simp)))⟩)
    omega
  · have c1 : abin .lss .i64 (k : Int) (n : Int) = some (.bool false) := by simp [abin]; omega
    have hk' : k = n := by omega
    subst hk'
    (repeat (first | refine WL_nil ?_ | (apply wl0 (hd := rfl); (first | exact QV_bin rfl rfl c1 | exact qv0 | exact QV_bne Try.underlying4 rfl rfl | exact QV_beq Try.underlying4 rfl rfl | exact qv1); (exact gy0)) | (apply wlb (hd := rfl); (first | exact q_box rfl rfl rfl | exact q_alloc); (exact gy0); rfl) | refine wln ⟨_, rfl, rfl⟩ rfl ?_ | refine wlnu ⟨_, rfl, rfl⟩ rfl ?_ | refine wst rfl rfl rfl List.not_mem_nil rfl rfl rfl rfl rfl rfl ?_ | refine W_seq ?_ | refine W_condT rfl ?_ | refine W_condF rfl ?_ | refine W_region ?_ | refine W_skip ?_ | refine W_ret ?_ | refine W_block ?_ | refine W_exit ?_))
    refine ptrEnd (s' := ⟨[(4, .sl 3 rows)], [(1000000, [slU l, vi pi, vi ph])], []⟩) (weak_mk (by repeat' (first | exact trivial | refine And.intro ?_ ?_ | exact Le.refl | exact Le.nilOwn rfl | exact Le.nilSl | exact Le.ownSl | exact Le.top)) (by repeat' (first | exact trivial | refine And.intro ?_ ?_ | exact ⟨_, rfl, Les.refl _⟩ | exact ⟨_, rfl, by repeat' (first | exact Les.nil | exact Les.cons Le.refl (Les.refl _) | refine Les.cons (by first | exact Le.top | exact Le.refl | exact Le.ownSl | exact Le.nilSl) ?_)⟩)) rfl (by repeat' (first | exact trivial | refine And.intro ?_ ?_ | exact rfl | exact refs_fill (fun _ => rfl) rfl | exact refs_map (fun _ => rfl))) (fun _ _ _ h => by first | exact h.elim | (obtain ⟨rfl, rfl, rfl⟩ := h; simp))) (resA_tmp rfl rfl) rfl rfl rfl ?_
    rw [hp]
    exact ⟨by rw [hrows]; rfl, rfl⟩
theorem loadsB_of {js : List Jt} {ls : List Ld} (ha : archB js = true) (h6 : ls.length ≤ 6) (h : ∀ ld ∈ ls, (0 ≤ ld.s ∧ ld.s < (js.length : Int) - 1) ∧ (0 ≤ ld.w ∧ ld.w ≤ 10000) ∧ -60 ≤ ld.x ∧ ld.x ≤ 60) : loadsB js ls = true := by
  simp only [loadsB, ha, Bool.true_and, Bool.and_eq_true, decide_eq_true_eq, List.all_eq_true]
  refine ⟨h6, fun ld hld => ?_⟩
  have := h ld hld
  simp only [ldOk, Bool.and_eq_true, inR_true]
  omega
end Go.Proofs.Ytkaffcdjhbaifaa
