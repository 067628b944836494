/- impl.CornersOf: the starter. -/
import Derived.Test.YtpcahgedkmgllaaGreatYHd
import Derived.Test.YtpcahgedkmgllaaGreatZ19
import Derived.Test.YtpcahgedkmgllaaGreatZ5
import Derived.Test.YtpcahgedkmgllaaGreatYG4
set_option maxHeartbeats 4000000
namespace Go.Proofs.YtpcahgedkmgllaaGreat
open Go Go.Conc Go.ConcN Go.Eng Go.Conc.Lib Go.ConcR.Gen Go.RowKit
open Go.ConcR (KK wgBlock WgAt stA smA DC0)
set_option maxRecDepth 100000
attribute [local irreducible] QV TV WL HW W CallOk Weak

def addL (out : List Th) : List Th → List Th
  | [] => out
  | t :: r => addL (bif hasT out t then out else out ++ [t]) r
def corI (l : List Rw) : Nat → List Th
  | 0 => []
  | n + 1 => addL (corI l n) (frI l n)
def crewD (x0 : CW) (I0 : Nat → Nat → Prop) (l : List Rw) (C off W : Nat) : CDat := { pay := ⟨49⟩, ty := wlink.tWg, Wg := W, C := C, n := l.length, off := off, Res := fun i vis v w => handsIn (NewTo x0 I0) l i vis v w, dn := fun b => x0.V.vis b ∨ x0.w.heap.size ≤ b, keep := fun h => handsIn_keep h }
abbrev tmC (l : List Rw) (C : Nat) : List (Nat × AV) := [(1, .eptr [slRw l]), (3, .eptr [.v (.slice (some ⟨C, 0, none⟩) l.length l.length)])]
abbrev tmJ (l : List Rw) (C W j : Nat) : List (Nat × AV) := [(4, .v (.pointer (some ⟨W, 0, none⟩))), (1, .eptr [slRw l]), (3, .eptr [.v (.slice (some ⟨C, 0, none⟩) l.length l.length)]), (24, vi l.length), (25, vi j)]
theorem addL_snoc (t : Th) : ∀ a out : List Th, addL out (a ++ [t]) = bif hasT (addL out a) t then addL out a else addL out a ++ [t]
  | [], _ => rfl
  | _ :: a, _ => addL_snoc t a _
theorem addL_len : ∀ (a out : List Th), (addL out a).length ≤ out.length + a.length
  | [], _ => by simp [addL]
  | t :: a, out => by
    have := addL_len a (bif hasT out t then out else out ++ [t])
    simp only [addL, List.length_cons]
    cases h : hasT out t <;> simp [h] at this ⊢ <;> omega
theorem addL_take {ts out : List Th} {k : Nat} {t : Th} (h : ts[k]? = some t) : addL out (ts.take (k + 1)) = bif hasT (addL out (ts.take k)) t then addL out (ts.take k) else addL out (ts.take k) ++ [t] := by
  rw [List.take_add_one, h]
  exact addL_snoc t _ _
theorem corI_len (l : List Rw) (hl : l.length ≤ 20) : ∀ n, (corI l n).length ≤ 400 * n
  | 0 => by simp [corI]
  | n + 1 => by
    have h1 := corI_len l hl n
    have h2 := addL_len (frI l n) (corI l n)
    have h3 := frI_len l hl n
    simp only [corI]; omega
theorem fr_row {l : List Rw} {j : Nat} (h : j < l.length) : ((List.range l.length).map fun i => [slTh (frI l i)])[j]? = some [slTh (frI l j)] := by simp [h]
theorem implCornersOf_go (l : List Rw) (hall : l.all rowB = true) (hin : inR l.length 3 20 = true) : CallOkA Tryz.prog 33 [slRw l] (fun r => r = .own 6 105 4 ((corI l l.length).map Th.row)) := by
  have hb20 := (inR_true.1 hin).2
  have hn20 : l.length ≤ 20 := by omega
  have h1 := within_ok l.length 3 20
  have h2 := rowsOk_ok l (by omega)
  rw [hin] at h1
  rw [hall] at h2
  intro L I x vals hV hI hx hargs
  have hlen := dreps_length hargs
  have hargs' : reps (g0 I) x.w [slRw l] vals.toList := reps_of_dreps hargs
  refine ⟨_, _, Tryz.func33, rfl, wpV_lift L hV ?_⟩
  have hE := Inv_enter (P := Tryz.prog) (nt := 55) [] hI hx hargs' (by simp)
  refine wpV_seq ?_
  refine use_W (s1 := ⟨[(2, .v (.slice none 0 0)), (1, .ptr 1 0), (0, slRw l)], [(1, [slRw l])], []⟩) ?_ hE fun g1 a1 x1 hi1 => ?_
  · (repeat (first | refine WL_nil ?_ | refine zq0 qv9 ?_ | refine zq1 ?_ | refine zq2 ?_ | refine zq3 ?_ | refine zq4 ?_ | refine zq5 ?_ | refine zq6 ?_ | refine wN rfl ?_))
    exact ⟨rfl, rfl⟩
  refine wpV_seq ?_
  refine use_W' (fun s => ∃ tm, s = ⟨tm, [(1, [slRw l])], []⟩ ∧ Go.Eng.look tm 1 = .ptr 1 0) ?_ hi1 fun s2 g2 a2 x2 hs2 hi2 => ?_
  · (repeat (first | refine WL_nil ?_ | refine zq0 (by first | exact qv9 | exact q_callA (h1) | exact q_callA (h2)) ?_ | refine zq1 ?_ | refine zq2 ?_ | refine zq3 ?_ | refine zq4 ?_ | refine zq5 ?_ | refine zq6 ?_ | refine wN rfl ?_))
    exact ⟨rfl, _, rfl, rfl⟩
  obtain ⟨tm2, rfl, k2⟩ := hs2
  replace hi2 := hi2.only (tm' := [(1, .ptr 1 0)]) (by simpa using k2)
  refine wpV_seq ?_
  have hn' : l.length ≤ 1048576 := by omega
  refine use_W' (fun s => ∃ tm, s = ⟨tm, [(3, [.arr 22 49 1 l.length]), (22, (List.replicate l.length [.v (.slice none 0 0)]).flatten), (1, [slRw l])], []⟩ ∧ Go.Eng.look tm 1 = .ptr 1 0 ∧ Go.Eng.look tm 3 = .ptr 3 0) ?_ hi2 fun s3 g3 a3 x3 hs3 hi3 => ?_
  · (repeat (first | refine WL_nil ?_ | refine zq0 qv9 ?_ | (apply wlb (hd := rfl); (first | exact q_box rfl rfl rfl | exact q_alloc | exact QV_makeA rfl rfl rfl rfl hn' rfl); (exact gy0); rfl) | refine zq2 ?_ | refine zq3 ?_ | refine zq4 ?_ | refine zq5 ?_ | refine zq6 ?_ | refine wN rfl ?_))
    exact ⟨rfl, _, rfl, rfl, rfl⟩
  obtain ⟨tm3, rfl, k31, k33⟩ := hs3
  obtain ⟨V3, w3⟩ := x3
  have hm3 := hi3.mem.mem
  have hv3 := hi3.mem.vis
  obtain ⟨C, arrC, mC, hpC, rC, nIC⟩ := hm3.blk 22 _ (List.mem_cons_of_mem _ (List.mem_cons_self ..))
  obtain ⟨C', c', mC', mt22, -, -, -⟩ : ∃ C' c', g3.m 22 = some C' ∧ g3.mt 22 = 49 ∧ True ∧ True ∧ True := by
    obtain ⟨b, arr, h1, h2, h3, h4⟩ := hm3.blk 3 _ (List.mem_cons_self ..)
    simp only [reps, rep] at h3
    obtain ⟨_, _, _, ⟨b', c, h5, h6, _⟩, _⟩ := h3
    exact ⟨b', c, h5, h6, trivial, trivial, trivial⟩
  have hCsz : arrC.size = l.length := by
    have := reps_length rC
    simpa using this
  have hmine : V3.mine C := (hv3.m 22 C mC).2 (by simp)
  have hCb : x.w.heap.size ≤ C := by
    rcases hv3.dn C (hv3.m 22 C mC).1 with h | h
    · rcases (hm3.mfr 22 C mC).1 with h' | h' | h'
      · cases h'
      · exact h'
      · exact absurd h h'
    · exact h
  have hdn : ∀ b, V3.vis b → x.V.vis b ∨ x.w.heap.size ≤ b := hv3.dn
  have hsz3 : x.w.heap.size ≤ w3.heap.size := hm3.base
  refine wp_enter (V := V3) (w := w3) (C := C) (n := l.length) (fun off W => crewD x I l C off W) (fun _ _ => rfl) (fun _ _ => rfl) (fun _ _ => rfl) (fun _ _ => rfl) (fun _ _ => rfl) (by omega) (hv3.ext.trans hV) (by kernel_rfl) (fun ρ w => ?_) (fun ρ w => ?_) hmine hv3.sub hv3.lt
    (fun _ _ => ⟨arrC, ?_, hCsz⟩) (fun _ _ => hdn) (fun _ _ b h1 h2 => .inr (by omega)) fun off w₁ r => ?_
  · kernel_rfl
  · kernel_rfl
  · rw [hpC, mt22]; rfl
  obtain ⟨d, hd⟩ : ∃ d, d = crewD x I l C off w₁.heap.size := ⟨_, rfl⟩
  rw [← hd]
  have hat : At x I 55 C (.crew d 0 (.opn 0 0 l.length)) ((4, .v (.pointer (some ⟨w₁.heap.size, 0, none⟩))) :: tmC l C) (a3.put (some 4) (.pointer (some ⟨w₁.heap.size, 0, none⟩))) ⟨⟨fun b => V3.vis b ∧ b ≠ C, fun b => V3.mine b ∧ b ≠ C, .crew d 0 (.opn 0 0 l.length)⟩, w₁.alloc (wgBlock wlink.tWg 0 0)⟩ := by
    refine At.first hx hi3 mC hCb nIC r.toRelyB (look_all fun p hp => ?_) (by decide)
    simp only [tmC, List.mem_cons, List.not_mem_nil, or_false] at hp
    rcases hp with rfl | rfl
    · refine rep_frzB hi3.mem (n := 1) (cs := [slRw l]) (by simp) (by simp) (by rw [← k31]; exact hi3.tm 1) fun ys h => ?_
      simp only [reps] at h
      obtain ⟨y, zs, rfl, h1, rfl⟩ := h
      simp only [dreps]
      exact ⟨y, [], rfl, drep_mono (fun _ _ h => .inl h) (fun _ _ _ => rfl) h1, rfl⟩
    · refine rep_frzB hi3.mem (n := 3) (cs := [.arr 22 49 1 l.length]) (by simp) (by simp) (by rw [← k33]; exact hi3.tm 3) fun ys h => ?_
      simp only [reps, rep] at h
      obtain ⟨y, zs, rfl, ⟨b, c, h1, h2, rfl, h4, h5⟩, rfl⟩ := h
      rw [mC] at h1; cases h1
      rw [h5.1 (by decide)]
      simp only [dreps, drep]
      exact ⟨_, [], rfl, rfl, rfl⟩
  have hCW : C < w₁.heap.size := Nat.lt_of_lt_of_le (hm3.mfr 22 C mC).2 r.size
  generalize w₁.heap.size = W at *
  refine wpV_seq (wpV_seq ?_)
  have dn : d.n = l.length := by rw [hd]; rfl
  have dty : d.ty = wlink.tWg := by rw [hd]; rfl
  have dC : d.C = C := by rw [hd]; rfl
  have dW : d.Wg = W := by rw [hd]; rfl
  refine hat.run (tmJ l C W 0) rfl (fun B w0 M I V0 => ?_) fun a5 x5 hat5 => ?_
  · (repeat (first | refine WL_nil ?_ | refine zq0 qv9 ?_ | refine zq1 ?_ | refine zq2 ?_ | refine zq3 ?_ | refine zq4 ?_ | refine zq5 ?_ | refine zq6 ?_ | refine wN rfl ?_))
    exact ⟨rfl, rfl, rfl, rfl, rfl, rfl, trivial⟩
  refine wpV_block (wpV_loop (fun n a x' => ∃ j, n = l.length - j ∧ j ≤ l.length ∧ At x I 55 C (.crew d j (.opn 0 0 l.length)) (tmJ l C W j) a x') ?_ (n := l.length) ⟨0, by omega, by omega, hat5⟩)
  rintro n aj xj ⟨j, rfl, hj, hatj⟩
  refine wpV_seq ?_
  have c6 : abin .lss .i64 ((j : Nat) : Int) (l.length : Int) = some (.bool (decide (j < l.length))) := by simp [abin]
  refine hatj.run ((26, vb (decide (j < l.length))) :: tmJ l C W j) rfl (fun B w0 M I V0 => ?_) fun a6 x6 hat6 => ?_
  · (repeat (first | refine WL_nil ?_ | refine zq0 (by first | exact QV_bin rfl rfl c6 | exact qv9) ?_ | refine zq1 ?_ | refine zq2 ?_ | refine zq3 ?_ | refine zq4 ?_ | refine zq5 ?_ | refine zq6 ?_ | refine wN rfl ?_))
    exact ⟨rfl, rfl, rfl, rfl, rfl, rfl, rfl, trivial⟩
  have e26 := hat6.eval (t := 26) rfl
  refine wpV_seq (wpV_cond_split e26 (fun ht => wpV_skip ?_) (fun hf => wpV_exit ?_))
  · have hjl : j < l.length := of_decide_eq_true ht
    refine wpV_seq (wpV_block (wpV_seq ?_))
    refine hat6.runB (tmJ l C W j) 5 5 (.int .i64 j) rfl (fun B w0 M I V0 => ?_) fun a7 x7 hat7 => ?_
    · (repeat (first | refine WL_nil ?_ | refine zq0 qv9 ?_ | refine zq1 ?_ | refine zq2 ?_ | refine zq3 ?_ | refine zq4 ?_ | refine zq5 ?_ | refine zq6 ?_ | refine wN rfl ?_))
      exact ⟨rfl, ⟨rfl, rfl, rfl, rfl, rfl, trivial⟩, rfl, List.mem_cons_self ..⟩
    obtain ⟨V7, w7⟩ := x7
    refine wpV_seq ?_
    refine wp_add (V := V7) (w := w7) wlib (d := d) (j := j) dty (hat7.ext.trans (by rw [dn])) (by rw [dn]; exact hjl) (by rw [dn]; omega) ((hat7.eval (t := 4) rfl).trans (by rw [dW])) fun w8 r8 => ?_
    have hat8 : At x I 55 C (.crew d j (.opn 1 0 d.n)) ((5, .eptr [vi j]) :: tmJ l C W j) (a7.put (some 28) (.tuple #[])) ⟨V7.as (.crew d j (.opn 1 0 d.n)), w8⟩ := (hat7.rely hat7.rig.sub r8).put rfl
    generalize a7.put (some 28) (.tuple #[]) = a8 at hat8 ⊢
    refine wp_go (V := V7.as (.crew d j (.opn 1 0 d.n))) (w := w8) (d := d) (j := j) rfl (t := 29) (by rw [hat8.sz]; decide) (vs := #[.pointer (some ⟨d.Wg, 0, none⟩), a8.tmps.getD 1 undef, a8.tmps.getD 5 undef, a8.tmps.getD 3 undef]) ?_ (fun w₁ r hp => ?_) fun w₁ r => ?_
    · have := hat8.eval (t := 4) rfl
      rw [← dW] at this
      simp only [List.map_toArray, List.map_cons, List.map_nil, this]
      simp [Act.eval]
    · have hatc := hat8.rely (e' := .hand d j) (M := fun _ => False) (fun _ h => h.elim) r.toRelyB
      obtain ⟨Ic, c1, c2, c3, c4⟩ := hatc.dat
      refine hand_ok (N := NewTo x I) l hn20 hjl dn dty (by rw [dC, dW]; omega) (fun vis v w h => by rw [hd]; exact h) rfl hatc.rig (by rw [dC]; exact hatc.nC) (by rw [dC]; exact hatc.Clt) c1 (fun b o h => ?_) ?_
      · rcases h with h | h | h
        · exact c2 b o h
        · exact .inr (.inl (Nat.le_trans hatc.below.size h))
        · exact .inr (.inr fun h' => h (hatc.up b h'))
      · have q1 := c4 1
        have q3 := c4 3
        have q5 := c4 5
        rw [dW, dC]
        exact ⟨_, _, rfl, rfl, _, _, rfl, q1, _, _, rfl, q5, _, _, rfl, q3, rfl⟩
    · have hat9 := (hat8.rely (e' := .crew d (j + 1) (.opn 0 0 l.length)) (M := fun _ => False) (fun _ h => h.elim) r.toRelyB).put (t0 := 29) (y := .func (.func 49) #[] #[.pointer (some ⟨d.Wg, 0, none⟩), a8.tmps.getD 1 undef, a8.tmps.getD 5 undef, a8.tmps.getD 3 undef]) rfl
      rw [dn]
      refine hat9.run (tmJ l C W (j + 1)) rfl (fun B w0 M I V0 => ?_) fun a10 x10 hat10 => ⟨l.length - (j + 1), by omega, j + 1, rfl, by omega, hat10⟩
      · (repeat (first | refine WL_nil ?_ | refine zq0 qv9 ?_ | refine zq1 ?_ | refine zq2 ?_ | refine zq3 ?_ | refine zq4 ?_ | refine zq5 ?_ | refine zq6 ?_ | refine wN rfl ?_))
        exact ⟨rfl, rfl, rfl, rfl, rfl, rfl, trivial⟩
  · have hjn : j = l.length := by have := of_decide_eq_false hf; omega
    subst hjn
    obtain ⟨V6, w6⟩ := x6
    refine wpV_seq ?_
    refine wp_wait (V := V6) (w := w6) wlib (d := d) dty (hat6.ext.trans (by rw [dn])) (by rw [dn]; omega) ((hat6.eval (t := 4) rfl).trans (by rw [dW])) fun w₁ vals vis r hp hh => ?_
    rw [dn] at hh
    obtain ⟨V', k1, k2, k3, k4⟩ := hat6.joined (P := Tryz.prog) hx hV r (n := l.length) hCb (rows := fun i => [slTh (frI l i)]) (vals := vals) (vis := vis) (fun i hi => dC ▸ (hh i hi).1) (fun i hi b hb => by have := (hh i hi).2.2 b hb; rw [hd] at this; exact this)
      (fun i hi => by
        have := (hh i hi).2.1
        rw [hd] at this
        obtain ⟨J, j1, j2⟩ := this
        exact ⟨J, j1, _, rfl, j2⟩) (t3 := 3) rfl
    refine ⟨V', k1, fun b hb => by rw [dC, dn]; exact k2 b hb, k3, fun w₂ r₂ => ?_⟩
    obtain ⟨g, hi⟩ := k4 w₂ r₂
    replace hi := hi.put (s := ⟨[], [], []⟩) (t0 := 31) (y := .tuple #[]) rfl
    refine wpV_mono (body_of_W (fn := Tryz.f33) (R := fun r => r = .own 6 105 4 ((corI l l.length).map Th.row)) ?_ hi) fun e a x h => ⟨by cases e <;> exact h.1, h.2.trans hV⟩
    show Eng.W _ _ _ ⟨[(3, .eptr [.sl 1 ((List.range l.length).map fun i => [slTh (frI l i)])])], [], []⟩
    have hR0 : ∀ j, j < l.length → ((List.range l.length).map fun i => [slTh (frI l i)])[j]? = some [slTh (frI l j)] := fun j h => fr_row h
    have hRl0 : ((List.range l.length).map fun i => [slTh (frI l i)]).length = l.length := by simp
    generalize ((List.range l.length).map fun i => [slTh (frI l i)]) = R at hR0 hRl0 ⊢
    (repeat (first | refine WL_nil ?_ | refine zq0 qv9 ?_ | refine zq1 ?_ | refine zq2 ?_ | refine zq3 ?_ | refine zq4 ?_ | refine zq5 ?_ | refine zq6 ?_ | refine wN rfl ?_))
    refine W_loop (fun n s => ∃ j : Nat, j ≤ l.length ∧ n = l.length - j ∧ s = ⟨[(32, .sl 1 R), (33, vi R.length), (34, vi j), (6, .own 6 105 4 ((corI l j).map Th.row))], [], [6]⟩) ⟨_, _, ⟨0, by omega, rfl, rfl⟩, wkO⟩ ?_
    rintro n s ⟨j, hj, rfl, rfl⟩
    have hcl := corI_len l hn20 j
    have hfl := frI_len l hn20 j
    by_cases hjl : j < l.length
    · have cj : abin .lss .i64 ((j : Nat) : Int) (R.length : Int) = some (.bool true) := by simp [abin]; omega
      (repeat (first | refine WL_nil ?_ | refine zq0 (by first | exact QV_bin rfl rfl cj | exact qv9 | exact QV_indexAddr rfl rfl rfl rfl (hR0 j hjl)) ?_ | refine zq1 ?_ | refine zq2 ?_ | refine zq3 ?_ | refine zq4 ?_ | refine zq5 ?_ | refine zq6 ?_ | refine wN rfl ?_))
      refine W_loop (fun n s => ∃ k : Nat, k ≤ (frI l j).length ∧ n = (frI l j).length - k ∧ s = ⟨[(32, .sl 1 R), (33, vi R.length), (34, vi j), (38, slTh (frI l j)), (39, vi (frI l j).length), (40, vi k), (6, .own 6 105 4 ((addL (corI l j) ((frI l j).take k)).map Th.row))], [], [6]⟩) ⟨_, _, ⟨0, by omega, rfl, rfl⟩, wkA⟩ ?_
      rintro n s ⟨k, hk, rfl, rfl⟩
      have hal := addL_len ((frI l j).take k) (corI l j)
      by_cases hkl : k < (frI l j).length
      · have ck : abin .lss .i64 ((k : Nat) : Int) ((frI l j).length : Int) = some (.bool true) := by simp [abin]; omega
        obtain ⟨t, ht⟩ : ∃ t, (frI l j)[k]? = some t := ⟨_, List.getElem?_eq_getElem hkl⟩
        have hrow : ((frI l j).map Th.row)[k]? = some t.row := by simp [ht]
        have hnext := addL_take (out := corI l j) ht
        have htl : ((frI l j).take k).length ≤ 400 := by rw [List.length_take]; omega
        generalize addL (corI l j) ((frI l j).take k) = out at hal hnext ⊢
        have hc := implContains_ok out t (by omega)
        cases e1 : hasT out t
        · rw [e1] at hc hnext
          have ha : (out.map Th.row).length + [t.row].length ≤ 1048576 := by simp; omega
          (repeat (first | refine WL_nil ?_ | refine zq0 (by first | exact QV_bin rfl rfl ck | exact qv9 | exact QV_indexAddr rfl rfl rfl rfl hrow | exact q_callA (hc)) ?_ | refine zq1 ?_ | refine zq2 ?_ | refine zq3 ?_ | (apply wln1 (hd := rfl); exact q_buildSlice 94 rfl rfl rfl rfl; (exact gy0); rfl) | refine zq4 ?_ | refine wappE rfl rfl rfl (th_cells [t]) (th_lens [t]) ha rfl rfl (th_app (t := t)) rfl rfl ?_ | refine zq5 ?_ | refine zq6 ?_ | refine wN rfl ?_))
          rw [show out ++ [t] = addL (corI l j) ((frI l j).take (k + 1)) from hnext.symm]
          refine Exists.intro _ (Exists.intro _ ⟨?_, ⟨k + 1, by omega, rfl, rfl⟩, wkA⟩)
          omega
        · rw [e1] at hc hnext
          (repeat (first | refine WL_nil ?_ | refine zq0 (by first | exact QV_bin rfl rfl ck | exact qv9 | exact QV_indexAddr rfl rfl rfl rfl hrow | exact q_callA (hc)) ?_ | refine zq1 ?_ | refine zq2 ?_ | refine zq3 ?_ | refine zq4 ?_ | refine zq5 ?_ | refine zq6 ?_ | refine wN rfl ?_))
          rw [show out = addL (corI l j) ((frI l j).take (k + 1)) from hnext.symm]
          refine Exists.intro _ (Exists.intro _ ⟨?_, ⟨k + 1, by omega, rfl, rfl⟩, wkA⟩)
          omega
      · have ck : abin .lss .i64 ((k : Nat) : Int) ((frI l j).length : Int) = some (.bool false) := by simp [abin]; omega
        have : k = (frI l j).length := by omega
        subst this
        rw [List.take_length]
        (repeat (first | refine WL_nil ?_ | refine zq0 (by first | exact QV_bin rfl rfl ck | exact qv9) ?_ | refine zq1 ?_ | refine zq2 ?_ | refine zq3 ?_ | refine zq4 ?_ | refine zq5 ?_ | refine zq6 ?_ | refine wN rfl ?_))
        refine Exists.intro _ (Exists.intro _ ⟨?_, ⟨j + 1, by omega, rfl, rfl⟩, wkA⟩)
        omega
    · have cj : abin .lss .i64 ((j : Nat) : Int) (R.length : Int) = some (.bool false) := by simp [abin]; omega
      have : j = l.length := by omega
      subst this
      (repeat (first | refine WL_nil ?_ | refine zq0 (by first | exact QV_bin rfl rfl cj | exact qv9) ?_ | refine zq1 ?_ | refine zq2 ?_ | refine zq3 ?_ | refine zq4 ?_ | refine zq5 ?_ | refine zq6 ?_ | refine wN rfl ?_))
      refine Exists.intro _ ⟨Weak.refl _, Exists.intro _ ⟨resA_tmp rfl rfl, ?_, rfl⟩⟩
      rfl
end Go.Proofs.YtpcahgedkmgllaaGreat

namespace Go.Proofs.YtpcahgedkmgllaaGreat
open Go.Eng
set_option maxRecDepth 100000
attribute [local irreducible] QV TV WL HW W CallOk Weak

theorem implCornersOf_no (l : List Rw) (hn : l.length ≤ 1048576) (h : (l.all rowB && inR l.length 3 20) = false) : CallOk Tryz.prog 33 [slRw l] (fun r => r = .own 6 105 4 (([] : List Th).map Th.row)) := by
  have h1 := within_ok l.length 3 20
  have h2 := rowsOk_ok l hn
  refine callOk Tryz.func33 Tryz.ntmps33 Tryz.results33 rfl rfl rfl fun B w0 M I0 V0 => ?_
  cases e1 : inR l.length 3 20
  · rw [e1] at h1
    (repeat (first | refine WL_nil ?_ | refine zq0 (by first | exact qv9 | exact q_callA (h1)) ?_ | refine zq1 ?_ | refine zq2 ?_ | refine zq3 ?_ | refine zq4 ?_ | refine zq5 ?_ | refine zq6 ?_ | refine wN rfl ?_))
    refine Exists.intro (⟨[(2, .own 6 105 4 [])], [], [6]⟩ : St) ⟨wkO, Exists.intro _ ⟨resA_tmp rfl rfl, ?_, rfl⟩⟩
    rfl
  · rw [e1, Bool.and_true] at h
    rw [e1] at h1
    rw [h] at h2
    (repeat (first | refine WL_nil ?_ | refine zq0 (by first | exact qv9 | exact q_callA (h1) | exact q_callA (h2)) ?_ | refine zq1 ?_ | refine zq2 ?_ | refine zq3 ?_ | refine zq4 ?_ | refine zq5 ?_ | refine zq6 ?_ | refine wN rfl ?_))
    refine Exists.intro (⟨[(2, .own 6 105 4 [])], [], [6]⟩ : St) ⟨wkO, Exists.intro _ ⟨resA_tmp rfl rfl, ?_, rfl⟩⟩
    rfl
theorem fulAll_hol {l : List Rw} {t : Th} (ht : thOk t = true) (hall : l.all rowB = true) (h20 : inR l.length 3 20 = true) : fulAll t l = l.all (holB t) := by
  have h40 : inR l.length 1 40 = true := by rw [inR_true] at *; omega
  have : ∀ l : List Rw, l.all rowB = true → l.all (fulB t) = l.all (holB t) := by
    intro l
    induction l with
    | nil => intro _; rfl
    | cons r l ih =>
      intro h
      simp only [List.all_cons, Bool.and_eq_true] at h
      simp only [List.all_cons, ih h.2, fulB, ht, h.1, Bool.true_and, holB]
  rw [fulAll, h40, Bool.true_and, this l hall]
theorem addF_add {l : List Rw} (hall : l.all rowB = true) (h20 : inR l.length 3 20 = true) {o : Option Th} (ho : ∀ t, o = some t → thOk t = true) (out fr : List Th) : addL out (addF l fr o) = addO l (addL out fr) o := by
  cases o with
  | none => rfl
  | some t =>
    have e := fulAll_hol (ho t rfl) hall h20
    simp only [addF, e]
    cases e2 : l.all (holB t)
    · simp only [cond_false]
      cases e3 : hasT (addL out fr) t <;> simp [addO, e2, e3]
    · simp only [cond_true, addL_snoc]
      cases e3 : hasT (addL out fr) t <;> simp [addO, e2, e3]
theorem frM_add {l : List Rw} (hall : l.all rowB = true) (h20 : inR l.length 3 20 = true) (i k : Nat) (out fr : List Th) : ∀ n, addL out (frM l i k fr n) = cM l i k (addL out fr) n
  | 0 => rfl
  | n + 1 => by
    simp only [frM, cM, addF_add hall h20 (o := slvA l i k (k + 1 + n)) (fun _ h => slv_ok h), frM_add hall h20 i k out fr n]
theorem frK_add {l : List Rw} (hall : l.all rowB = true) (h20 : inR l.length 3 20 = true) (i : Nat) (out fr : List Th) : ∀ n, addL out (frK l i fr n) = cK l i (addL out fr) n
  | 0 => rfl
  | n + 1 => by
    simp only [frK, cK, frM_add hall h20, frK_add hall h20 i out fr n]
theorem corI_eq {l : List Rw} (hall : l.all rowB = true) (h20 : inR l.length 3 20 = true) : ∀ n, corI l n = cI l n
  | 0 => rfl
  | n + 1 => by
    simp only [corI, cI, frI, frK_add hall h20, corI_eq hall h20 n]
    rfl
abbrev oCo (out : List Th) : AV := .own 6 105 4 (out.map Th.row)
theorem implCornersOf_ok (l : List Rw) (hn : l.length ≤ 1048576) : CallOkA Tryz.prog 33 [slRw l] (fun r => r = oCo (corL l)) := by
  cases h : l.all rowB && inR l.length 3 20
  · rw [show corL l = [] by simp only [corL, h]; rfl]
    exact callOkA_of (implCornersOf_no l hn h)
  · rw [show corL l = cI l l.length by simp only [corL, h]; rfl]
    simp only [Bool.and_eq_true] at h
    rw [← corI_eq h.1 h.2]
    exact implCornersOf_go l h.1 h.2
end Go.Proofs.YtpcahgedkmgllaaGreat

namespace Go.Proofs.YtpcahgedkmgllaaGreat
open Go.Eng
set_option maxRecDepth 100000
attribute [local irreducible] QV TV WL HW W CallOk CallOkA Weak

theorem implThrustsOf_own (js : List Jt) (ls : List Ld) (hj : js.length ≤ 1048576) (hn : ls.length ≤ 1048576) : CallOkA Tryz.prog 19 [.agg [slJt js], slLd ls] (fun r => r = oCo (thrL js ls)) := by
  have h1 := implRowsOf_ok js ls hj hn
  have h2 := implCornersOf_ok (rowsA js ls) (rowsA_len js ls)
  refine callOkX Tryz.func19 Tryz.ntmps19 Tryz.results19 rfl rfl rfl fun B w0 M I0 V0 hal => ?_
  (repeat (first | refine WL_nil ?_ | refine zq0 (by first | exact qv9 | exact q_callA (h1)) ?_ | refine zq1 ?_ | refine zq2 ?_ | refine zq3 ?_ | (apply wln1 (hd := rfl); exact q_call1AX hal 0 6 (h2); (exact gy0); rfl) | refine zq4 ?_ | refine zq5 ?_ | refine zq6 ?_ | refine wN rfl ?_))
  refine Exists.intro _ ⟨Weak.refl _, Exists.intro _ ⟨resA_tmp rfl rfl, ?_, rfl⟩⟩
  rfl
theorem implThrustsOf_ok (js : List Jt) (ls : List Ld) (hj : js.length ≤ 1048576) (hn : ls.length ≤ 1048576) : CallOkA Tryz.prog 19 [.agg [slJt js], slLd ls] (fun r => r = slTh (thrL js ls)) := callOkA_dat (implThrustsOf_own js ls hj hn) rfl
theorem implStands_ok (js : List Jt) (ls : List Ld) (hj : js.length ≤ 1048576) (hn : ls.length ≤ 1048576) : CallOkA Tryz.prog 7 [.agg [slJt js], slLd ls] (fun r => r = vb (stnB js ls)) := by
  have h1 := implThrustsOf_ok js ls hj hn
  unfold stnB
  refine callOkX Tryz.func7 Tryz.ntmps7 Tryz.results7 rfl rfl rfl fun B w0 M I0 V0 hal => ?_
  cases e : thrL js ls with
  | nil =>
    rw [e] at h1
    (repeat (first | refine WL_nil ?_ | refine zq0 (by first | exact qv9 | exact q_callAX hal (h1)) ?_ | refine zq1 ?_ | refine zq2 ?_ | refine zq3 ?_ | refine zq4 ?_ | refine zq5 ?_ | refine zq6 ?_ | refine wN rfl ?_))
    refine Exists.intro _ ⟨Weak.refl _, Exists.intro _ ⟨resA_tmp rfl rfl, ?_, rfl⟩⟩
    rfl
  | cons t r =>
    rw [e] at h1
    have c0 : abin .gtr .i64 ((t :: r).length : Int) 0 = some (.bool true) := by simp [abin]
    (repeat (first | refine WL_nil ?_ | refine zq0 (by first | exact QV_bin rfl rfl c0 | exact qv9 | exact q_callAX hal (h1)) ?_ | refine zq1 ?_ | refine zq2 ?_ | refine zq3 ?_ | refine zq4 ?_ | refine zq5 ?_ | refine zq6 ?_ | refine wN rfl ?_))
    refine Exists.intro _ ⟨Weak.refl _, Exists.intro _ ⟨resA_tmp rfl rfl, ?_, rfl⟩⟩
    rfl
end Go.Proofs.YtpcahgedkmgllaaGreat
