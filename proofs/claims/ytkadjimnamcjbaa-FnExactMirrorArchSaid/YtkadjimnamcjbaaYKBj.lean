/- slices.Backward over joints: what its iterator hands out. -/
import Derived.Test.YtkadjimnamcjbaaZ2
import Derived.Test.YtkadjimnamcjbaaYI
import Derived.Test.YtkadjimnamcjbaaYMPt
import Derived.Shelf.Abstract
import Derived.OwnWalkIn
import Derived.TacticsInMore
import Derived.LoopNIn
import Derived.LoopIn
import Derived.Maps.AppendAt
namespace Go.Proofs.Ytkadjimnamcjbaa
open Go.RowKit Go.Shelf Go.Eng
attribute [local go_sem] Oper.semAt_some


/-- What has come when the m last ones are still to come. -/
def backJ (zs : List Jt) (m : Nat) : List (Nat × Jt) := ((List.range zs.length).reverse.take (zs.length - m)).map fun j => (j, zs.getD j ⟨⟨0, 0⟩, ⟨0, 0⟩⟩)
theorem backJ_all (zs : List Jt) : backJ zs zs.length = [] := by simp [backJ]
theorem backJ_step (zs : List Jt) {j : Nat} (h : j < zs.length) : backJ zs j = backJ zs (j + 1) ++ [(j, zs.getD j ⟨⟨0, 0⟩, ⟨0, 0⟩⟩)] := by
  unfold backJ
  have e : zs.length - j = (zs.length - (j + 1)) + 1 := by omega
  rw [e, List.take_add_one, List.map_append]
  congr 1
  have h2 : (List.range zs.length).reverse[zs.length - (j + 1)]? = some j := by
    have e3 : zs.length - 1 - (zs.length - (j + 1)) = j := by omega
    rw [List.getElem?_reverse (by simp; omega), List.length_range, e3]
    simp [h]
  rw [h2]
  rfl
theorem backJ_pre (zs : List Jt) (j : Nat) : backJ zs j <+: backJ zs 0 := by
  unfold backJ
  exact List.IsPrefix.map _ (List.take_prefix_take_left (by omega))
theorem backJ_len (zs : List Jt) {m : Nat} : (backJ zs m).length = zs.length - m := by simp [backJ]
/-- The elements alone. -/
theorem backJ_map (zs : List Jt) : (backJ zs 0).map (·.2) = zs.reverse := by
  unfold backJ
  rw [Nat.sub_zero, List.take_of_length_le (by simp), List.map_map, List.map_reverse]
  congr 1
  apply List.ext_getElem
  · simp
  · intro i h1 h2
    simp at h1
    simp [h1]
abbrev encsJ (x : Nat × Jt) : Array Value := #[.int .i64 (x.1 : Int), .agg #[.int .i64 x.2.i.x, .int .i64 x.2.i.y, .int .i64 x.2.o.x, .int .i64 x.2.o.y]]
set_option maxRecDepth 100000 in
set_option maxHeartbeats 2000000 in
theorem back1J (l Bs Os b off cap : Nat) (zs : List Jt) (hreach : zs.length ≤ 1048576) (I : Nat → Nat → Prop) (J Jx : List (Nat × Jt) → World → Prop)
    (hY : ∀ pre x W, J pre W → pre.length < zs.length → YieldAt Fence.wide 3 Try.prog l (encsJ x) W fun e W' =>
      (e = .returned (.bool true) ∧ J (pre ++ [x]) W' ∧ (∀ b o, I b o → W'.cell? ⟨b, o, none⟩ = W.cell? ⟨b, o, none⟩)) ∨ (e = .returned (.bool false) ∧ Jx (pre ++ [x]) W'))
    (W : World) (hBs : W.cell? ⟨Bs, Os, none⟩ = some (.slice (some ⟨b, off, none⟩) zs.length cap)) (hIs : I Bs Os) (hc : ∀ j, j < zs.length → (W.cell? ⟨b, off + j * 4, none⟩ = some (.int .i64 (zs.getD j ⟨⟨0, 0⟩, ⟨0, 0⟩⟩).i.x) ∧ I b (off + j * 4)) ∧ (W.cell? ⟨b, off + j * 4 + 1, none⟩ = some (.int .i64 (zs.getD j ⟨⟨0, 0⟩, ⟨0, 0⟩⟩).i.y) ∧ I b (off + j * 4 + 1)) ∧ (W.cell? ⟨b, off + j * 4 + 2, none⟩ = some (.int .i64 (zs.getD j ⟨⟨0, 0⟩, ⟨0, 0⟩⟩).o.x) ∧ I b (off + j * 4 + 2)) ∧ (W.cell? ⟨b, off + j * 4 + 3, none⟩ = some (.int .i64 (zs.getD j ⟨⟨0, 0⟩, ⟨0, 0⟩⟩).o.y) ∧ I b (off + j * 4 + 3))) (h0 : J [] W) :
    CallsIn Fence.wide 4 Try.prog 154 #[.func (.yield l) #[] #[], .pointer (some ⟨Bs, Os, none⟩)] W fun e W' => (∃ v, e = .returned v) ∧
      ((∃ ys, ys = backJ zs 0 ∧ J ys W') ∨ (∃ pre, pre <+: backJ zs 0 ∧ Jx pre W')) := by
  refine callsIn_of_wp Try.func154 rfl trivial ?_ rfl
  simp only [Try.ntmps154, List.size_toArray, List.length_cons, List.length_nil, Nat.reduceAdd, Nat.reduceSub, Array.replicate_succ, Array.replicate_zero, List.push_toArray, List.append_toArray, List.nil_append, List.cons_append]
  gi_wp2
  gi_loopw [3] (fun i wr => ∃ m : Nat, m ≤ zs.length ∧ i = .int .i64 ((m : Int) - 1) ∧ J (backJ zs m) wr ∧ (∀ b o, I b o → wr.cell? ⟨b, o, none⟩ = W.cell? ⟨b, o, none⟩))
    (fun i _ => (intOf i + 1).toNat)
  case atStart => exact ⟨zs.length, Nat.le_refl _, congrArg (Value.int .i64) (by omega), by rw [backJ_all]; exact h0, fun _ _ _ => rfl⟩
  case round =>
    obtain ⟨m, hm, rfl, hJs, hnx⟩ := hrel
    cases m with
    | succ j =>
      rw [show ((j + 1 : Nat) : Int) - 1 = (j : Int) by omega]
      have hcs := hc j (by omega)
      have hc0 : wr.cell? ⟨b, off + j * 4, none⟩ = some (.int .i64 (zs.getD j ⟨⟨0, 0⟩, ⟨0, 0⟩⟩).i.x) := (hnx _ _ hcs.1.2).trans hcs.1.1
      have hc1 : wr.cell? ⟨b, off + j * 4 + 1, none⟩ = some (.int .i64 (zs.getD j ⟨⟨0, 0⟩, ⟨0, 0⟩⟩).i.y) := (hnx _ _ hcs.2.1.2).trans hcs.2.1.1
      have hc2 : wr.cell? ⟨b, off + j * 4 + 2, none⟩ = some (.int .i64 (zs.getD j ⟨⟨0, 0⟩, ⟨0, 0⟩⟩).o.x) := (hnx _ _ hcs.2.2.1.2).trans hcs.2.2.1.1
      have hc3 : wr.cell? ⟨b, off + j * 4 + 3, none⟩ = some (.int .i64 (zs.getD j ⟨⟨0, 0⟩, ⟨0, 0⟩⟩).o.y) := (hnx _ _ hcs.2.2.2.2).trans hcs.2.2.2.1
      have hB2 : wr.cell? ⟨Bs, Os, none⟩ = some (.slice (some ⟨b, off, none⟩) zs.length cap) := (hnx _ _ hIs).trans hBs
      obtain ⟨fn, tmps, assign, body, hy, hR⟩ := hY _ (j, zs.getD j ⟨⟨0, 0⟩, ⟨0, 0⟩⟩) wr hJs (by rw [backJ_len zs]; omega)
      dsimp only [encsJ] at hy
      obtain ⟨q, hq⟩ : ∃ q, zs.getD j ⟨⟨0, 0⟩, ⟨0, 0⟩⟩ = q := ⟨_, rfl⟩
      rw [hq] at hy hR hc0 hc1 hc2 hc3
      clear hcs
      obtain ⟨⟨qx, qy⟩, ⟨qu, qv⟩⟩ := q
      dsimp only at hy hc0 hc1 hc2 hc3
      have hst := backJ_step zs (j := j) (by omega)
      rw [hq] at hst
      gi_wp2
      refine hR.mono ?_
      rintro e W3 (⟨rfl, hJ3, hk3⟩ | ⟨rfl, hJx3⟩)
      · gi_wp2
        go_roundw
        case rel => exact ⟨j, by omega, rfl, by rw [hst]; exact hJ3, fun b o h => (hk3 b o h).trans (hnx b o h)⟩
        case measure => simp [intOf] <;> omega
      · gi_wp2
        refine bodyPost_ret (results_none rfl _ _ _) rfl ?_
        exact ⟨⟨_, rfl⟩, .inr ⟨_, backJ_pre zs j, by rw [hst]; exact hJx3⟩⟩
    | zero =>
      gi_wp2
      go_end0
      exact ⟨⟨_, rfl⟩, .inl ⟨_, rfl, hJs⟩⟩
set_option maxRecDepth 100000 in
set_option maxHeartbeats 1000000 in
theorem back0J (l Bs Os cap : Nat) (A : Option Addr) (J : List (Nat × Jt) → World → Prop) (W : World) (hBs : W.cell? ⟨Bs, Os, none⟩ = some (.slice A 0 cap)) (h0 : J [] W) :
    CallsIn Fence.wide 4 Try.prog 154 #[.func (.yield l) #[] #[], .pointer (some ⟨Bs, Os, none⟩)] W fun e W' => (∃ v, e = .returned v) ∧ J [] W' := by
  refine callsIn_of_wp Try.func154 rfl trivial ?_ rfl
  simp only [Try.ntmps154, List.size_toArray, List.length_cons, List.length_nil, Nat.reduceAdd, Nat.reduceSub, Array.replicate_succ, Array.replicate_zero, List.push_toArray, List.append_toArray, List.nil_append, List.cons_append]
  gi_wp2
  gi_loopw [3] (fun i wr => i = .int .i64 (-1) ∧ J [] wr) (fun _ _ => 0)
  case atStart => exact ⟨rfl, h0⟩
  case round =>
    obtain ⟨rfl, hJs⟩ := hrel
    gi_wp2
    go_end0
    exact ⟨⟨_, rfl⟩, hJs⟩
set_option maxHeartbeats 1000000 in
theorem backCJ (a : Option Addr) (len cap : Nat) (w : World) :
    Calls Try.prog 117 #[.slice a len cap] w fun e w' => e = .returned (.func (.func 154) #[] #[.pointer (some ⟨w.heap.size, 0, none⟩)]) ∧ w' = w.alloc (.cells #[.slice a len cap] 46) := by
  refine (callsIn_wide (n := 4)).1 (callsIn_of_wp Try.func117 rfl trivial ?_ rfl)
  simp only [Try.ntmps117, List.size_toArray, List.length_cons, List.length_nil, Nat.reduceAdd, Nat.reduceSub, Array.replicate_succ, Array.replicate_zero, List.push_toArray, List.append_toArray, List.nil_append, List.cons_append]
  gi_wp2
  go_ret
  exact ⟨rfl, rfl⟩
theorem backSeqJ (zs : List Jt) (hreach : zs.length ≤ 1048576) (I : Nat → Nat → Prop) (W0 : World) (Bs Os : Nat) (hd : dcells I W0 Bs Os [slJt zs]) :
    SeqStopsK Fence.wide 4 Try.prog 154 #[.pointer (some ⟨Bs, Os, none⟩)] encsJ (fun A C => ∀ b o, I b o → C.cell? ⟨b, o, none⟩ = A.cell? ⟨b, o, none⟩) (fun ys => ys = backJ zs 0) (fun pre => pre <+: backJ zs 0) zs.length W0 := by
  intro l J Jx W hW _ _ hY h0
  simp only [dcells, drep, and_true] at hd
  obtain ⟨z, hz, hI, A, c, rfl, hA, _⟩ := hd
  have up : ∀ b o v, W0.cell? ⟨b, o, none⟩ = some v → W.cell? ⟨b, o, none⟩ = some v := fun b o v h => (hW.cell (p := ⟨b, o, none⟩) (cell_lt (by rw [h]; rfl))).trans h
  have hz' := up _ _ _ hz
  rw [List.length_map] at hz'
  rcases hA with hA | ⟨b, o, rfl, hA⟩
  · have : zs = [] := by simpa using hA
    subst this
    exact (back0J l Bs Os c A J W hz' h0).mono fun e W' ⟨h1, h2⟩ => ⟨h1, .inl ⟨_, rfl, h2⟩⟩
  · refine back1J l Bs Os b o c zs hreach I J Jx hY W hz' hI (fun j hj => ?_) h0
    have hr := (drows_get hA (i := j) (r := (zs.getD j ⟨⟨0, 0⟩, ⟨0, 0⟩⟩).row) (by simp [hj])).2
    simp only [dcells, drep] at hr
    obtain ⟨⟨z1, h1, h2, rfl⟩, ⟨z2, h3, h4, rfl⟩, ⟨z3, h5, h6, rfl⟩, ⟨z4, h7, h8, rfl⟩, _⟩ := hr
    exact ⟨⟨up _ _ _ h1, h2⟩, ⟨up _ _ _ h3, h4⟩, ⟨up _ _ _ h5, h6⟩, up _ _ _ h7, h8⟩
end Go.Proofs.Ytkadjimnamcjbaa
