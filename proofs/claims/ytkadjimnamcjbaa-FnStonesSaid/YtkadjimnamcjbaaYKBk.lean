/- slices.Backward over points: what its iterator hands out. -/
import Derived.Test.YtkadjimnamcjbaaZ3
import Derived.Test.YtkadjimnamcjbaaYI
import Derived.Test.YtkadjimnamcjbaaYMPt
import Derived.Shelf.Abstract
import Derived.OwnWalkIn
import Derived.TacticsInMore
import Derived.LoopNIn
import Derived.LoopIn
import Derived.Maps.AppendAt
namespace Go.Proofs.Ytkadjimnamcjbaa
open Go.RowKit Go.Shelf Go.Eng
attribute [local go_sem] Oper.semAt_some


/-- What has come when the m last ones are still to come. -/
def backP (zs : List Pt) (m : Nat) : List (Nat × Pt) := ((List.range zs.length).reverse.take (zs.length - m)).map fun j => (j, zs.getD j ⟨0, 0⟩)
theorem backP_all (zs : List Pt) : backP zs zs.length = [] := by simp [backP]
theorem backP_step (zs : List Pt) {j : Nat} (h : j < zs.length) : backP zs j = backP zs (j + 1) ++ [(j, zs.getD j ⟨0, 0⟩)] := by
  unfold backP
  have e : zs.length - j = (zs.length - (j + 1)) + 1 := by omega
  rw [e, List.take_add_one, List.map_append]
  congr 1
  have h2 : (List.range zs.length).reverse[zs.length - (j + 1)]? = some j := by
    have e3 : zs.length - 1 - (zs.length - (j + 1)) = j := by omega
    rw [List.getElem?_reverse (by simp; omega), List.length_range, e3]
    simp [h]
  rw [h2]
  rfl
theorem backP_pre (zs : List Pt) (j : Nat) : backP zs j <+: backP zs 0 := by
  unfold backP
  exact List.IsPrefix.map _ (List.take_prefix_take_left (by omega))
theorem backP_len (zs : List Pt) {m : Nat} : (backP zs m).length = zs.length - m := by simp [backP]
/-- The elements alone. -/
theorem backP_map (zs : List Pt) : (backP zs 0).map (·.2) = zs.reverse := by
  unfold backP
  rw [Nat.sub_zero, List.take_of_length_le (by simp), List.map_map, List.map_reverse]
  congr 1
  apply List.ext_getElem
  · simp
  · intro i h1 h2
    simp at h1
    simp [h1]
abbrev encsP (x : Nat × Pt) : Array Value := #[.int .i64 (x.1 : Int), .agg #[.int .i64 x.2.x, .int .i64 x.2.y]]
set_option maxRecDepth 100000 in
set_option maxHeartbeats 2000000 in
theorem back1P (l Bs Os b off cap : Nat) (zs : List Pt) (hreach : zs.length ≤ 1048576) (I : Nat → Nat → Prop) (J Jx : List (Nat × Pt) → World → Prop)
    (hY : ∀ pre x W, J pre W → pre.length < zs.length → YieldAt Fence.wide 3 Try.prog l (encsP x) W fun e W' =>
      (e = .returned (.bool true) ∧ J (pre ++ [x]) W' ∧ (∀ b o, I b o → W'.cell? ⟨b, o, none⟩ = W.cell? ⟨b, o, none⟩)) ∨ (e = .returned (.bool false) ∧ Jx (pre ++ [x]) W'))
    (W : World) (hBs : W.cell? ⟨Bs, Os, none⟩ = some (.slice (some ⟨b, off, none⟩) zs.length cap)) (hIs : I Bs Os) (hc : ∀ j, j < zs.length → (W.cell? ⟨b, off + j * 2, none⟩ = some (.int .i64 (zs.getD j ⟨0, 0⟩).x) ∧ I b (off + j * 2)) ∧ W.cell? ⟨b, off + j * 2 + 1, none⟩ = some (.int .i64 (zs.getD j ⟨0, 0⟩).y) ∧ I b (off + j * 2 + 1)) (h0 : J [] W) :
    CallsIn Fence.wide 4 Try.prog 142 #[.func (.yield l) #[] #[], .pointer (some ⟨Bs, Os, none⟩)] W fun e W' => (∃ v, e = .returned v) ∧
      ((∃ ys, ys = backP zs 0 ∧ J ys W') ∨ (∃ pre, pre <+: backP zs 0 ∧ Jx pre W')) := by
  refine callsIn_of_wp Try.func142 rfl trivial ?_ rfl
  simp only [Try.ntmps142, List.size_toArray, List.length_cons, List.length_nil, Nat.reduceAdd, Nat.reduceSub, Array.replicate_succ, Array.replicate_zero, List.push_toArray, List.append_toArray, List.nil_append, List.cons_append]
  gi_wp2
  gi_loopw [3] (fun i wr => ∃ m : Nat, m ≤ zs.length ∧ i = .int .i64 ((m : Int) - 1) ∧ J (backP zs m) wr ∧ (∀ b o, I b o → wr.cell? ⟨b, o, none⟩ = W.cell? ⟨b, o, none⟩))
    (fun i _ => (intOf i + 1).toNat)
  case atStart => exact ⟨zs.length, Nat.le_refl _, congrArg (Value.int .i64) (by omega), by rw [backP_all]; exact h0, fun _ _ _ => rfl⟩
  case round =>
    obtain ⟨m, hm, rfl, hJs, hnx⟩ := hrel
    cases m with
    | succ j =>
      rw [show ((j + 1 : Nat) : Int) - 1 = (j : Int) by omega]
      have hcs := hc j (by omega)
      have hc0 : wr.cell? ⟨b, off + j * 2, none⟩ = some (.int .i64 (zs.getD j ⟨0, 0⟩).x) := (hnx _ _ hcs.1.2).trans hcs.1.1
      have hc1 : wr.cell? ⟨b, off + j * 2 + 1, none⟩ = some (.int .i64 (zs.getD j ⟨0, 0⟩).y) := (hnx _ _ hcs.2.2).trans hcs.2.1
      have hB2 : wr.cell? ⟨Bs, Os, none⟩ = some (.slice (some ⟨b, off, none⟩) zs.length cap) := (hnx _ _ hIs).trans hBs
      obtain ⟨fn, tmps, assign, body, hy, hR⟩ := hY _ (j, zs.getD j ⟨0, 0⟩) wr hJs (by rw [backP_len zs]; omega)
      dsimp only [encsP] at hy
      obtain ⟨q, hq⟩ : ∃ q, zs.getD j ⟨0, 0⟩ = q := ⟨_, rfl⟩
      rw [hq] at hy hR hc0 hc1
      clear hcs
      obtain ⟨qx, qy⟩ := q
      dsimp only at hy hc0 hc1
      have hst := backP_step zs (j := j) (by omega)
      rw [hq] at hst
      gi_wp2
      refine hR.mono ?_
      rintro e W3 (⟨rfl, hJ3, hk3⟩ | ⟨rfl, hJx3⟩)
      · gi_wp2
        go_roundw
        case rel => exact ⟨j, by omega, rfl, by rw [hst]; exact hJ3, fun b o h => (hk3 b o h).trans (hnx b o h)⟩
        case measure => simp [intOf] <;> omega
      · gi_wp2
        refine bodyPost_ret (results_none rfl _ _ _) rfl ?_
        exact ⟨⟨_, rfl⟩, .inr ⟨_, backP_pre zs j, by rw [hst]; exact hJx3⟩⟩
    | zero =>
      gi_wp2
      go_end0
      exact ⟨⟨_, rfl⟩, .inl ⟨_, rfl, hJs⟩⟩
set_option maxRecDepth 100000 in
set_option maxHeartbeats 1000000 in
theorem back0P (l Bs Os cap : Nat) (A : Option Addr) (J : List (Nat × Pt) → World → Prop) (W : World) (hBs : W.cell? ⟨Bs, Os, none⟩ = some (.slice A 0 cap)) (h0 : J [] W) :
    CallsIn Fence.wide 4 Try.prog 142 #[.func (.yield l) #[] #[], .pointer (some ⟨Bs, Os, none⟩)] W fun e W' => (∃ v, e = .returned v) ∧ J [] W' := by
  refine callsIn_of_wp Try.func142 rfl trivial ?_ rfl
  simp only [Try.ntmps142, List.size_toArray, List.length_cons, List.length_nil, Nat.reduceAdd, Nat.reduceSub, Array.replicate_succ, Array.replicate_zero, List.push_toArray, List.append_toArray, List.nil_append, List.cons_append]
  gi_wp2
  gi_loopw [3] (fun i wr => i = .int .i64 (-1) ∧ J [] wr) (fun _ _ => 0)
  case atStart => exact ⟨rfl, h0⟩
  case round =>
    obtain ⟨rfl, hJs⟩ := hrel
    gi_wp2
    go_end0
    exact ⟨⟨_, rfl⟩, hJs⟩
set_option maxHeartbeats 1000000 in
theorem backCP (a : Option Addr) (len cap : Nat) (w : World) :
    Calls Try.prog 97 #[.slice a len cap] w fun e w' => e = .returned (.func (.func 142) #[] #[.pointer (some ⟨w.heap.size, 0, none⟩)]) ∧ w' = w.alloc (.cells #[.slice a len cap] 24) := by
  refine (callsIn_wide (n := 4)).1 (callsIn_of_wp Try.func97 rfl trivial ?_ rfl)
  simp only [Try.ntmps97, List.size_toArray, List.length_cons, List.length_nil, Nat.reduceAdd, Nat.reduceSub, Array.replicate_succ, Array.replicate_zero, List.push_toArray, List.append_toArray, List.nil_append, List.cons_append]
  gi_wp2
  go_ret
  exact ⟨rfl, rfl⟩
theorem backSeqP (zs : List Pt) (hreach : zs.length ≤ 1048576) (I : Nat → Nat → Prop) (W0 : World) (Bs Os : Nat) (hd : dcells I W0 Bs Os [slPt zs]) :
    SeqStopsK Fence.wide 4 Try.prog 142 #[.pointer (some ⟨Bs, Os, none⟩)] encsP (fun A C => ∀ b o, I b o → C.cell? ⟨b, o, none⟩ = A.cell? ⟨b, o, none⟩) (fun ys => ys = backP zs 0) (fun pre => pre <+: backP zs 0) zs.length W0 := by
  intro l J Jx W hW _ _ hY h0
  simp only [dcells, drep, and_true] at hd
  obtain ⟨z, hz, hI, A, c, rfl, hA, _⟩ := hd
  have up : ∀ b o v, W0.cell? ⟨b, o, none⟩ = some v → W.cell? ⟨b, o, none⟩ = some v := fun b o v h => (hW.cell (p := ⟨b, o, none⟩) (cell_lt (by rw [h]; rfl))).trans h
  have hz' := up _ _ _ hz
  rw [List.length_map] at hz'
  rcases hA with hA | ⟨b, o, rfl, hA⟩
  · have : zs = [] := by simpa using hA
    subst this
    exact (back0P l Bs Os c A J W hz' h0).mono fun e W' ⟨h1, h2⟩ => ⟨h1, .inl ⟨_, rfl, h2⟩⟩
  · refine back1P l Bs Os b o c zs hreach I J Jx hY W hz' hI (fun j hj => ?_) h0
    have hr := (drows_get hA (i := j) (r := (zs.getD j ⟨0, 0⟩).row) (by simp [hj])).2
    simp only [dcells, drep] at hr
    obtain ⟨⟨z1, h1, h2, rfl⟩, ⟨z2, h3, h4, rfl⟩, _⟩ := hr
    exact ⟨⟨up _ _ _ h1, h2⟩, up _ _ _ h3, h4⟩
end Go.Proofs.Ytkadjimnamcjbaa
