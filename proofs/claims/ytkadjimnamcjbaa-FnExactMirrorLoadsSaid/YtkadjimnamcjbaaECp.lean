/- copy into an array of the call's own. No program in sight. -/
import Derived.Test.YtkadjimnamcjbaaET
namespace Go.Eng
open Go

theorem run_copy_e {P : Program} (w : World) (dT sT ty elem : TypeId) (g dLen dCap e : Nat) (A : Option Addr) (sLen sCap : Nat) (cur : Array Value) (t : TypeId) (cs : List Value)
    (hu : P.underlying dT = some (.slice elem)) (hs : (P.info? elem).map (·.size) = some e) (hg : w.heap[g]? = some (.cells cur t (0, 0))) (hn : sLen = dLen) (hl : cs.length = dLen * e) (hcur : cur.size = dLen * e)
    (hsrc : cs = [] ∨ ∃ b o, A = some ⟨b, o, none⟩ ∧ ∀ j v, cs[j]? = some v → w.cell? ⟨b, o + j, none⟩ = some v) (h1 : ∀ v ∈ cs, v.oneCell' = true) :
    (Builtin.copy_ #[dT, sT] ty #[.slice (some ⟨g, 0, none⟩) dLen dCap, .slice A sLen sCap]).run P w = .ok (goInt dLen) (w.setRow g cs.toArray) := by
  subst hn
  have hst := run_storeCells_at P g 0 t cs 0 cur w hg (by omega) h1
  have hsz : cs.length = cur.toList.length := by simp; omega
  simp only [Nat.zero_add, List.take_zero, List.nil_append, hsz, List.drop_length, List.append_nil] at hst
  cases hq : P.info? elem with
  | none => simp [hq] at hs
  | some i =>
    have hi : i.size = e := by simpa [hq] using hs
    have hfc : (Builtin.firstCells e sLen (.slice A sLen sCap)).run P w = .ok cs.toArray w := by
      rcases hsrc with rfl | ⟨b, o, rfl, hsrc⟩
      · have h0 : sLen * e = 0 := by simpa using hl.symm
        cases A with
        | none => simp [Builtin.firstCells]
        | some a =>
          have := run_loadCells_list (P := P) w a [] (by simp)
          simpa [Builtin.firstCells, h0] using this
      · have := run_loadCells_list (P := P) w ⟨b, o, none⟩ cs (fun j v hj => by rw [addr_add]; exact hsrc j v hj)
        rw [hl] at this
        simpa [Builtin.firstCells] using this
    simp [Builtin.copy_, run_underlying hu, Builtin.lenOf, sizeOf, typeInfo, hq, hi, hfc, hst]
section
variable {E : En} {ops : Array Oper} {rest : List Oper} {Q : Exit → St → Prop} {tm : List (Nat × AV)} {bl bl' : List (Nat × List AV)} {ow : List Nat} {d : Nat} {ty : TypeId} {pos : String} {af : Array Edge}
theorem wcopy {x y : Operand} {t t2 n T' T e by_ len : Nat} {rows2 : List (List AV)} {old : List AV} {yv : AV} [hs : SlOk E.P t T e by_] (hx : ev tm x = .arr n T' e len) (hy : ev tm y = yv) (hr : arows yv = some (e, rows2)) (hlen : rows2.length = len) (hb : lookB bl n = some old) (hol : old.length = len * e) (hcell : ∀ x ∈ rows2.flatten, isCell x = true) (hro : n ∉ E.ron) (hsb : setBO bl n rows2.flatten = some bl') (hd : Nat.blt d E.nt = true)
    (hk : WL E ops rest Q ⟨(d, .v (.int .i64 len)) :: tm, bl', ow⟩) : WL E ops (⟨some d, .call ⟨.builtin .copy, #[x, y], #[t, t2]⟩, ty, pos, af, none⟩ :: rest) Q ⟨tm, bl, ow⟩ := by
  intro g a w hi
  unfold wpList
  rw [show Region.wanted ⟨some d, .call ⟨.builtin .copy, #[x, y], #[t, t2]⟩, ty, pos, af, none⟩ (yielded ops a.tmps) = true by simp [Region.wanted]]
  refine .inl ?_
  have h1 := rep_ev hi.tm x
  have h2 := rep_ev hi.tm y
  rw [hx] at h1; rw [hy] at h2
  simp only [rep] at h1
  obtain ⟨b, c, m1, _, hxv, _, _⟩ := h1
  have h2 := drep_arows h2 hr
  simp only [drep] at h2
  obtain ⟨A, cc, hyv, hA, _⟩ := h2
  obtain ⟨b', arr, e1, e2, e3, e4⟩ := hi.mem.blk n old (lookB_mem hb)
  have : b' = b := by rw [m1] at e1; exact (Option.some.inj e1).symm
  subst this
  have hal : arr.size = len * e := by have := reps_length e3; simp at this; omega
  subst hlen
  have hz : ∃ zs : List Value, dreps g.I w rows2.flatten zs ∧ zs.length = rows2.length * e ∧ (zs = [] ∨ ∃ b o, A = some ⟨b, o, none⟩ ∧ ∀ j v, zs[j]? = some v → w.cell? ⟨b, o + j, none⟩ = some v) := by
    rcases hA with rfl | ⟨b2, o2, rfl, hA⟩
    · exact ⟨[], by simp [dreps], by simp, .inl rfl⟩
    · obtain ⟨k1, k2⟩ := drows_iff.1 hA
      obtain ⟨zs, z1, z2, z3⟩ := dcells_list k2
      exact ⟨zs, z1, by rw [z2, flatten_length k1], .inr ⟨b2, o2, rfl, fun j v hj => (z3 j v hj).1⟩⟩
  obtain ⟨zs, z1, z2, z3⟩ := hz
  have hone : ∀ v ∈ zs, v.oneCell' = true := by
    have : ∀ (xs : List AV) (ys : List Value), reps g w xs ys → (∀ x ∈ xs, isCell x = true) → ∀ u ∈ ys, u.oneCell' = true := by
      intro xs
      induction xs with
      | nil => intro ys h _ u hu; simp only [reps] at h; subst h; simp at hu
      | cons x xs ih =>
        intro ys h ha u hu
        simp only [reps] at h
        obtain ⟨z, zs, rfl, k1, k2⟩ := h
        rcases List.mem_cons.1 hu with rfl | hu
        · exact oneCell_of k1 (ha x (by simp))
        · exact ih zs k2 (fun x' hx' => ha x' (by simp [hx'])) u hu
    exact this _ _ (reps_of_dreps z1) hcell
  obtain ⟨i, z, i1, _, i3, _, _⟩ := hs.info
  have hsz : (E.P.info? T).map (·.size) = some e := by rw [i1]; simp [i3]
  have hrun := run_copy_e (P := E.P) w t t2 ty T b' rows2.length c e A rows2.length cc arr (g.mt n) zs hs.und hsz e2 rfl z2 hal z3 hone
  have hex : (execOp a.eval ⟨some d, .call ⟨.builtin .copy, #[x, y], #[t, t2]⟩, ty, pos, af, none⟩).run E.P w = .ok (.value (goInt rows2.length)) (w.setRow b' zs.toArray) := by
    simp [execOp, resolve, invoke, builtin, hxv, hyv, hrun]
  unfold Oper.wp
  rw [hex]
  simp only [Oper.upon]
  obtain ⟨k1, k2⟩ := hi.mem.setBlock (cs := rows2.flatten) (arr := zs.toArray) m1 hro e2 e4 (by simpa using reps_of_dreps z1)
  rw [setBO_eq hsb] at k2
  have hi' : Inv E g ⟨tm, bl', ow⟩ a (w.setRow b' zs.toArray) := ⟨k2, fun t => rep_goes k1 (hi.tm t), hi.de, hi.sz⟩
  have := hi'.app (d := some d) (v := .v (.int .i64 rows2.length)) (y := goInt rows2.length) (nb := []) (no := []) (fun k hk => by cases hk; exact Nat.le_of_ble_eq_true hd) (Goes.refl _ _) (by simpa using k2) (by simp [rep, goInt])
  exact hk g _ _ this
end
end Go.Eng
