/- append to nil, taken as an array of the call's own. -/
import Derived.Test.YtikbndfbjgdldaaER
import Derived.Test.YtikbndfbjgdldaaEP
namespace Go.Eng
open Go

section
variable {E : En} {ops : Array Oper} {rest : List Oper} {Q : Exit → St → Prop} {tm : List (Nat × AV)} {bl : List (Nat × List AV)} {ow : List Nat} {d : Nat} {ty : TypeId} {pos : String} {af : Array Edge}
/-- append(nil, xs...): the rows are there, in a block of the call's own. -/
theorem wapp0A {x y : Operand} {t N T e by_ : Nat} {rows : List (List AV)} {yv : AV} [hs : SlOk E.P t T e by_] (hx : ev tm x = .v (.slice none 0 0)) (hy : ev tm y = yv) (hr : arows yv = some (e, rows)) (hpl : ∀ x ∈ rows.flatten, plain x = true) (hcell : ∀ x ∈ rows.flatten, isCell x = true) (_hl : ∀ r ∈ rows, r.length = e) (h0 : 0 < rows.length) (hlen : rows.length ≤ 1048576) (hb' : Nat.ble by_ 134217728 = true)
    (hN : Nat.ble 1000000 N = true) (hd : Nat.blt d E.nt = true) (hfr : bl.all (fun q => !Nat.beq q.1 N) = true) (hk : ∀ more, MoreOk e more → WL E ops rest Q ⟨(d, .arr N T e rows.length) :: tm, (N, (rows ++ more).flatten) :: bl, ow⟩) : WL E ops (⟨some d, .call ⟨.builtin .append, #[x, y], #[t, t]⟩, ty, pos, af, none⟩ :: rest) Q ⟨tm, bl, ow⟩ := by
  intro g a w hi
  unfold wpList
  rw [show Region.wanted ⟨some d, .call ⟨.builtin .append, #[x, y], #[t, t]⟩, ty, pos, af, none⟩ (yielded ops a.tmps) = true by simp [Region.wanted]]
  refine .inl ?_
  have hm := hi.mem
  have h1 := rep_ev hi.tm x
  have h2 := rep_ev hi.tm y
  rw [hx] at h1; rw [hy] at h2
  simp only [rep] at h1
  have hu := drep_arows h2 hr
  obtain ⟨in0, iz, i1, i2, i3, i4, i5⟩ := hs.info
  have hb8 := Nat.le_of_ble_eq_true hb'
  have hbytes : (0 + rows.length) * by_ ≤ 140737488355328 := Nat.le_trans (Nat.mul_le_mul (show 0 + rows.length ≤ 1048576 by omega) hb8) (by decide)
  simp only [drep] at hu
  obtain ⟨A, c2, hyv, hA, hc⟩ := hu
  obtain ⟨b2, o2, rfl, hrows⟩ := hA.resolve_left (fun e => by rw [e] at h0; simp at h0)
  obtain ⟨news, n1, n2, n3⟩ := drows_flat hrows
  have hnews : ∀ j z, news[j]? = some z → w.cell? ((⟨b2, o2, none⟩ : Addr).add j) = some z := fun j z hj => by rw [addr_add]; exact n3 j z hj
  have hone := cells_one n1 hcell
  obtain ⟨v', w', r1, r2, r3, _⟩ := run_append_own (P := E.P) w w.heap.size t ty T in0 iz e by_ hs.und i1 i2 i3 i4 i5 hs.pos (.slice none 0 0) 0 [] ⟨by simp, .inl ⟨rfl, rfl⟩⟩ ⟨b2, o2, none⟩ rows.length c2 news n2 hnews hone (by unfold maxLen; omega) hbytes (Nat.le_refl _)
  rw [Nat.zero_add, List.nil_append] at r2
  obtain ⟨q0, q1⟩ := r2
  obtain ⟨b, c, arr, rfl, bge, b5, b3, _, b6, htake⟩ := q1.resolve_left (fun h => by omega)
  unfold Oper.wp
  have hrun : (execOp a.eval ⟨some d, .call ⟨.builtin .append, #[x, y], #[t, t]⟩, ty, pos, af, none⟩).run E.P w = .ok (.value (.slice (some ⟨b, 0, none⟩) rows.length c)) w' := by
    simp [execOp, resolve, invoke, builtin, h1, hyv, r1]
  rw [hrun]
  have heap : ∀ k, k < w.heap.size → w'.heap[k]? = w.heap[k]? := fun k hk => r3.block k hk (by simp [Value.ownBlock])
  have hsz := r3.size
  have hb : w.heap.size ≤ b ∧ b < w'.heap.size := ⟨bge, (Array.getElem?_eq_some_iff.1 b5).1⟩
  have hIlt : ∀ b o, g.I b o → b < w.heap.size := fun b o hb => cell_lt (hm.cell b o hb)
  have keeps : Keeps g.I w w' := fun b o hb => World.cell?_of_block (a := ⟨b, o, none⟩) (heap b (hIlt b o hb))
  have hfr' : ∀ q ∈ bl, q.1 ≠ N := fun q hq e => by
    have := List.all_eq_true.1 hfr q hq
    simp [e] at this
  have hnone : g.m N = none := by
    cases hmN : g.m N with
    | none => rfl
    | some b' => obtain ⟨cs, hc⟩ := hm.key N b' hmN; exact absurd rfl (hfr' _ hc)
  let gc : Gh := { g with m := fun k => if k = N then some b else g.m k, mt := fun k => if k = N then T else g.mt k }
  have hmm : ∀ k b', gc.m k = some b' → (k = N ∧ b' = b) ∨ (k ≠ N ∧ g.m k = some b') := fun k b' hk => by
    by_cases e : k = N
    · simp only [gc, e, if_true, Option.some.injEq] at hk; exact .inl ⟨e, hk.symm⟩
    · simp only [gc, e, if_false] at hk; exact .inr ⟨e, hk⟩
  have goes : Goes g w gc w' := by
    refine ⟨fun _ _ h => h, keeps, fun k b' hk => ?_, fun k b' hk => ?_, fun k T' e' rows' y' hy' => ownRep_goes (g := g) (g' := gc) (fun _ _ h => h) keeps (fun k hk => ⟨hk, rfl⟩) (fun k b' k1 k2 => heap b' (hm.ofr k b' k1 k2).2) (fun _ _ _ _ _ h => h) hy'⟩
    · have : k ≠ N := fun e => by rw [e, hnone] at hk; cases hk
      simp only [gc, this, if_false]; exact hk
    · have : k ≠ N := fun e => by rw [e, hnone] at hk; cases hk
      simp only [gc, this, if_false]
  let more : List (List AV) := List.replicate (c - rows.length) (List.replicate e .top)
  have hmore : MoreOk e more := fun r hr => by
    rw [List.eq_of_mem_replicate hr]
    exact ⟨by simp, fun x hx => by rw [List.eq_of_mem_replicate hx]; rfl⟩
  have hml : more.flatten.length = (c - rows.length) * e := by
    rw [flatten_length (e := e) (fun r hr => (hmore r hr).1)]; simp [more]
  have hce : c * e = rows.length * e + (c - rows.length) * e := by rw [← Nat.add_mul]; congr 1; omega
  have hreps : reps gc w' (rows ++ more).flatten arr.toList := by
    rw [List.flatten_append, ← List.take_append_drop (rows.length * e) arr.toList]
    refine reps_append (reps_plain (g := g) (w := w') hpl (by rw [htake]; exact reps_of_dreps (dreps_mono (fun _ _ h => h) keeps n1))) (reps_tops _ _ ?_ ?_)
    · rw [List.all_eq_true]
      intro x hx
      obtain ⟨r, hr, hx⟩ := List.mem_flatten.1 hx
      rw [List.eq_of_mem_replicate hr] at hx
      rw [List.eq_of_mem_replicate hx]; rfl
    · have ea : arr.toList.length = arr.size := by simp
      rw [hml, List.length_drop, ea, b6]; omega
  have hmem : Mem E gc ((N, (rows ++ more).flatten) :: bl) ow w' :=
    { below := ⟨r3.os.trans hm.below.os, r3.tape.trans hm.below.tape, r3.output.trans hm.below.output, Nat.le_trans hm.below.size hsz, fun k hk hM => (heap k (Nat.lt_of_lt_of_le hk hm.base)).trans (hm.below.block k hk hM)⟩
      base := Nat.le_trans hm.base hsz
      cell := fun b' o hbo => by rw [keeps b' o hbo]; exact hm.cell b' o hbo
      mfr := fun k b' hk => by
        rcases hmm k b' hk with ⟨rfl, rfl⟩ | ⟨_, k2⟩
        · exact ⟨.inr (.inl (Nat.le_trans hm.base hb.1)), hb.2⟩
        · exact ⟨(hm.mfr k b' k2).1, Nat.lt_of_lt_of_le (hm.mfr k b' k2).2 hsz⟩
      ofr := fun k b' k1 k2 => ⟨(hm.ofr k b' k1 k2).1, Nat.lt_of_lt_of_le (hm.ofr k b' k1 k2).2 hsz⟩
      minj := fun k k' b' k1 k2 => by
        rcases hmm k b' k1 with ⟨rfl, rfl⟩ | ⟨_, k3⟩ <;> rcases hmm k' _ k2 with ⟨rfl, k4⟩ | ⟨_, k4⟩
        · rfl
        · have := (hm.mfr k' _ k4).2; have := hb.1; omega
        · subst k4; have := (hm.mfr k _ k3).2; have := hb.1; omega
        · exact hm.minj k k' b' k3 k4
      oinj := hm.oinj
      disj := fun k k' b' k1 k2 k3 => by
        rcases hmm k b' k1 with ⟨rfl, rfl⟩ | ⟨_, k4⟩
        · have := (hm.ofr k' _ k2 k3).2; have := hb.1; omega
        · exact hm.disj k k' b' k4 k2 k3
      blk := fun k ds hk => by
        rcases List.mem_cons.1 hk with hk | hk
        · cases hk
          exact ⟨b, arr, by simp only [gc, if_true], by simp only [gc, if_true]; exact b5, hreps, fun o ho => by have := hIlt _ o ho; have := hb.1; omega⟩
        · obtain ⟨b', arr', q1, q2, q3, q4⟩ := hm.blk k ds hk
          exact ⟨b', arr', goes.m k b' q1, by rw [goes.mt k b' q1]; exact (heap b' (hm.mfr k b' q1).2).trans q2, reps_goes goes q3, q4⟩
      key := fun k b' hk => by
        rcases hmm k b' hk with ⟨rfl, rfl⟩ | ⟨_, k2⟩
        · exact ⟨_, List.mem_cons_self ..⟩
        · obtain ⟨cs, hc⟩ := hm.key k b' k2; exact ⟨cs, List.mem_cons_of_mem _ hc⟩
      own := hm.own
      inew := hm.inew
      iold := hm.iold
      pin := fun k b' T' hp => ⟨goes.m k b' (hm.pin k b' T' hp).1, (goes.mt k b' (hm.pin k b' T' hp).1).trans (hm.pin k b' T' hp).2⟩ }
  have hz' : rep gc w' (.arr N T e rows.length) (.slice (some ⟨b, 0, none⟩) rows.length c) := by
    simp only [rep]
    exact ⟨b, c, by simp only [gc, if_true], by simp only [gc, if_true], rfl, b3, fun h => by have := Nat.le_of_ble_eq_true hN; omega⟩
  have hi' : Inv E g ⟨tm, bl, ow⟩ a w := hi
  have := hi'.app (d := some d) (v := .arr N T e rows.length) (y := .slice (some ⟨b, 0, none⟩) rows.length c) (nb := [(N, (rows ++ more).flatten)]) (no := []) (fun k hk => by cases hk; exact Nat.le_of_ble_eq_true hd) goes (by simpa using hmem) hz'
  exact hk more hmore gc _ w' this
end
end Go.Eng
