/- A call that marks a slice of the caller's own. No program in sight. -/
import Derived.Test.YtikbndfbjgdldaaEL
namespace Go.Eng
open Go

theorem W_weaken {E : En} {c : Code} {Q : Exit → St → Prop} {s s' : St} (hw : Weak E s s') (h : W E c Q s') : W E c Q s := fun g a w hi =>
  let ⟨g', hi'⟩ := hw g a w hi
  h g' a w hi'
theorem dreps_take {g : Gh} {I : Nat → Nat → Prop} {w w' : World} : ∀ {xs zs : List AV} {ys : List Value}, (∀ x ∈ xs, plain x = true) → reps g w (xs ++ zs) ys → dreps I w' xs (ys.take xs.length)
  | [], zs, ys, _, _ => by simp [dreps]
  | x :: xs, zs, ys, hp, h => by
    simp only [List.cons_append, reps] at h
    obtain ⟨y, ys', rfl, h1, h2⟩ := h
    simp only [List.length_cons, List.take_succ_cons, dreps]
    refine ⟨y, _, rfl, ?_, dreps_take (fun z hz => hp z (by simp [hz])) h2⟩
    have := hp x (by simp)
    cases x <;> simp_all [plain, rep, drep]
theorem dreps_plain {I I' : Nat → Nat → Prop} {w w' : World} : ∀ {xs : List AV} {ys : List Value}, (∀ x ∈ xs, plain x = true) → dreps I w xs ys → dreps I' w' xs ys
  | [], ys, _, h => by simpa only [dreps] using h
  | x :: xs, ys, hp, h => by
    simp only [dreps] at h ⊢
    obtain ⟨y, zs, e, h1, h2⟩ := h
    refine ⟨y, zs, e, ?_, dreps_plain (fun z hz => hp z (by simp [hz])) h2⟩
    have := hp x (by simp)
    cases x <;> simp_all [plain, drep]
/-- How the state reads behind the call. -/
inductive Mks (n T e : Nat) (rows rows' : List (List AV)) : List AV → List AV → Prop where
  | nil : Mks n T e rows rows' [] []
  | v {x : Value} {xs ys : List AV} (hs : Mks n T e rows rows' xs ys) : Mks n T e rows rows' (.v x :: xs) (.v x :: ys)
  | top {x : AV} {xs ys : List AV} (hs : Mks n T e rows rows' xs ys) : Mks n T e rows rows' (x :: xs) (.top :: ys)
  | ptr {k o : Nat} {xs ys : List AV} (hs : Mks n T e rows rows' xs ys) : Mks n T e rows rows' (.ptr k o :: xs) (.ptr k o :: ys)
  | agg {cs ds xs ys : List AV} (h : Mks n T e rows rows' cs ds) (hs : Mks n T e rows rows' xs ys) : Mks n T e rows rows' (.agg cs :: xs) (.agg ds :: ys)
  | own {xs ys : List AV} (hs : Mks n T e rows rows' xs ys) : Mks n T e rows rows' (.own n T e rows :: xs) (.own n T e rows' :: ys)
  | oth {k T0 e0 : Nat} {rows0 : List (List AV)} {xs ys : List AV} (hk : Nat.beq k n = false) (hp : ∀ x ∈ rows0.flatten, plain x = true) (hs : Mks n T e rows rows' xs ys) : Mks n T e rows rows' (.own k T0 e0 rows0 :: xs) (.own k T0 e0 rows0 :: ys)
theorem reps_mks {g : Gh} {w w' : World} {n T e : Nat} {rows rows' : List (List AV)} (hA : ∀ y, ownRep g w n T e rows y → ownRep g w' n T e rows' y) (hB : ∀ k T0 e0 rows0 y, k ≠ n → (∀ x ∈ rows0.flatten, plain x = true) → ownRep g w k T0 e0 rows0 y → ownRep g w' k T0 e0 rows0 y)
    {xs ys : List AV} (h : Mks n T e rows rows' xs ys) : ∀ {zs : List Value}, reps g w xs zs → reps g w' ys zs := by
  induction h with
  | nil => intro zs h; simpa only [reps] using h
  | v _ ih => intro zs h; simp only [reps, rep] at h ⊢; obtain ⟨y, zs', e, h1, h2⟩ := h; exact ⟨y, zs', e, h1, ih h2⟩
  | top _ ih => intro zs h; simp only [reps, rep] at h ⊢; obtain ⟨y, zs', e, h1, h2⟩ := h; exact ⟨y, zs', e, trivial, ih h2⟩
  | ptr _ ih => intro zs h; simp only [reps, rep] at h ⊢; obtain ⟨y, zs', e, h1, h2⟩ := h; exact ⟨y, zs', e, h1, ih h2⟩
  | agg _ _ ih1 ih2 => intro zs h; simp only [reps, rep] at h ⊢; obtain ⟨y, zs', e, ⟨a, ea, h1⟩, h2⟩ := h; exact ⟨y, zs', e, ⟨a, ea, ih1 h1⟩, ih2 h2⟩
  | own _ ih => intro zs h; simp only [reps, rep] at h ⊢; obtain ⟨y, zs', e, h1, h2⟩ := h; exact ⟨y, zs', e, hA y h1, ih h2⟩
  | oth hk hp _ ih => intro zs h; simp only [reps, rep] at h ⊢; obtain ⟨y, zs', e, h1, h2⟩ := h; exact ⟨y, zs', e, hB _ _ _ _ y (fun e => by subst e; simp at hk) hp h1, ih h2⟩
/-- What is handed over: the slice by its pinned name. -/
inductive MkOs (n T e : Nat) (rows : List (List AV)) : List AV → List AV → Prop where
  | nil : MkOs n T e rows [] []
  | v {x : Value} {xs ys : List AV} (hs : MkOs n T e rows xs ys) : MkOs n T e rows (.v x :: xs) (.v x :: ys)
  | own {l : Nat} {xs ys : List AV} (hl : l = rows.length) (hs : MkOs n T e rows xs ys) : MkOs n T e rows (.own n T e rows :: xs) (.arr 1000000 T e l :: ys)
  | agg {cs ds xs ys : List AV} (h : MkOs n T e rows cs ds) (hs : MkOs n T e rows xs ys) : MkOs n T e rows (.agg cs :: xs) (.agg ds :: ys)
theorem reps_mkO {g : Gh} {w : World} {n T e b : Nat} {rows : List (List AV)} (hA : ∀ y, ownRep g w n T e rows y → ∃ c, y = .slice (some ⟨b, 0, none⟩) rows.length c ∧ rows.length ≤ c) {xs ys : List AV} (h : MkOs n T e rows xs ys) : ∀ {zs : List Value}, reps g w xs zs → reps (gM b T) w ys zs := by
  induction h with
  | nil => intro zs h; simpa only [reps] using h
  | v _ ih => intro zs h; simp only [reps, rep] at h ⊢; obtain ⟨y, zs', e, h1, h2⟩ := h; exact ⟨y, zs', e, h1, ih h2⟩
  | own hl _ ih =>
    intro zs h
    subst hl
    simp only [reps, rep] at h ⊢
    obtain ⟨y, zs', e, h1, h2⟩ := h
    obtain ⟨c, k1, k2⟩ := hA y h1
    exact ⟨y, zs', e, ⟨b, c, by simp [gM], rfl, k1, k2, fun h => by omega⟩, ih h2⟩
  | agg _ _ ih1 ih2 => intro zs h; simp only [reps, rep] at h ⊢; obtain ⟨y, zs', e, ⟨a, ea, h1⟩, h2⟩ := h; exact ⟨y, zs', e, ⟨a, ea, ih1 h1⟩, ih2 h2⟩

theorem own_here {g : Gh} {w : World} {n T e : Nat} {rows : List (List AV)} {y : Value} (h : ownRep g w n T e rows y) (h0 : 0 < rows.length) :
    ∃ b c arr, g.om n = some b ∧ y = .slice (some ⟨b, 0, none⟩) rows.length c ∧ rows.length ≤ c ∧ c ≤ maxLen ∧ w.heap[b]? = some (.cells arr T (0, 0)) ∧ arr.size = c * e ∧ dreps g.I w rows.flatten (arr.toList.take (rows.length * e)) := by
  obtain ⟨_, h2, xs, ⟨h3, h4⟩, h5, _⟩ := h
  rcases h4 with ⟨_, h4⟩ | ⟨b, c, arr, rfl, _, k2, k3, k4, k5, rfl⟩
  · omega
  · exact ⟨b, c, arr, h2.symm, rfl, k3, k4, k2, k5, h5⟩
/-- Slots, then blocks: how they read behind the call. -/
def MkT (n T e : Nat) (rows rows' : List (List AV)) : List (Nat × AV) → List (Nat × AV) → Prop
  | [], [] => True
  | (t, x) :: r, (t', y) :: r' => t = t' ∧ Mks n T e rows rows' [x] [y] ∧ MkT n T e rows rows' r r'
  | _, _ => False
def MkB (n T e : Nat) (rows rows' : List (List AV)) : List (Nat × List AV) → List (Nat × List AV) → Prop
  | [], [] => True
  | (k, x) :: r, (k', y) :: r' => k = k' ∧ Mks n T e rows rows' x y ∧ MkB n T e rows rows' r r'
  | _, _ => False
theorem look_mkT {n T e : Nat} {rows rows' : List (List AV)} (t : Nat) : ∀ {tm tm' : List (Nat × AV)}, MkT n T e rows rows' tm tm' → Mks n T e rows rows' [look tm t] [look tm' t]
  | [], [], _ => .top .nil
  | (k, x) :: r, (k', y) :: r', h => by
    obtain ⟨rfl, h1, h2⟩ := h
    simp only [look]
    cases Nat.beq k t
    · exact look_mkT t h2
    · exact h1
  | [], _ :: _, h => h.elim
  | _ :: _, [], h => h.elim
theorem mem_mkB {n T e : Nat} {rows rows' : List (List AV)} : ∀ {bl bl' : List (Nat × List AV)}, MkB n T e rows rows' bl bl' → (∀ k ds, (k, ds) ∈ bl' → ∃ cs, (k, cs) ∈ bl ∧ Mks n T e rows rows' cs ds) ∧ ∀ k cs, (k, cs) ∈ bl → ∃ ds, (k, ds) ∈ bl'
  | [], [], _ => ⟨fun _ _ h => by simp at h, fun _ _ h => by simp at h⟩
  | (k, x) :: r, (k', y) :: r', h => by
    obtain ⟨rfl, h1, h2⟩ := h
    obtain ⟨i1, i2⟩ := mem_mkB h2
    refine ⟨fun j ds hj => ?_, fun j cs hj => ?_⟩
    · rcases List.mem_cons.1 hj with hj | hj
      · cases hj; exact ⟨x, by simp, h1⟩
      · obtain ⟨cs, k1, k2⟩ := i1 j ds hj; exact ⟨cs, by simp [k1], k2⟩
    · rcases List.mem_cons.1 hj with hj | hj
      · cases hj; exact ⟨y, by simp⟩
      · obtain ⟨ds, k1⟩ := i2 j cs hj; exact ⟨ds, by simp [k1]⟩
  | [], _ :: _, h => h.elim
  | _ :: _, [], h => h.elim
section
variable {E : En} {ops : Array Oper} {rest : List Oper} {Q : Exit → St → Prop} {tm tm' : List (Nat × AV)} {bl bl' : List (Nat × List AV)} {ow : List Nat} {d : Nat} {ty : TypeId} {pos : String} {af : Array Edge}
theorem wlw {x : Operand} {xs : Array Operand} {ts : Array TypeId} {f T e n t0 : Nat} {args : List AV} {rows rows' : List (List AV)} {r : Value} [hf : FnOk E.P f] (h : CallMark E.P f T e args rows rows' r) (h0 : Nat.blt 0 rows.length = true) (hlen : rows'.length = rows.length) (hl' : ∀ r ∈ rows', r.length = e) (hx : ev tm x = .v (.func (.func f) #[] #[]))
    (hat : look tm t0 = .agg [.own n T e rows]) (ha : MkOs n T e rows (xs.toList.map (ev tm)) args) (hp : ∀ x ∈ rows.flatten, plain x = true) (hp' : ∀ x ∈ rows'.flatten, plain x = true) (ht : MkT n T e rows rows' tm tm') (hb : MkB n T e rows rows' bl bl') (hd : Nat.blt d E.nt = true)
    (hk : WL E ops rest Q ⟨(d, .v r) :: tm', bl', ow⟩) : WL E ops (⟨some d, .call ⟨.value x, xs, ts⟩, ty, pos, af, none⟩ :: rest) Q ⟨tm, bl, ow⟩ := by
  intro g a w hi
  unfold wpList
  rw [show Region.wanted ⟨some d, .call ⟨.value x, xs, ts⟩, ty, pos, af, none⟩ (yielded ops a.tmps) = true by simp [Region.wanted]]
  refine .inl ?_
  have h1 := rep_ev hi.tm x
  have h2 : reps g w (xs.toList.map (ev tm)) (xs.toList.map a.eval) := reps_map _ fun y _ => rep_ev hi.tm y
  rw [hx] at h1
  simp only [rep] at h1
  obtain ⟨fn, f1, f2, f3⟩ := hf.ok
  have f2' : fn.name ≠ "runtime.NumGoroutine" := by simpa using f2
  have f3' : fn.body ≠ none := fun e => by rw [e] at f3; simp at f3
  have hrun : (execOp a.eval ⟨some d, .call ⟨.value x, xs, ts⟩, ty, pos, af, none⟩).run E.P w = .ok (.enter f (xs.map a.eval)) w := by
    simp [execOp, resolve, Deferred.ofValue, h1, invoke, callFunc, f1, f2', f3']
  unfold Oper.wp
  rw [hrun]
  have h0' := Nat.le_of_ble_eq_true h0
  have hy0 := hi.tm t0
  simp only [hat, rep, reps] at hy0
  obtain ⟨_, _, y0, _, _, hy0, _⟩ := hy0
  have hl : ∀ r ∈ rows, r.length = e := by
    obtain ⟨_, _, _, _, _, hl, _⟩ := hy0
    exact hl
  have hog : g.ow n := hy0.1
  have hIn : ∀ b, g.om n = some b → (∀ o, o < rows.length * e → g.I b o) ∧ ∀ o, rows.length * e ≤ o → ¬ g.I b o := by
    obtain ⟨_, _, _, _, _, _, hI⟩ := hy0
    exact hI
  obtain ⟨b, c, arr, b1, _, b3, b4, b5, b6, b7⟩ := own_here hy0 h0'
  have hbB := hi.mem.ofr n b hog b1
  let more : List (List AV) := List.replicate (c - rows.length) (List.replicate e .top)
  have hmore : MoreOk e more := fun r hr => by
    rw [List.eq_of_mem_replicate hr]
    exact ⟨by simp, fun x hx => by rw [List.eq_of_mem_replicate hx]; rfl⟩
  have hml : more.flatten.length = (c - rows.length) * e := by
    rw [flatten_length (e := e) (fun r hr => (hmore r hr).1)]; simp [more]
  have hce : c * e = rows.length * e + (c - rows.length) * e := by rw [← Nat.add_mul]; congr 1; omega
  have hrl := flatten_length hl
  have hreps : reps (gM b T) w (rows ++ more).flatten arr.toList := by
    rw [List.flatten_append, ← List.take_append_drop (rows.length * e) arr.toList]
    refine reps_append (reps_plain (g := g) (w := w) hp (reps_of_dreps b7)) (reps_tops _ _ ?_ ?_)
    · rw [List.all_eq_true]
      intro x hx
      obtain ⟨r, hr, hx⟩ := List.mem_flatten.1 hx
      rw [List.eq_of_mem_replicate hr] at hx
      rw [List.eq_of_mem_replicate hx]; rfl
    · have ea : arr.toList.length = arr.size := by simp
      rw [hml, List.length_drop, ea, b6]; omega
  have hc := h w b (xs.map a.eval) arr more hmore b5 hreps (by
    rw [Array.toList_map]
    refine reps_mkO (fun y hy => ?_) ha h2
    obtain ⟨b', c', _, k1, k2, k3, _⟩ := own_here hy h0'
    rw [b1] at k1
    cases k1
    exact ⟨c', k2, k3⟩)
  refine hc.mono fun e' w' he => ?_
  obtain ⟨rfl, hB, arr', n1, g', n2⟩ := he
  have hsz : arr'.size = arr.size := by
    have := reps_length n2
    have ea : arr'.toList.length = arr'.size := by simp
    rw [List.flatten_append, List.length_append, flatten_length hl', hml, hlen, ea] at this
    omega
  have other : ∀ k, k < w.heap.size → k ≠ b → w'.heap[k]? = w.heap[k]? := fun k h1 h2 => hB.block k h1 h2
  have hA : ∀ y, ownRep g w n T e rows y → ownRep g w' n T e rows' y := fun y hy => by
    obtain ⟨b', c', ar, k1, k2, k3, k4, k5, k6, _⟩ := own_here hy h0'
    rw [b1] at k1
    cases k1
    have : ar = arr := by rw [b5] at k5; cases k5; rfl
    subst this
    refine ⟨hy.1, hy.2.1, arr'.toList.take (rows.length * e), ⟨by rw [hlen, List.length_take, show arr'.toList.length = arr'.size by simp, hsz, b6]; omega, .inr ⟨b, c', arr', by rw [hlen]; exact k2, Nat.zero_le _, n1, by omega, k4, by rw [hsz]; exact k6, by rw [hlen]⟩⟩, ?_, hl', fun b' hb' => by rw [hlen]; exact hIn b' hb'⟩
    rw [List.flatten_append] at n2
    have := dreps_take (I := g.I) (w' := w') hp' n2
    rwa [flatten_length hl', hlen] at this
  have hBo : ∀ k T0 e0 rows0 y, k ≠ n → (∀ x ∈ rows0.flatten, plain x = true) → ownRep g w k T0 e0 rows0 y → ownRep g w' k T0 e0 rows0 y := fun k T0 e0 rows0 y hkn hpl hy => by
    obtain ⟨q1, q2, ys, ⟨q3, q4⟩, q5, q6, q7⟩ := hy
    refine ⟨q1, q2, ys, ⟨q3, ?_⟩, dreps_plain hpl q5, q6, q7⟩
    rcases q4 with q4 | ⟨b', c', ar, rfl, k1, k2, k3⟩
    · exact .inl q4
    · have hob : g.om k = some b' := q2.symm
      exact .inr ⟨b', c', ar, rfl, k1, (other b' (hi.mem.ofr k b' q1 hob).2 fun e => hkn (hi.mem.oinj k n b q1 hog (e ▸ hob) b1)).trans k2, k3⟩
  have hsz' := hB.size
  obtain ⟨m1, m2⟩ := mem_mkB hb
  have hm := hi.mem
  have hmem : Mem E g bl' ow w' :=
    { below := ⟨hB.os.trans hm.below.os, hB.tape.trans hm.below.tape, hB.output.trans hm.below.output, Nat.le_trans hm.below.size hsz', fun k hk hM => (other k (Nat.lt_of_lt_of_le hk hm.base) (fun e => by subst e; omega)).trans (hm.below.block k hk hM)⟩
      base := Nat.le_trans hm.base hsz'
      cell := fun b' o hbo => by
        by_cases e : b' = b
        · subst e
          have := hm.cell b' o hbo
          rw [cell_of_heap b5] at this
          rw [cell_of_heap n1]
          have hlt : o < arr.size := by
            rcases Nat.lt_or_ge o arr.size with h | h
            · exact h
            · rw [Array.getElem?_eq_none h] at this; cases this
          rw [Array.getElem?_eq_getElem (by omega)]; rfl
        · rw [World.cell?_of_block (a := ⟨b', o, none⟩) (other b' (cell_lt (hm.cell b' o hbo)) e)]; exact hm.cell b' o hbo
      mfr := fun k b' hk => ⟨(hm.mfr k b' hk).1, Nat.lt_of_lt_of_le (hm.mfr k b' hk).2 hsz'⟩
      ofr := fun k b' k1 k2 => ⟨(hm.ofr k b' k1 k2).1, Nat.lt_of_lt_of_le (hm.ofr k b' k1 k2).2 hsz'⟩
      minj := hm.minj
      oinj := hm.oinj
      disj := hm.disj
      blk := fun k ds hk => by
        obtain ⟨cs, k1, k2⟩ := m1 k ds hk
        obtain ⟨b', ar, q1, q2, q3, q4⟩ := hm.blk k cs k1
        exact ⟨b', ar, q1, (other b' (hm.mfr k b' q1).2 fun e => hm.disj k n b' q1 hog (e ▸ b1)).trans q2, reps_mks hA hBo k2 q3, q4⟩
      key := fun k b' hk => by
        obtain ⟨cs, k1⟩ := hm.key k b' hk
        exact m2 k cs k1
      own := hm.own
      inew := hm.inew
      iold := hm.iold
      pin := hm.pin }
  have hi' : Inv E g ⟨tm', bl', ow⟩ a w' := ⟨hmem, fun t => by
    have := reps_mks hA hBo (look_mkT t ht) (zs := [a.tmps.getD t undef]) (by simp only [reps]; exact ⟨_, _, rfl, hi.tm t, rfl⟩)
    simp only [reps] at this
    obtain ⟨y, zs, e1, k1, _⟩ := this
    cases e1
    exact k1, hi.de, hi.sz⟩
  have := hi'.app (d := some d) (v := .v r) (y := r) (nb := []) (no := []) (fun k hk => by cases hk; exact Nat.le_of_ble_eq_true hd) (Goes.refl _ _) (by simpa using hmem) (by simp only [rep])
  exact hk g _ w' this
end
end Go.Eng
