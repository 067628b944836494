/- Slices that a callee made and the caller will write: taken as arrays of the caller's own; calls that read them. No program in sight. -/
import Derived.Test.YtikbndfbjgdldaaEP
namespace Go.Eng
open Go

/- A value that reads so whatever the ghosts and the world. -/
mutual
def pl : AV → Bool
  | .v _ => true
  | .top => true
  | .agg cs => plL cs
  | .tup cs => plL cs
  | .sl _ [] => true
  | _ => false
def plL : List AV → Bool
  | [] => true
  | x :: xs => pl x && plL xs
end
mutual
theorem rep_pl {g g' : Gh} {w w' : World} : ∀ {x : AV} {y : Value}, pl x = true → rep g w x y → rep g' w' x y
  | .top, _, _, _ => by simp [rep]
  | .v x, y, _, h => by simpa [rep] using h
  | .agg cs, y, hp, h => by
    simp only [rep, pl] at h hp ⊢
    obtain ⟨a, e, h⟩ := h
    exact ⟨a, e, reps_pl hp h⟩
  | .tup cs, y, hp, h => by
    simp only [rep, pl] at h hp ⊢
    obtain ⟨a, e, h⟩ := h
    exact ⟨a, e, reps_pl hp h⟩
  | .sl e [], y, _, h => by
    simp only [rep, drep] at h ⊢
    obtain ⟨A, c, h1, _, h3⟩ := h
    exact ⟨A, c, h1, .inl trivial, h3⟩
  | .sl e (r :: rs), y, hp, _ => by simp [pl] at hp
  | .own .., _, hp, _ => by simp [pl] at hp
  | .ptr .., _, hp, _ => by simp [pl] at hp
  | .eptr .., _, hp, _ => by simp [pl] at hp
  | .fn .., _, hp, _ => by simp [pl] at hp
  | .arr .., _, hp, _ => by simp [pl] at hp
theorem reps_pl {g g' : Gh} {w w' : World} : ∀ {xs : List AV} {ys : List Value}, plL xs = true → reps g w xs ys → reps g' w' xs ys
  | [], ys, _, h => by simpa [reps] using h
  | x :: xs, ys, hp, h => by
    simp only [reps, plL, Bool.and_eq_true] at h hp ⊢
    obtain ⟨y, zs, e, h1, h2⟩ := h
    exact ⟨y, zs, e, rep_pl hp.1 h1, reps_pl hp.2 h2⟩
end

/-- What is handed to a call: data, the call's own arrays among them. -/
inductive LeS (bl : List (Nat × List AV)) : List AV → List AV → Prop where
  | nil : LeS bl [] []
  | v {x : Value} {xs ys : List AV} (hs : LeS bl xs ys) : LeS bl (.v x :: xs) (.v x :: ys)
  | sl {e : Nat} {rows : List (List AV)} {xs ys : List AV} (hs : LeS bl xs ys) : LeS bl (.sl e rows :: xs) (.sl e rows :: ys)
  | own {n T e : Nat} {rows : List (List AV)} {xs ys : List AV} (hs : LeS bl xs ys) : LeS bl (.own n T e rows :: xs) (.sl e rows :: ys)
  | nilS {e : Nat} {xs ys : List AV} (hs : LeS bl xs ys) : LeS bl (.v (.slice none 0 0) :: xs) (.sl e [] :: ys)
  | arr {n T e l : Nat} {rows more : List (List AV)} {xs ys : List AV} (hb : lookB bl n = some (rows ++ more).flatten) (hl : l = rows.length) (hlen : ∀ r ∈ rows, r.length = e) (hp : ∀ x ∈ rows.flatten, plain x = true) (hs : LeS bl xs ys) : LeS bl (.arr n T e l :: xs) (.sl e rows :: ys)
  | agg {cs ds xs ys : List AV} (h : LeS bl cs ds) (hs : LeS bl xs ys) : LeS bl (.agg cs :: xs) (.agg ds :: ys)
theorem dreps_leS {E : En} {g : Gh} {bl bl' : List (Nat × List AV)} {ow : List Nat} {w : World} (hm : Mem E g bl' ow w) (hbl : ∀ p ∈ bl, p ∈ bl') {xs ys : List AV} (h : LeS bl xs ys) : ∀ {zs : List Value}, reps g w xs zs → dreps (seen g w) w ys zs := by
  induction h with
  | nil => intro zs h; simp only [reps] at h; simpa only [dreps] using h
  | v _ ih =>
    intro zs h
    simp only [reps, rep] at h
    obtain ⟨y, zs', e, h1, h2⟩ := h
    simp only [dreps, drep]
    exact ⟨y, zs', e, h1, ih h2⟩
  | sl _ ih =>
    intro zs h
    simp only [reps, rep] at h
    obtain ⟨y, zs', e, h1, h2⟩ := h
    simp only [dreps]
    exact ⟨y, zs', e, drep_mono (fun b o hb => .inl hb) (fun _ _ _ => rfl) h1, ih h2⟩
  | own _ ih =>
    intro zs h
    simp only [reps, rep] at h
    obtain ⟨y, zs', e, h1, h2⟩ := h
    simp only [dreps]
    exact ⟨y, zs', e, drep_mono (fun b o hb => .inl hb) (fun _ _ _ => rfl) (drep_of_own h1), ih h2⟩
  | nilS _ ih =>
    intro zs h
    simp only [reps, rep] at h
    obtain ⟨y, zs', e, h1, h2⟩ := h
    subst h1
    simp only [dreps, drep]
    exact ⟨_, zs', e, ⟨none, 0, rfl, .inl trivial, Nat.zero_le _⟩, ih h2⟩
  | @arr n T e l rows more xs ys hb hl hlen hp _ ih =>
    intro zs h
    subst hl
    simp only [reps, rep] at h
    obtain ⟨y, zs', ez, ⟨b, c, h3, _, rfl, h4, _⟩, h2⟩ := h
    simp only [dreps, drep]
    refine ⟨_, zs', ez, ⟨_, c, rfl, .inr ⟨b, 0, rfl, ?_⟩, h4⟩, ih h2⟩
    obtain ⟨b', arr, k1, k2, k3, k4⟩ := hm.blk _ _ (hbl _ (lookB_mem hb))
    have : b' = b := by rw [h3] at k1; exact (Option.some.inj k1).symm
    subst this
    rw [List.flatten_append] at k3
    refine drows_iff.2 ⟨hlen, dcells_of_list (dreps_take (I := seen g w) (w' := w) hp k3) fun j z hj => ?_⟩
    have hj' : arr.toList[j]? = some z := by
      rw [List.getElem?_take] at hj
      split at hj
      · exact hj
      · cases hj
    have hc : w.cell? ⟨b', 0 + j, none⟩ = some z := by rw [cell_of_heap k2, Nat.zero_add]; simpa using hj'
    exact ⟨hc, .inr ⟨⟨_, h3⟩, by rw [hc]; rfl⟩⟩
  | agg _ _ ih1 ih2 =>
    intro zs h
    simp only [reps, rep] at h
    obtain ⟨y, zs', e, ⟨a, ea, h1⟩, h2⟩ := h
    simp only [dreps, drep]
    exact ⟨y, zs', e, ⟨a, ea, ih1 h1⟩, ih2 h2⟩
theorem seen_cell {E : En} {g : Gh} {bl : List (Nat × List AV)} {ow : List Nat} {w : World} (hm : Mem E g bl ow w) : ∀ b o, seen g w b o → (w.cell? ⟨b, o, none⟩).isSome = true := fun b o hb => by
  rcases hb with hb | hb
  · exact hm.cell b o hb
  · exact hb.2
section
variable {E : En} {bl : List (Nat × List AV)} {tm : List (Nat × AV)} {d : Option Tmp} {ty : TypeId} {pos : String} {af : Array Edge} {gd : Option (Nat × Bool)}
/-- A call that reads the call's own arrays, too; what it gives is no memory. -/
theorem QV_callS {x : Operand} {xs : Array Operand} {ts : Array TypeId} {f : Nat} {ys : List AV} {r : AV} [hf : FnOk E.P f] (h : CallOk E.P f ys (fun r' => r' = r)) (hx : ev tm x = .v (.func (.func f) #[] #[])) (ha : LeS bl (xs.toList.map (ev tm)) ys) (hp : pl r = true) :
    QV E bl tm ⟨d, .call ⟨.value x, xs, ts⟩, ty, pos, af, gd⟩ r [] [] := by
  intro g w ρ bl' ow' hm hbl _ _ hop
  have h1 := hop x (by simp [Op.operands, Call.operands])
  have h2 : reps g w (xs.toList.map (ev tm)) (xs.toList.map ρ) := reps_map _ fun y hy => hop y (by simp [Op.operands, Call.operands] at hy ⊢; exact .inr hy)
  rw [hx] at h1
  simp only [rep] at h1
  obtain ⟨fn, f1, f2, f3⟩ := hf.ok
  have f2' : fn.name ≠ "runtime.NumGoroutine" := by simpa using f2
  have f3' : fn.body ≠ none := fun e => by rw [e] at f3; simp at f3
  have hrun : (execOp ρ ⟨d, .call ⟨.value x, xs, ts⟩, ty, pos, af, gd⟩).run E.P w = .ok (.enter f (xs.map ρ)) w := by
    simp [execOp, resolve, Deferred.ofValue, h1, invoke, callFunc, f1, f2', f3']
  rw [hrun]
  refine (h (seen g w) w (xs.map ρ) (seen_cell hm) (by rw [Array.toList_map]; exact dreps_leS hm hbl ha h2)).mono fun e w' he => ?_
  obtain ⟨y, r', g', rfl, rfl, h3, h4⟩ := he
  have hr : Ret g.I w (g0 g.I) w' := ⟨h4.below, fun _ _ h => h, fun _ _ h => .inl h, fun b o hb => by
    rw [World.cell?_of_block (a := ⟨b, o, none⟩) (h4.below.block b (cell_lt (hm.cell b o hb)) (fun h => h))]; exact hm.cell b o hb, fun n b h => h.elim, fun n n' b h => h.elim⟩
  obtain ⟨gc, h5, h6, _, _⟩ := hm.called hr 0 [] (fun n hn => by simp at hn)
  exact ⟨_, rfl, gc, h5, by simpa using h6, rep_pl hp h3⟩
end

/-- The callee's slice n, taken as the array N. -/
inductive MutA (n T e N len : Nat) (rows : List (List AV)) : AV → AV → Prop where
  | own : MutA n T e N len rows (.own n T e rows) (.arr N T e len)
  | agg : MutA n T e N len rows (.agg [.own n T e rows]) (.agg [.arr N T e len])
  | tup {b : Value} : MutA n T e N len rows (.tup [.agg [.own n T e rows], .v b]) (.tup [.agg [.arr N T e len], .v b])
  | tupS {b : Value} : MutA n T e N len rows (.tup [.own n T e rows, .v b]) (.tup [.arr N T e len, .v b])
theorem mut_has {g : Gh} {w : World} {n T e N len : Nat} {rows : List (List AV)} {x z : AV} {y : Value} (h : MutA n T e N len rows x z) (hr : rep g w x y) : ∃ u, ownRep g w n T e rows u := by
  cases h <;> simp only [rep, reps] at hr
  · exact ⟨_, hr⟩
  · obtain ⟨_, _, u, _, _, hr, _⟩ := hr; exact ⟨u, hr⟩
  · obtain ⟨_, _, _, _, _, ⟨_, _, u, _, _, hr, _⟩, _⟩ := hr; exact ⟨u, hr⟩
  · obtain ⟨_, _, u, _, _, hr, _⟩ := hr; exact ⟨u, hr⟩
theorem mut_rep {g gc : Gh} {w w' : World} {n T e N len : Nat} {rows : List (List AV)} (hA : ∀ u, ownRep g w n T e rows u → rep gc w' (.arr N T e len) u) {x z : AV} {y : Value} (h : MutA n T e N len rows x z) (hr : rep g w x y) : rep gc w' z y := by
  cases h
  · simp only [rep] at hr; exact hA _ hr
  · simp only [rep, reps] at hr ⊢
    obtain ⟨a, ea, u, zs, e1, hr, e2⟩ := hr
    have := hA _ hr
    simp only [rep] at this
    exact ⟨a, ea, u, zs, e1, this, e2⟩
  · simp only [rep, reps] at hr ⊢
    obtain ⟨a, ea, u, zs, e1, ⟨a', ea', u', zs', e1', hr, e2⟩, e3⟩ := hr
    have := hA _ hr
    simp only [rep] at this
    exact ⟨a, ea, u, zs, e1, ⟨a', ea', u', zs', e1', this, e2⟩, e3⟩
  · simp only [rep, reps] at hr ⊢
    obtain ⟨a, ea, u, zs, e1, hr, e2⟩ := hr
    have := hA _ hr
    simp only [rep] at this
    exact ⟨a, ea, u, zs, e1, this, e2⟩

section
variable {E : En} {ops : Array Oper} {rest : List Oper} {Q : Exit → St → Prop} {tm : List (Nat × AV)} {bl bl' : List (Nat × List AV)} {ow : List Nat} {d : Nat} {ty : TypeId} {pos : String} {af : Array Edge}
/-- A call whose slice the caller takes as an array of its own. -/
theorem wlmu {x : Operand} {xs : Array Operand} {ts : Array TypeId} {f n T e N len : Nat} {ys : List AV} {rows : List (List AV)} {r z : AV} [hf : FnOk E.P f] (h : CallOk E.P f ys (fun r' => r' = r)) (hN : Nat.ble 1000000 N = true) (h0 : 0 < rows.length) (hpl : ∀ x ∈ rows.flatten, plain x = true) (hx : ev tm x = .v (.func (.func f) #[] #[])) (ha : LeS bl (xs.toList.map (ev tm)) ys)
    (hz : MutA n T e N len rows r z) (hlen : rows.length = len) (hd : Nat.blt d E.nt = true) (hfr : bl.all (fun q => !Nat.beq q.1 N) = true) (hk : ∀ more, MoreOk e more → WL E ops rest Q ⟨(d, z) :: tm, (N, (rows ++ more).flatten) :: bl, ow⟩) :
    WL E ops (⟨some d, .call ⟨.value x, xs, ts⟩, ty, pos, af, none⟩ :: rest) Q ⟨tm, bl, ow⟩ := by
  subst hlen
  intro g a w hi
  unfold wpList
  rw [show Region.wanted ⟨some d, .call ⟨.value x, xs, ts⟩, ty, pos, af, none⟩ (yielded ops a.tmps) = true by simp [Region.wanted]]
  refine .inl ?_
  have h1 := rep_ev hi.tm x
  have h2 : reps g w (xs.toList.map (ev tm)) (xs.toList.map a.eval) := reps_map _ fun y _ => rep_ev hi.tm y
  rw [hx] at h1
  simp only [rep] at h1
  obtain ⟨fn, f1, f2, f3⟩ := hf.ok
  have f2' : fn.name ≠ "runtime.NumGoroutine" := by simpa using f2
  have f3' : fn.body ≠ none := fun e => by rw [e] at f3; simp at f3
  have hrun : (execOp a.eval ⟨some d, .call ⟨.value x, xs, ts⟩, ty, pos, af, none⟩).run E.P w = .ok (.enter f (xs.map a.eval)) w := by
    simp [execOp, resolve, Deferred.ofValue, h1, invoke, callFunc, f1, f2', f3']
  unfold Oper.wp
  rw [hrun]
  have hm := hi.mem
  refine (h (seen g w) w (xs.map a.eval) (seen_cell hm) (by rw [Array.toList_map]; exact dreps_leS hm (fun _ h => h) ha h2)).mono fun e' w' he => ?_
  obtain ⟨y, r', g', rfl, rfl, h3, h4⟩ := he
  obtain ⟨u, hu⟩ := mut_has hz h3
  obtain ⟨b, c, arr, b1, b2, b3, b4, b5, b6, b7⟩ := own_here hu h0
  have hl : ∀ r ∈ rows, r.length = e := by obtain ⟨_, _, _, _, _, hl, _⟩ := hu; exact hl
  have hb := h4.own n b hu.1 b1
  have heap : ∀ k, k < w.heap.size → w'.heap[k]? = w.heap[k]? := fun k hk => h4.below.block k hk (fun h => h)
  have hsz := h4.below.size
  have hIlt : ∀ b o, g.I b o → b < w.heap.size := fun b o hb => cell_lt (hm.cell b o hb)
  have keeps : Keeps g.I w w' := fun b o hb => World.cell?_of_block (a := ⟨b, o, none⟩) (heap b (hIlt b o hb))
  have hfr' : ∀ q ∈ bl, q.1 ≠ N := fun q hq e => by
    have := List.all_eq_true.1 hfr q hq
    simp [e] at this
  have hnone : g.m N = none := by
    cases hmN : g.m N with
    | none => rfl
    | some b' => obtain ⟨cs, hc⟩ := hm.key N b' hmN; exact absurd rfl (hfr' _ hc)
  let gc : Gh := { g with m := fun k => if k = N then some b else g.m k, mt := fun k => if k = N then T else g.mt k }
  have hmm : ∀ k b', gc.m k = some b' → (k = N ∧ b' = b) ∨ (k ≠ N ∧ g.m k = some b') := fun k b' hk => by
    by_cases e : k = N
    · simp only [gc, e, if_true, Option.some.injEq] at hk; exact .inl ⟨e, hk.symm⟩
    · simp only [gc, e, if_false] at hk; exact .inr ⟨e, hk⟩
  have goes : Goes g w gc w' := by
    refine ⟨fun _ _ h => h, keeps, fun k b' hk => ?_, fun k b' hk => ?_, fun k T' e' rows' y' hy' => ownRep_goes (g := g) (g' := gc) (fun _ _ h => h) keeps (fun k hk => ⟨hk, rfl⟩) (fun k b' k1 k2 => heap b' (hm.ofr k b' k1 k2).2) (fun _ _ _ _ _ h => h) hy'⟩
    · have : k ≠ N := fun e => by rw [e, hnone] at hk; cases hk
      simp only [gc, this, if_false]; exact hk
    · have : k ≠ N := fun e => by rw [e, hnone] at hk; cases hk
      simp only [gc, this, if_false]
  let more : List (List AV) := List.replicate (c - rows.length) (List.replicate e .top)
  have hmore : MoreOk e more := fun r hr => by
    rw [List.eq_of_mem_replicate hr]
    exact ⟨by simp, fun x hx => by rw [List.eq_of_mem_replicate hx]; rfl⟩
  have hml : more.flatten.length = (c - rows.length) * e := by
    rw [flatten_length (e := e) (fun r hr => (hmore r hr).1)]; simp [more]
  have hce : c * e = rows.length * e + (c - rows.length) * e := by rw [← Nat.add_mul]; congr 1; omega
  have hreps : reps gc w' (rows ++ more).flatten arr.toList := by
    rw [List.flatten_append, ← List.take_append_drop (rows.length * e) arr.toList]
    refine reps_append (reps_plain (g := g') (w := w') hpl (reps_of_dreps b7)) (reps_tops _ _ ?_ ?_)
    · rw [List.all_eq_true]
      intro x hx
      obtain ⟨r, hr, hx⟩ := List.mem_flatten.1 hx
      rw [List.eq_of_mem_replicate hr] at hx
      rw [List.eq_of_mem_replicate hx]; rfl
    · have ea : arr.toList.length = arr.size := by simp
      rw [hml, List.length_drop, ea, b6]; omega
  have hmem : Mem E gc ((N, (rows ++ more).flatten) :: bl) ow w' :=
    { below := ⟨h4.below.os.trans hm.below.os, h4.below.tape.trans hm.below.tape, h4.below.output.trans hm.below.output, Nat.le_trans hm.below.size hsz, fun k hk hM => (heap k (Nat.lt_of_lt_of_le hk hm.base)).trans (hm.below.block k hk hM)⟩
      base := Nat.le_trans hm.base hsz
      cell := fun b' o hbo => by rw [keeps b' o hbo]; exact hm.cell b' o hbo
      mfr := fun k b' hk => by
        rcases hmm k b' hk with ⟨rfl, rfl⟩ | ⟨_, k2⟩
        · exact ⟨.inr (.inl (Nat.le_trans hm.base hb.1)), hb.2⟩
        · exact ⟨(hm.mfr k b' k2).1, Nat.lt_of_lt_of_le (hm.mfr k b' k2).2 hsz⟩
      ofr := fun k b' k1 k2 => ⟨(hm.ofr k b' k1 k2).1, Nat.lt_of_lt_of_le (hm.ofr k b' k1 k2).2 hsz⟩
      minj := fun k k' b' k1 k2 => by
        rcases hmm k b' k1 with ⟨rfl, rfl⟩ | ⟨_, k3⟩ <;> rcases hmm k' _ k2 with ⟨rfl, k4⟩ | ⟨_, k4⟩
        · rfl
        · have := (hm.mfr k' _ k4).2; have := hb.1; omega
        · subst k4; have := (hm.mfr k _ k3).2; have := hb.1; omega
        · exact hm.minj k k' b' k3 k4
      oinj := hm.oinj
      disj := fun k k' b' k1 k2 k3 => by
        rcases hmm k b' k1 with ⟨rfl, rfl⟩ | ⟨_, k4⟩
        · have := (hm.ofr k' _ k2 k3).2; have := hb.1; omega
        · exact hm.disj k k' b' k4 k2 k3
      blk := fun k ds hk => by
        rcases List.mem_cons.1 hk with hk | hk
        · cases hk
          exact ⟨b, arr, by simp only [gc, if_true], by simp only [gc, if_true]; exact b5, hreps, fun o ho => by have := hIlt _ o ho; have := hb.1; omega⟩
        · obtain ⟨b', arr', q1, q2, q3, q4⟩ := hm.blk k ds hk
          exact ⟨b', arr', goes.m k b' q1, by rw [goes.mt k b' q1]; exact (heap b' (hm.mfr k b' q1).2).trans q2, reps_goes goes q3, q4⟩
      key := fun k b' hk => by
        rcases hmm k b' hk with ⟨rfl, rfl⟩ | ⟨_, k2⟩
        · exact ⟨_, List.mem_cons_self ..⟩
        · obtain ⟨cs, hc⟩ := hm.key k b' k2; exact ⟨cs, List.mem_cons_of_mem _ hc⟩
      own := hm.own
      inew := hm.inew
      iold := hm.iold
      pin := fun k b' T' hp => ⟨goes.m k b' (hm.pin k b' T' hp).1, (goes.mt k b' (hm.pin k b' T' hp).1).trans (hm.pin k b' T' hp).2⟩ }
  have hz' : rep gc w' z y := mut_rep (gc := gc) (w' := w') (fun u' hu' => by
    obtain ⟨b', c', _, k1, k2, k3, _⟩ := own_here hu' h0
    rw [b1] at k1
    cases k1
    simp only [rep]
    exact ⟨b, c', by simp only [gc, if_true], by simp only [gc, if_true], k2, k3, fun h => by have := Nat.le_of_ble_eq_true hN; omega⟩) hz h3
  have hi' : Inv E g ⟨tm, bl, ow⟩ a w := hi
  have := hi'.app (d := some d) (v := z) (y := y) (nb := [(N, (rows ++ more).flatten)]) (no := []) (fun k hk => by cases hk; exact Nat.le_of_ble_eq_true hd) goes (by simpa using hmem) hz'
  exact hk more hmore gc _ w' this
/-- What is handed to a function that marks: one of the call's own arrays, by the pinned name. -/
inductive MkN (n : Nat) : List AV → List AV → Prop where
  | nil : MkN n [] []
  | v {x : Value} {xs ys : List AV} (hs : MkN n xs ys) : MkN n (.v x :: xs) (.v x :: ys)
  | arr {T e l : Nat} {xs ys : List AV} (hs : MkN n xs ys) : MkN n (.arr n T e l :: xs) (.arr 1000000 T e l :: ys)
  | agg {cs ds xs ys : List AV} (h : MkN n cs ds) (hs : MkN n xs ys) : MkN n (.agg cs :: xs) (.agg ds :: ys)
theorem reps_mkN {g : Gh} {w : World} {n b T0 : Nat} (hm : g.m n = some b) (ht : g.mt n = T0) {xs ys : List AV} (h : MkN n xs ys) : ∀ {zs : List Value}, reps g w xs zs → reps (gM b T0) w ys zs := by
  induction h with
  | nil => intro zs h; simpa only [reps] using h
  | v _ ih => intro zs h; simp only [reps, rep] at h ⊢; obtain ⟨y, zs', e, h1, h2⟩ := h; exact ⟨y, zs', e, h1, ih h2⟩
  | arr _ ih =>
    intro zs h
    simp only [reps, rep] at h ⊢
    obtain ⟨y, zs', e, ⟨c, k, k1, k2, k3, k4, _⟩, h2⟩ := h
    rw [hm] at k1
    cases k1
    exact ⟨y, zs', e, ⟨b, k, by simp [gM], by rw [← k2, ht]; rfl, k3, k4, fun h => by omega⟩, ih h2⟩
  | agg _ _ ih1 ih2 => intro zs h; simp only [reps, rep] at h ⊢; obtain ⟨y, zs', e, ⟨a, ea, h1⟩, h2⟩ := h; exact ⟨y, zs', e, ⟨a, ea, ih1 h1⟩, ih2 h2⟩
/- Is the array among them? -/
mutual
def hasA (n T : Nat) : AV → Bool
  | .arr k U _ _ => Nat.beq k n && Nat.beq U T
  | .agg cs => hasAL n T cs
  | _ => false
def hasAL (n T : Nat) : List AV → Bool
  | [] => false
  | x :: xs => hasA n T x || hasAL n T xs
end
mutual
theorem rep_hasA {g : Gh} {w : World} {n T : Nat} : ∀ {x : AV} {y : Value}, hasA n T x = true → rep g w x y → g.mt n = T
  | .arr k U e l, y, h, hr => by
    simp only [hasA, Bool.and_eq_true] at h
    have h1 := Nat.eq_of_beq_eq_true h.1
    have h2 := Nat.eq_of_beq_eq_true h.2
    subst h1; subst h2
    simp only [rep] at hr
    obtain ⟨_, _, _, k, _⟩ := hr
    exact k
  | .agg cs, y, h, hr => by
    simp only [hasA] at h
    simp only [rep] at hr
    obtain ⟨_, _, hr⟩ := hr
    exact reps_hasA h hr
  | .top, _, h, _ => by simp [hasA] at h
  | .v _, _, h, _ => by simp [hasA] at h
  | .tup _, _, h, _ => by simp [hasA] at h
  | .sl .., _, h, _ => by simp [hasA] at h
  | .own .., _, h, _ => by simp [hasA] at h
  | .ptr .., _, h, _ => by simp [hasA] at h
  | .eptr .., _, h, _ => by simp [hasA] at h
  | .fn .., _, h, _ => by simp [hasA] at h
theorem reps_hasA {g : Gh} {w : World} {n T : Nat} : ∀ {xs : List AV} {ys : List Value}, hasAL n T xs = true → reps g w xs ys → g.mt n = T
  | [], _, h, _ => by simp [hasAL] at h
  | x :: xs, ys, h, hr => by
    simp only [hasAL, Bool.or_eq_true] at h
    simp only [reps] at hr
    obtain ⟨y, zs, _, h1, h2⟩ := hr
    rcases h with h | h
    · exact rep_hasA h h1
    · exact reps_hasA h h2
end
/-- A call that marks one of the call's own arrays. -/
theorem wlmk {x : Operand} {xs : Array Operand} {ts : Array TypeId} {f n T e : Nat} {args : List AV} {rows rows' more : List (List AV)} {r : Value} [hf : FnOk E.P f] (h : CallMark E.P f T e args rows rows' r) (hmore : MoreOk e more) (hx : ev tm x = .v (.func (.func f) #[] #[])) (ha : MkN n (xs.toList.map (ev tm)) args) (hat : hasAL n T (xs.toList.map (ev tm)) = true)
    (hb : lookB bl n = some (rows ++ more).flatten) (hp : ∀ x ∈ rows.flatten, plain x = true) (hp' : ∀ x ∈ rows'.flatten, plain x = true) (hs : setBO bl n (rows' ++ more).flatten = some bl') (hro : n ∉ E.ron) (hd : Nat.blt d E.nt = true)
    (hk : WL E ops rest Q ⟨(d, .v r) :: tm, bl', ow⟩) : WL E ops (⟨some d, .call ⟨.value x, xs, ts⟩, ty, pos, af, none⟩ :: rest) Q ⟨tm, bl, ow⟩ := by
  intro g a w hi
  unfold wpList
  rw [show Region.wanted ⟨some d, .call ⟨.value x, xs, ts⟩, ty, pos, af, none⟩ (yielded ops a.tmps) = true by simp [Region.wanted]]
  refine .inl ?_
  have h1 := rep_ev hi.tm x
  have h2 : reps g w (xs.toList.map (ev tm)) (xs.toList.map a.eval) := reps_map _ fun y _ => rep_ev hi.tm y
  rw [hx] at h1
  simp only [rep] at h1
  obtain ⟨fn, f1, f2, f3⟩ := hf.ok
  have f2' : fn.name ≠ "runtime.NumGoroutine" := by simpa using f2
  have f3' : fn.body ≠ none := fun e => by rw [e] at f3; simp at f3
  have hrun : (execOp a.eval ⟨some d, .call ⟨.value x, xs, ts⟩, ty, pos, af, none⟩).run E.P w = .ok (.enter f (xs.map a.eval)) w := by
    simp [execOp, resolve, Deferred.ofValue, h1, invoke, callFunc, f1, f2', f3']
  unfold Oper.wp
  rw [hrun]
  have hT : g.mt n = T := reps_hasA hat h2
  obtain ⟨c, arr, m1, m2, m3, m4⟩ := hi.mem.blk _ _ (lookB_mem hb)
  rw [hT] at m2
  have pm : ∀ rs : List (List AV), (∀ x ∈ rs.flatten, plain x = true) → ∀ x ∈ (rs ++ more).flatten, plain x = true := fun rs hr x hx => by
    rw [List.flatten_append, List.mem_append] at hx
    rcases hx with hx | hx
    · exact hr x hx
    · obtain ⟨l, hl, hx⟩ := List.mem_flatten.1 hx
      exact (hmore l hl).2 x hx
  have hc := h w c (xs.map a.eval) arr more hmore m2 (reps_plain (pm rows hp) m3) (by rw [Array.toList_map]; exact reps_mkN m1 hT ha h2)
  refine hc.mono fun e' w' he => ?_
  obtain ⟨rfl, hB, arr', n1, g', n2⟩ := he
  obtain ⟨k1, k2⟩ := hi.mem.marked m1 hro hB (by rw [hT]; exact n1) m4 (reps_plain (g' := g) (w' := w') (pm rows' hp') n2)
  rw [setBO_eq hs] at k2
  have hi' : Inv E g ⟨tm, bl', ow⟩ a w' := ⟨k2, fun t => rep_goes k1 (hi.tm t), hi.de, hi.sz⟩
  have := hi'.app (d := some d) (v := .v r) (y := r) (nb := []) (no := []) (fun k hk => by cases hk; exact Nat.le_of_ble_eq_true hd) (Goes.refl _ _) (by simpa using k2) (by simp only [rep])
  exact hk g _ w' this
end
end Go.Eng
