/- The rules for such statements, in the form that reckons. No program in sight. -/
import Derived.Test.YtikbndfbjgdldaaEFx
namespace Go.Eng
open Go

/-- The variable N taken out of the list. -/
def pullB (N : Nat) : List (Nat × List AV) → Option (List AV × List (Nat × List AV))
  | [] => none
  | (k, c) :: r => bif Nat.beq k N then some (c, r) else match pullB N r with | some (c', r') => some (c', (k, c) :: r') | none => none
theorem pullB_mem {N : Nat} : ∀ {bl : List (Nat × List AV)} {c : List AV} {r : List (Nat × List AV)}, pullB N bl = some (c, r) → ∀ p, p ∈ bl ↔ p ∈ (N, c) :: r
  | [], _, _, h, _ => by simp [pullB] at h
  | (k, c0) :: bl, c, r, h, p => by
    simp only [pullB] at h
    cases hb : Nat.beq k N
    · rw [hb] at h
      simp only [cond_false] at h
      split at h
      · rename_i c' r' he
        simp only [Option.some.injEq, Prod.mk.injEq] at h
        obtain ⟨rfl, rfl⟩ := h
        have := pullB_mem he p
        simp only [List.mem_cons] at this ⊢
        constructor
        · rintro (h1 | h1)
          · exact .inr (.inl h1)
          · rcases this.1 h1 with h2 | h2
            · exact .inl h2
            · exact .inr (.inr h2)
        · rintro (h1 | h1 | h1)
          · exact .inr (this.2 (.inl h1))
          · exact .inl h1
          · exact .inr (this.2 (.inr h1))
      · cases h
    · rw [hb] at h
      simp only [cond_true, Option.some.injEq, Prod.mk.injEq] at h
      obtain ⟨rfl, rfl⟩ := h
      rw [Nat.eq_of_beq_eq_true hb]
theorem wdrawC {E : En} {id : Nat} {l hd tl : List Oper} {Q : Exit → St → Prop} {tm : List (Nat × AV)} {bl bl0 : List (Nat × List AV)} {ow : List Nat} {c : List AV} (n N : Nat) (es : List Nat) (hm : E.P.follows .mixedOrders = true) (hB : headB l.toArray n = true) (hT : tailB l.toArray n = true) (hE : effB l.toArray n es = true)
    (hN : l.all (fun o => match o.dst with | some d => !Nat.beq d N | none => true) = true) (hs : splitO n l = some (hd, tl)) (hp : pullB N bl = some (c, bl0)) (hbN : bl0.all (fun q => !Nat.beq q.1 N) = true)
    (h : HC E l.toArray bl0 N es 0 hd ⟨tm, bl0, ow⟩ c (fun s' c' => WL E l.toArray tl Q ⟨s'.tm, (N, c') :: s'.bl, s'.ow⟩)) : W E (.region id l.toArray true) Q ⟨tm, bl, ow⟩ := by
  obtain ⟨h1, h2⟩ := splitO_eq hs
  subst h1; subst h2
  intro g a w hi
  exact W_drawC (s := ⟨tm, bl0, ow⟩) n N es hm hB hT hE hN hbN h g a w ⟨hi.mem.same (pullB_mem hp) (fun k hk => hk), hi.tm, hi.de, hi.sz⟩
section
variable {E : En} {ops : Array Oper} {rest : List Oper} {N k : Nat} {es : List Nat} {K : St → List AV → Prop} {tm : List (Nat × AV)} {bl bl0 : List (Nat × List AV)} {ow : List Nat} {d : Nat} {op : Op} {ty : TypeId} {pos : String} {af : Array Edge} {gd : Option (Nat × Bool)} {v : AV} {c c' : List AV}
theorem HC_nil {s : St} (h : K s c) : HC E ops bl0 N es k [] s c K := h
theorem hc_gy {o : Oper} {s : St} {nb : List (Nat × List AV)} {no : List Nat} (h : QV E bl0 s.tm o v nb no) (hg : GY ops s.tm o.guard) (hd : dstB E.nt o = true) (hf : freshB nb no s = true) (hn : namesB nb o = true) (hk : HC E ops bl0 N es (k + 1) rest (s.app o.dst v nb no) c K) : HC E ops bl0 N es k (o :: rest) s c K := by
  refine .inl ⟨v, nb, no, h, hd, ⟨hf, hn⟩, ?_, hk⟩
  cases hgd : o.guard with
  | none => exact .inl rfl
  | some jb =>
    obtain ⟨j, b⟩ := jb
    rw [hgd] at hg
    obtain ⟨d, h1, h2⟩ := hg
    exact .inr ⟨j, d, b, rfl, h1, h2⟩
theorem hc0 (h : QV E bl0 tm ⟨some d, op, ty, pos, af, gd⟩ v [] []) (hg : GY ops tm gd) (hd : Nat.blt d E.nt = true) (hk : HC E ops bl0 N es (k + 1) rest ⟨(d, v) :: tm, bl, ow⟩ c K) : HC E ops bl0 N es k (⟨some d, op, ty, pos, af, gd⟩ :: rest) ⟨tm, bl, ow⟩ c K := hc_gy h hg hd (by simp [freshB]) (by simp [namesB]) hk
theorem hcn1 {n : Nat} (h : QV E bl0 tm ⟨some d, op, ty, pos, af, gd⟩ v [] [n]) (hg : GY ops tm gd) (hd : Nat.blt d E.nt = true) (hf : freshB [] [n] ⟨tm, bl, ow⟩ = true) (hk : HC E ops bl0 N es (k + 1) rest ⟨(d, v) :: tm, bl, n :: ow⟩ c K) : HC E ops bl0 N es k (⟨some d, op, ty, pos, af, gd⟩ :: rest) ⟨tm, bl, ow⟩ c K := hc_gy h hg hd hf (by simp [namesB]) hk
theorem hcn (hg : GN ops tm gd) (hd : Nat.blt d E.nt = true) (hk : HC E ops bl0 N es (k + 1) rest ⟨(d, .v undef) :: tm, bl, ow⟩ c K) : HC E ops bl0 N es k (⟨some d, op, ty, pos, af, gd⟩ :: rest) ⟨tm, bl, ow⟩ c K := by
  cases gd with
  | none => exact hg.elim
  | some jb =>
    obtain ⟨j, b⟩ := jb
    obtain ⟨d', h1, h2⟩ := hg
    exact .inr (.inl ⟨j, d', !b, by simp, h1, h2, hd, hk⟩)
theorem hcE (h : EV E N tm ⟨some d, op, ty, pos, af, none⟩ v c c') (hd : Nat.blt d E.nt = true) (he : inLs es k = true) (hk : HC E ops bl0 N es (k + 1) rest ⟨(d, v) :: tm, bl, ow⟩ c' K) : HC E ops bl0 N es k (⟨some d, op, ty, pos, af, none⟩ :: rest) ⟨tm, bl, ow⟩ c K :=
  .inr (.inr ⟨v, c', h, hd, rfl, he, hk⟩)
theorem setB_head {N : Nat} {c c' : List AV} {bl : List (Nat × List AV)} (h : ∀ q ∈ bl, q.1 ≠ N) : setB ((N, c) :: bl) N c' = (N, c') :: bl := by
  simp only [setB, List.map_cons, Nat.beq_refl, cond_true, List.cons.injEq, true_and]
  rw [List.map_congr_left (g := id)]
  · simp
  · intro q hq
    cases hb : Nat.beq q.1 N
    · rfl
    · exact absurd (Nat.eq_of_beq_eq_true hb) (h q hq)
/-- A call by pointer, of which is known what it gives. -/
theorem evPtr {x : Operand} {xs : Array Operand} {ts : Array TypeId} {f : Nat} {args : List AV} {z : AV} [hf : FnOk E.P f] (h : CallPtr E.P f args c (fun r cs => r = z ∧ cs = c')) (hx : ev tm x = .v (.func (.func f) #[] #[])) (ha : PtA N (xs.toList.map (ev tm)) args) (hcs : dtL c = true) (hcs' : dtL c' = true) (hz : dtL [z] = true) (hro : N ∉ E.ron) :
    EV E N tm ⟨some d, .call ⟨.value x, xs, ts⟩, ty, pos, af, none⟩ z c c' := by
  intro g w ρ bl' ow' hm hne hop
  have h1 := hop x (by simp [Op.operands, Call.operands])
  have h2 : reps g w (xs.toList.map (ev tm)) (xs.toList.map ρ) := reps_map _ fun y hy => hop y (by simp [Op.operands, Call.operands] at hy ⊢; exact .inr hy)
  rw [hx] at h1
  simp only [rep] at h1
  obtain ⟨fn, f1, f2, f3⟩ := hf.ok
  have f2' : fn.name ≠ "runtime.NumGoroutine" := by simpa using f2
  have f3' : fn.body ≠ none := fun e => by rw [e] at f3; simp at f3
  have hrun : (execOp ρ ⟨some d, .call ⟨.value x, xs, ts⟩, ty, pos, af, none⟩).run E.P w = .ok (.enter f (xs.map ρ)) w := by
    simp [execOp, resolve, Deferred.ofValue, h1, invoke, callFunc, f1, f2', f3']
  rw [hrun]
  obtain ⟨b, arr, m1, m2, m3, m4⟩ := hm.blk N c (by simp)
  refine (h g.I w b (g.mt N) (xs.map ρ) arr hm.cell m4 m2 (reps_dt (g := g) (g' := gP g.I b (g.mt N)) rfl hcs m3) (by rw [Array.toList_map]; exact reps_ptA m1 ha h2)).mono fun e' w' he => ?_
  obtain ⟨y, r, cs', arr', g', rfl, ⟨rfl, rfl⟩, k1, k2, k3, k4, k5⟩ := he
  obtain ⟨gc, p1, p2, p3, p4⟩ := hm.turned m1 hro k2 k3 k4 hcs' k5 0 [] (fun n hn => by simp at hn)
  rw [setB_head hne] at p2
  refine ⟨y, rfl, gc, p1, by simpa using p2, ?_⟩
  have := reps_dt (g := g') (g' := gc) p3 (xs := [r]) (ys := [y]) hz (by simp only [reps]; exact ⟨y, [], rfl, k1, rfl⟩)
  simp only [reps] at this
  obtain ⟨_, _, e1, k6, _⟩ := this
  cases e1
  exact k6
end
end Go.Eng
