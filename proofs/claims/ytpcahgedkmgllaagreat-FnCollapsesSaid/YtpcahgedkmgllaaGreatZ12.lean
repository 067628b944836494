/- My walking engine, part 12: abstract values of Go, and the rules of a walk over them. No program in sight. -/
import Derived.Test.YtpcahgedkmgllaaGreatZ5
namespace Go.Eng
open Go Go.Conc

theorem weak_eptr {E : En} {tm : List (Nat × AV)} {n t f : Nat} {X : AV} (hron : E.ron = []) (hpin : ∀ n b T, ¬ E.pin n b T) (hlk : look tm t = .fn (.func f) [] [.ptr n 0]) (hD : toD X = X) : Weak E ⟨tm, [(n, [X])], []⟩ ⟨[(t, .fn (.func f) [] [.eptr [X]])], [], []⟩ := by
  intro g a x hi
  obtain ⟨V, w⟩ := x
  have hm := hi.mem.mem
  have hv := hi.mem.vis
  obtain ⟨b, arr, b1, b2, b3, b4⟩ := hm.blk n _ (List.mem_singleton.2 rfl)
  have hbB : E.B ≤ b ∨ E.M b := by
    rcases (hm.mfr n b b1).1 with h | h
    · rw [hron] at h; simp at h
    · exact h
  have hdr : dreps g.I w [X] arr.toList := by
    have := dreps_toD b3
    simpa only [List.map_cons, List.map_nil, hD] using this
  let g' : Gh := { g with I := fun c o => g.I c o ∨ (c = b ∧ o = 0), m := fun _ => none }
  have hsz : arr.toList.length = 1 := by have := dreps_length hdr; simp only [List.length_singleton] at this; omega
  have hmono : dreps g'.I w [X] arr.toList := dreps_mono (I := g.I) (fun _ _ h => .inl h) (fun _ _ _ => rfl) hdr
  refine ⟨g', ⟨⟨⟨hm.below, hm.base, fun c o hc => ?_, fun k c h => by simp [g'] at h, hm.ofr, fun k k' c h => by simp [g'] at h, hm.oinj, fun k k' c h => by simp [g'] at h, fun k cs h => by simp at h, fun k c h => by simp [g'] at h, hm.own, fun c o hc => ?_, fun c o hc => .inl (hm.iold c o hc), fun k c T h => absurd h (hpin k c T)⟩,
    ⟨fun c o hc => ?_, fun k c h => by simp [g'] at h, hv.o, hv.sub, hv.lt, hv.up, hv.upm, hv.dn, hv.dnm, hv.nM, hv.ext⟩⟩, fun t' => ?_, hi.de, hi.sz⟩⟩
  · rcases hc with hc | ⟨rfl, rfl⟩
    · exact hm.cell c o hc
    · rw [cell_of_heap b2]
      have : 0 < arr.size := by simp at hsz; omega
      simp [this]
  · rcases hc with hc | ⟨rfl, rfl⟩
    · exact hm.inew c o hc
    · exact .inr hbB
  · rcases hc with hc | ⟨rfl, rfl⟩
    · exact hv.I c o hc
    · exact (hv.m n _ b1).1
  · simp only [look]
    cases e : Nat.beq t t'
    · simp only [cond_false, rep]
    · have e := Nat.eq_of_beq_eq_true e
      subst e
      have h1 := hi.tm t
      rw [hlk] at h1
      simp only [rep, reps] at h1
      obtain ⟨fs, lb, h2, h3, y, zs, h4, ⟨b', h5, h6⟩, h7⟩ := h1
      rw [b1] at h5; cases h5
      simp only [cond_true, rep, reps]
      refine ⟨fs, lb, h2, h3, y, zs, h4, ⟨b, 0, h6, ?_⟩, h7⟩
      exact dcells_of_list hmono fun j z hz => by
        have hj : j = 0 := by have := (List.getElem?_eq_some_iff.1 hz).1; omega
        subst hj
        refine ⟨?_, .inr ⟨rfl, rfl⟩⟩
        rw [cell_of_heap b2, ← Array.getElem?_toList]
        exact hz
section
variable {E : En} {bl : List (Nat × List AV)} {tm : List (Nat × AV)} {d : Option Tmp} {ty : TypeId} {pos : String} {af : Array Edge} {gd : Option (Nat × Bool)}
theorem QV_callF {x : Operand} {xs : Array Operand} {ts : Array TypeId} {f : Nat} {ys : List AV} {F : Nat} {ds : List AV} [hf : FnOk E.P f] (h : CallOk E.P f ys (fun r' => r' = .fn (.func F) [] [.eptr ds])) (hx : ev tm x = .v (.func (.func f) #[] #[])) (ha : LeDs (xs.toList.map (ev tm)) ys) :
    QV E bl tm ⟨d, .call ⟨.value x, xs, ts⟩, ty, pos, af, gd⟩ (.fn (.func F) [] [.eptr ds]) [] [] := by
  intro L g ρ bl' ow' w hm hbl _ _ hop w₁ rw₁
  have hg := hm.goes rw₁
  have hm1 := hm.rely rw₁
  have h1 := rep_goes hg (hop x (by simp [Op.operands, Call.operands]))
  have h2 : reps g w₁ (xs.toList.map (ev tm)) (xs.toList.map ρ) := reps_map _ fun y hy => rep_goes hg (hop y (by simp [Op.operands, Call.operands] at hy ⊢; exact .inr hy))
  rw [hx] at h1
  simp only [rep] at h1
  obtain ⟨fn, f1, f2, f3⟩ := hf.ok
  have f2' : fn.name ≠ "runtime.NumGoroutine" := by simpa using f2
  have f3' : fn.body ≠ none := fun e => by rw [e] at f3; simp at f3
  have hrun : (execOp ρ ⟨d, .call ⟨.value x, xs, ts⟩, ty, pos, af, gd⟩).run E.P w₁ = .ok (.enter f (xs.map ρ)) w₁ := by
    simp [execOp, resolve, Deferred.ofValue, h1, invoke, callFunc, f1, f2', f3']
  have hevs : (execOp ρ ⟨d, .call ⟨.value x, xs, ts⟩, ty, pos, af, gd⟩).events E.P w₁ #[] = #[] := by
    simp [execOp, resolve, Deferred.ofValue, h1, invoke, callFunc, f1, f2', f3']
  rw [hrun]
  have hc := h L g.I ⟨w.V, w₁⟩ (xs.map ρ) (fun b o hb => ⟨hm1.mem.cell b o hb, hm1.vis.I b o hb⟩) ⟨hm1.vis.sub, hm1.vis.lt⟩ (by rw [Array.toList_map]; exact dreps_leDs ha h2)
  refine ⟨rfl, hevs, hc.mono fun y w' he => ?_⟩
  obtain ⟨r', g', rfl, h3, h4⟩ := he
  obtain ⟨gc, h5, h6, h7, h8⟩ := hm1.called h4 0 [] (fun n hn => by cases hn)
  refine ⟨gc, hg.trans h5, by simpa using h6, ?_⟩
  simp only [rep, reps] at h3 ⊢
  rw [h7]; exact h3
end
end Go.Eng
