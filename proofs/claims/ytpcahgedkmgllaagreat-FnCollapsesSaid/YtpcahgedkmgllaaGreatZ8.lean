/- My walking engine, part 8: abstract values of Go, and the rules of a walk over them. No program in sight. -/
import Derived.Test.YtpcahgedkmgllaaGreatZ4
import Derived.LoopNIn
namespace Go.Eng
open Go Go.Conc
section
variable {E : En} {bl : List (Nat × List AV)} {tm : List (Nat × AV)} {d : Option Tmp} {ty : TypeId} {pos : String} {af : Array Edge} {gd : Option (Nat × Bool)}
theorem QV_buildA {t len : Nat} {ps : Array (Nat × Operand)} {T e by_ : Nat} {z : List Value} {fl : List AV} (n : Nat) [hs : ZSlOk E.P t T e by_ z]
    (h : abuild (fun i => some (i * e, e)) (List.replicate len (z.map AV.v)).flatten (ps.toList.map fun p => (p.1, ev tm p.2)) = some fl) (hl : len * e ≤ 1048576) (hn7 : Nat.blt n 7000000 = true := by rfl) :
    QV E bl tm ⟨d, .buildSlice t len ps, ty, pos, af, gd⟩ (.arr n T e len) [(n, fl)] [] := by
  refine QV_of_o ?_
  intro _ _ _ _ _ g w ρ bl' ow' hm _ hf _ hop
  obtain ⟨in0, iz, i1, i2, i3, i4, i5⟩ := hs.sl.info
  obtain ⟨zv, h1, rfl⟩ := hs.zero
  have hpos := hs.sl.pos
  have hzv : zv = iz := by
    have := h1 w
    simpa [zeroValue, typeInfo, i1, i2] using this.symm
  subst hzv
  have hzs : zv.cells.size = e := i5
  have hsz : ∀ w, (sizeOf T).run E.P w = .ok e w := fun w => by simp [sizeOf, typeInfo, i1, i3]
  have hz0 : reps g w (List.replicate len (zv.cells.toList.map AV.v)).flatten ((Array.range (len * e)).map (zv.cells[· % zv.cells.size]!)).toList := by
    have := range_zero zv.cells len
    rw [hzs] at this ⊢
    rw [this]
    have : (List.replicate len (zv.cells.toList.map AV.v)).flatten = ((List.replicate len zv.cells.toList).flatten).map AV.v := by simp [List.map_flatten]
    rw [this]
    exact reps_lits _
  obtain ⟨cs, k1, k2⟩ := fill_abuild (g := g) (w := w) _ (ps.toList.map fun p => (p.1, ρ p.2)) _ ((Array.range (len * e)).map (zv.cells[· % zv.cells.size]!)) fl (by simp [List.map_map, Function.comp_def])
      (reps_parts ps.toList fun x hx => hop x (by simpa [Op.operands] using hx)) hz0 h
  have hfill : ∀ (pl : Nat → Option (Nat × Nat)) (parts : List (Nat × Value)) (zs cs : Array Value), (∀ i o s, pl i = some (o, s) → True) → Instr.fill pl zs parts = some cs → cs.size = zs.size := by
    intro pl parts
    induction parts with
    | nil => intro zs cs _ h; simp only [Instr.fill, Option.some.injEq] at h; rw [h]
    | cons p parts ih =>
      intro zs cs _ h
      obtain ⟨i, v⟩ := p
      simp only [Instr.fill] at h
      split at h
      · cases h
      · split at h
        · cases h
        · have := ih _ cs (fun _ _ _ _ => trivial) h
          rw [this]
          have : ∀ (l : List (Value × Nat)) (zs : Array Value) (off : Nat), (l.foldl (fun cs p => cs.setIfInBounds (off + p.2) p.1) zs).size = zs.size := by
            intro l
            induction l with
            | nil => intro zs off; rfl
            | cons p l ih => intro zs off; simp only [List.foldl_cons]; rw [ih]; simp
          rw [← Array.foldl_toList]
          exact this _ _ _
  have hcsz : cs.size = len * e := by
    have := hfill _ _ _ _ (fun _ _ _ _ => trivial) k1
    simpa using this
  obtain ⟨g', m1, m2, m3, m4⟩ := hm.newBlock n (fun q hq => hf (n, fl) (by simp) q hq) _ _ T k2
  have e2 : (ps.map fun x => (x.1, ρ x.2)).toList = ps.toList.map fun p => (p.1, ρ p.2) := by simp
  have k1' : Instr.fill (fun i => some (i * e, e)) ((Array.range (len * e)).map (zv.cells[· % zv.cells.size]!)) (ps.map fun x => (x.1, ρ x.2)).toList = some cs := by rw [e2]; exact k1
  have hrun : (execOp ρ ⟨d, .buildSlice t len ps, ty, pos, af, gd⟩).run E.P w = .ok (.value (.slice (some ⟨w.heap.size, 0, none⟩) len len)) (w.alloc (.cells cs T)) := by
    have hle : ¬ (len * e > 2 ^ 24) := by omega
    by_cases h0 : len * e = 0
    · have hz0' : (Array.range (len * e)).map (zv.cells[· % zv.cells.size]!) = (Array.range (len * e)).map ((#[] : Array Value)[· % (#[] : Array Value).size]!) := by simp [h0]
      rw [hz0'] at k1'
      simp only [execOp, Instr.buildSlice, Sem.run_bind, run_underlying hs.sl.und, Result.andThen_ok, hsz, if_neg hle, Sem.run_pure, if_pos h0, k1', newRow, run_newObj_alloc]
    · simp only [execOp, Instr.buildSlice, Sem.run_bind, run_underlying hs.sl.und, Result.andThen_ok, hsz, if_neg hle, Sem.run_pure, if_neg h0, h1, k1', newRow, run_newObj_alloc]
  rw [hrun]
  refine ⟨⟨g', m1, m2, ?_⟩, evR_of (by simp only [execOp]; exact qt_bind (qt_buildSlice _ _ _) (fun _ => qt_pure _) _ _ _)⟩
  simp only [rep]
  exact ⟨_, len, m3, m4, rfl, Nat.le_refl _, fun _ => rfl, fun h => by have := Nat.le_of_ble_eq_true hn7; omega⟩
theorem q_buildA {t len : Nat} {ps : Array (Nat × Operand)} {T e by_ : Nat} {z : List Value} {fl : List AV} (n : Nat) [hs : ZSlOk E.P t T e by_ z]
    (h : buildO (fun i => some (i * e, e)) tm (List.replicate len (z.map AV.v)).flatten ps.toList = some fl) (hl : Nat.ble (len * e) 1048576 = true) (hn7 : Nat.blt n 7000000 = true := by rfl) : QV E bl tm ⟨d, .buildSlice t len ps, ty, pos, af, gd⟩ (.arr n T e len) [(n, fl)] [] :=
  QV_buildA n (buildO_eq h) (Nat.le_of_ble_eq_true hl) hn7
end
def RoundsW (E : En) (c : Code) (Q : Exit → St → Prop) : Nat → St → Prop
  | 0, _ => False
  | m + 1, s => W E c (fun e s' => match e with | .normal => RoundsW E c Q m s' | e => Q e s') s
def rQ (E : En) (c : Code) (Q : Exit → St → Prop) (m : Nat) : Exit → St → Prop
  | .normal, s => RoundsW E c Q m s
  | e, s => Q e s
theorem rw_next {E : En} {c : Code} {Q : Exit → St → Prop} {m : Nat} {s : St} (h : W E c (rQ E c Q m) s) : RoundsW E c Q (m + 1) s := fun L g a w hi => wpV_mono (h L g a w hi) fun e a' w' hq => by
  obtain ⟨g', s', h1, h2⟩ := hq
  refine ⟨g', s', ?_, h2⟩
  cases e <;> exact h1
theorem W_rounds {E : En} {c : Code} {Q : Exit → St → Prop} {s : St} (m : Nat) (h : W E c (rQ E c Q m) s) : W E (.loop c) Q s := by
  intro L g a w hi b k cs hb hf hc
  have key : ∀ (m : Nat) (s : St) (g : Gh) (a : Act) (w : CW), RoundsW E c Q m s → Inv E g s a w → L.ok w.V (G (b.atR a (.code c :: .inLoop c :: k)) cs) w.w := by
    intro m
    induction m with
    | zero => intro s g a w h _; exact h.elim
    | succ m ih =>
      intro s g a w h hi
      refine h L g a w hi b (.inLoop c :: k) cs hb hf fun e a' w' hq => ?_
      obtain ⟨g', s', h1, h2⟩ := hq
      cases e with
      | normal => exact L.silent rfl (fun _ => sq_inLoop) (ih s' g' a' w' h1 h2)
      | exit id => exact (hc _ _ _ ⟨g', s', h1, h2⟩).push rfl (by simp)
      | ret => exact (hc _ _ _ ⟨g', s', h1, h2⟩).push (i := .inLoop c) rfl (by simp)
      | goto l => exact hc _ _ _ ⟨g', s', h1, h2⟩
      | panic ch => exact hc _ _ _ ⟨g', s', h1, h2⟩
      | outgrown => exact hc _ _ _ ⟨g', s', h1, h2⟩
  exact L.silent rfl (fun _ => sq_loop) (key (m + 1) s g a w (rw_next h) hi)
end Go.Eng
