/- My walking engine, part 4: abstract values of Go, and the rules of a walk over them. No program in sight. -/
import Derived.Test.YtpcahgedkmgllaaGreatZ3
namespace Go.Eng
open Go Go.Conc

def Qt {α : Type} (x : Sem α) : Prop := ∀ (P : Program) (w : World) (es : Array Event), x.events P w es = es
theorem qt_pure {α : Type} (a : α) : Qt (pure a : Sem α) := fun _ _ _ => rfl
theorem qt_bind {α β : Type} {x : Sem α} {f : α → Sem β} (h : Qt x) (hf : ∀ a, Qt (f a)) : Qt (x >>= f) := fun P w es => by
  rw [Sem.events_bind, h]
  cases x.run P w with
  | ok a w' => exact hf a P w' es
  | halt _ _ => rfl
theorem qt_map {α β : Type} {x : Sem α} {f : α → β} (h : Qt x) : Qt (f <$> x) := fun P w es => by rw [Sem.events_map, h]
theorem qt_stuck {α : Type} (why : String) : Qt (stuck why : Sem α) := fun _ _ _ => rfl
theorem qt_unsupported {α : Type} (u : Unsupported) : Qt (unsupported u : Sem α) := fun _ _ _ => rfl
theorem qt_typeInfo (t : TypeId) : Qt (typeInfo t) := fun P w es => events_typeInfo P w es t
theorem qt_underlying (t : TypeId) : Qt (underlying t) := fun P w es => events_underlying P w es t
theorem qt_sizeOf (t : TypeId) : Qt (sizeOf t) := fun P w es => events_sizeOf P w es t
theorem qt_zeroValue (t : TypeId) : Qt (zeroValue t) := fun P w es => events_zeroValue P w es t
theorem qt_newRow (t : TypeId) (c : Array Value) : Qt (newRow t c) := fun P w es => by simp [newRow]
theorem qt_asIntOf (v : Value) : Qt (asIntOf v) := by
  unfold asIntOf
  split
  · exact qt_pure _
  · exact qt_unsupported _
  · exact qt_stuck _
theorem qt_choose (q : Question) : Qt (choose q) := fun P w es => events_choose P w es q
theorem qt_outside {α : Type} (x y : Int) (s : Bool) (c : BoundsCode) : Qt (runtimePanic (.bounds x y s c) : Sem α) := fun P w es => by simp [runtimePanic]
theorem qt_boundsPanic {α : Type} (k : IntKind) (x y : Int) (c : BoundsCode) : Qt (boundsPanic k x y c : Sem α) := by
  unfold boundsPanic
  repeat' (first | exact qt_outside _ _ _ _ | exact qt_pure _ | exact qt_map (qt_choose _) | refine qt_bind ?_ (fun _ => ?_) | split)
theorem qt_listM {α β : Type} {F : α → Sem β} (h : ∀ x, Qt (F x)) : ∀ l : List α, Qt (l.mapM F)
  | [] => qt_pure _
  | x :: l => by
    rw [List.mapM_cons]
    exact qt_bind (h x) fun _ => qt_bind (qt_listM h l) fun _ => qt_pure _
theorem qt_arrayM {α β : Type} {F : α → Sem β} (h : ∀ x, Qt (F x)) (l : Array α) : Qt (l.mapM F) := by
  rw [Array.mapM_eq_mapM_toList]
  exact qt_map (qt_listM h l.toList)
theorem qt_build (t : TypeId) (ps : Array (Nat × Value)) : Qt (Instr.build t ps) := by
  unfold Instr.build
  repeat' (first | exact qt_pure _ | exact qt_stuck _ | exact qt_zeroValue _ | exact qt_underlying _ | exact qt_sizeOf _ | exact qt_arrayM (fun f => qt_bind (qt_sizeOf _) fun _ => qt_pure _) _ | refine qt_bind ?_ (fun _ => ?_) | split)
theorem qt_buildSlice (t : TypeId) (n : Nat) (ps : Array (Nat × Value)) : Qt (Instr.buildSlice t n ps) := by
  unfold Instr.buildSlice
  repeat' (first | exact qt_pure _ | exact qt_stuck _ | exact qt_unsupported _ | exact qt_zeroValue _ | exact qt_underlying _ | exact qt_sizeOf _ | exact qt_newRow _ _ | refine qt_bind ?_ (fun _ => ?_) | split | (dsimp only; split))
theorem qt_sliceBound (x : Value) (y : Nat) (c : BoundsCode) : Qt (Instr.sliceBound x y c) := by
  unfold Instr.sliceBound
  repeat' (first | exact qt_pure _ | exact qt_asIntOf _ | exact qt_boundsPanic _ _ _ _ | refine qt_bind ?_ (fun _ => ?_) | split)
theorem qt_sliceBounds (b : Bool) (n c : Nat) (l h m : Option Value) : Qt (Instr.sliceBounds b n c l h m) := by
  unfold Instr.sliceBounds
  repeat' (first | exact qt_pure _ | exact qt_stuck _ | exact qt_sliceBound _ _ _ | refine qt_bind ?_ (fun _ => ?_) | split)
theorem qt_slice {P : Program} {t T : TypeId} {A : Option Addr} {n c : Nat} {l h m : Option Value} {w : World} {es : Array Event} (hu : P.underlying t = some (.slice T)) : (Instr.slice t (.slice A n c) l h m).events P w es = es := by
  unfold Instr.slice
  rw [Sem.events_bind, run_underlying hu, Result.evThen_ok, events_underlying]
  exact qt_bind (qt_sliceBounds _ _ _ _ _ _) (fun _ => qt_bind (qt_sizeOf _) fun _ => qt_pure _) P w es
theorem qt_sliceAt {P : Program} {t T : TypeId} {A : Option Addr} {n c : Nat} {l h m : Option Value} {w : World} {es : Array Event} (hu : P.underlying t = some (.slice T)) : (Instr.sliceAt t (.slice A n c) l h m).events P w es = es := by
  unfold Instr.sliceAt
  rw [Sem.events_bind, run_underlying hu, Result.evThen_ok, events_underlying]
  exact qt_slice hu
theorem ev_storeCells {P : Program} (g o : Nat) (t : TypeId) : ∀ (vs : List Value) (i : Nat) (cur : Array Value) (w : World) (es : Array Event), w.heap[g]? = some (.cells cur t (0, 0)) → o + i + vs.length ≤ cur.size → (∀ v ∈ vs, v.oneCell' = true) →
    ∀ e ∈ (storeCells ⟨g, o, none⟩ vs i).events P w es, e ∈ es ∨ ∃ a : Addr, e = ⟨.cell a, true, false⟩ ∧ a.block = g
  | [], _, _, _, _, _, _, _ => fun e h => .inl (by simpa [storeCells] using h)
  | v :: rest, i, cur, w, es, hg, hl, h1 => fun e h => by
    have hi : o + i < cur.size := by simp at hl; omega
    have hcell : w.cell? ⟨g, o + i, none⟩ = some cur[o + i] := by simp [World.cell?, hg, hi]
    have hfro : w.frozen? ⟨g, o + i, none⟩ = false := by simp [World.frozen?, hg]
    have hst : (store ((⟨g, o, none⟩ : Addr).add i) v).run P w = .ok () (w.setRow g (cur.setIfInBounds (o + i) v)) := by
      rw [addr_add, run_store P w _ v _ (h1 v (by simp)), hcell]
      simp [hfro, setCell_eq_setRow w g (o + i) cur t (0, 0) v hg]
    have hev : (store ((⟨g, o, none⟩ : Addr).add i) v).events P w es = es.push ⟨.cell ⟨g, o + i, none⟩, true, false⟩ := by
      rw [addr_add, events_store P w es _ v _ (h1 v (by simp)), hcell]
      simp only [hfro, Bool.false_eq_true, if_false]
      rfl
    simp only [storeCells, Sem.events_bind, hst, Result.evThen_ok, hev] at h
    rcases ev_storeCells g o t rest (i + 1) (cur.setIfInBounds (o + i) v) (w.setRow g (cur.setIfInBounds (o + i) v)) _ (setRow_heap w g cur _ t _ hg) (by simp at hl ⊢; omega) (fun x hx => h1 x (by simp [hx])) e h with h | h
    · rcases Array.mem_push.1 h with h | h
      · exact .inl h
      · exact .inr ⟨_, h, rfl⟩
    · exact .inr h

theorem fold_set : ∀ (l : List Value) (k off : Nat) (cs : Array Value), off + k + l.length ≤ cs.size → ((l.zipIdx k).foldl (fun cs p => cs.setIfInBounds (off + p.2) p.1) cs).toList = cs.toList.take (off + k) ++ (l ++ cs.toList.drop (off + k + l.length))
  | [], k, off, cs, _ => by simp
  | v :: rest, k, off, cs, h => by
    simp only [List.zipIdx_cons, List.foldl_cons]
    rw [fold_set rest (k + 1) off _ (by simp at h ⊢; omega)]
    have := list_seg_step cs.toList (off + k) v rest (by simp at h ⊢; omega)
    simp only [Array.toList_setIfInBounds]
    rw [show off + (k + 1) = off + k + 1 by omega, ← List.append_assoc, this]
    simp [List.append_assoc, Nat.add_assoc, Nat.add_comm]

def splice (l : List AV) (off : Nat) (cs : List AV) : List AV := l.take off ++ (cs ++ l.drop (off + cs.length))
def abuild (pl : Nat → Option (Nat × Nat)) : List AV → List (Nat × AV) → Option (List AV)
  | z, [] => some z
  | z, (i, v) :: r => match pl i with
    | none => none
    | some (off, size) => bif Nat.beq (acells v).length size && (Nat.ble (off + size) z.length && isC v) then abuild pl (splice z off (acells v)) r else none
theorem cells_length {g : Gh} {w : World} {x : AV} {y : Value} (h : rep g w x y) (hc : isC x = true) : y.cells.size = (acells x).length := by
  have := reps_length (reps_cellsC h hc)
  simpa using this
theorem reps_splice {g : Gh} {w : World} {zs ls : List AV} {ys ks : List Value} {off : Nat} (h : reps g w zs ys) (h' : reps g w ls ks) : reps g w (splice zs off ls) (ys.take off ++ (ks ++ ys.drop (off + ks.length))) := by
  unfold splice
  rw [reps_length h']
  exact reps_append (reps_take h) (reps_append h' (reps_drop h))
theorem fill_abuild {g : Gh} {w : World} {pl : Nat → Option (Nat × Nat)} : ∀ (parts : List (Nat × AV)) (vs : List (Nat × Value)) (z : List AV) (zs : Array Value) (out : List AV), parts.map (·.1) = vs.map (·.1) → reps g w (parts.map (·.2)) (vs.map (·.2)) → reps g w z zs.toList → abuild pl z parts = some out →
    ∃ cs, Instr.fill pl zs vs = some cs ∧ reps g w out cs.toList
  | [], vs, z, zs, out, h1, _, h3, h4 => by
    cases vs with
    | nil => simp only [abuild, Option.some.injEq] at h4; subst h4; exact ⟨zs, rfl, h3⟩
    | cons v vs => simp at h1
  | (i, v) :: r, vs, z, zs, out, h1, h2, h3, h4 => by
    cases vs with
    | nil => simp at h1
    | cons p vs =>
      obtain ⟨j, u⟩ := p
      simp only [List.map_cons, List.cons.injEq] at h1
      obtain ⟨rfl, h1⟩ := h1
      simp only [List.map_cons, reps] at h2
      obtain ⟨y, zs', e, h2, h2'⟩ := h2
      obtain ⟨rfl, rfl⟩ := List.cons.inj e
      simp only [abuild] at h4
      split at h4
      · cases h4
      · rename_i off size hpl
        cases hb : (Nat.beq (acells v).length size && (Nat.ble (off + size) z.length && isC v))
        · rw [hb] at h4; cases h4
        · rw [hb] at h4
          simp only [cond_true] at h4
          simp only [Bool.and_eq_true] at hb
          have hs : (acells v).length = size := Nat.eq_of_beq_eq_true hb.1
          have hl : off + size ≤ z.length := Nat.le_of_ble_eq_true hb.2.1
          have hcl := cells_length h2 hb.2.2
          have hzl := reps_length h3
          have hzl' : zs.size = z.length := by simpa using hzl
          have hfold : (u.cells.zipIdx.foldl (fun cs p => cs.setIfInBounds (off + p.2) p.1) zs).toList = zs.toList.take off ++ (u.cells.toList ++ zs.toList.drop (off + u.cells.toList.length)) := by
            rw [← Array.foldl_toList, Array.toList_zipIdx]
            have := fold_set u.cells.toList 0 off zs (by simp; omega)
            simpa using this
          obtain ⟨cs, k1, k2⟩ := fill_abuild r vs (splice z off (acells v)) (u.cells.zipIdx.foldl (fun cs p => cs.setIfInBounds (off + p.2) p.1) zs) out h1 h2' (by
            rw [hfold]; exact reps_splice h3 (reps_cellsC h2 hb.2.2)) h4
          refine ⟨cs, ?_, k2⟩
          have c1 : ¬ (u.cells.size ≠ size || decide (off + u.cells.size > zs.size)) = true := by
            simp; omega
          simp only [Instr.fill, hpl]
          rw [if_neg (by simpa using c1)]
          exact k1

class BldOk (P : Program) (t : Nat) (z : outParam (List Value)) (pl : outParam (List (Nat × Nat))) : Prop where
  bld : ∃ zv fields, (∀ w, (zeroValue t).run P w = .ok zv w) ∧ zv.cells.toList = z ∧ P.underlying t = some (.struct fields) ∧ ∀ w, (fields.mapM fun (f : Field) => (do pure (f.offset, ← sizeOf f.type) : Sem (Nat × Nat))).run P w = .ok pl.toArray w

theorem reps_lits {g : Gh} {w : World} : ∀ l : List Value, reps g w (l.map AV.v) l
  | [] => by simp [reps]
  | x :: l => by simp only [List.map_cons, reps]; exact ⟨x, l, rfl, by simp [rep], reps_lits l⟩

section
variable {E : En} {bl : List (Nat × List AV)} {tm : List (Nat × AV)} {d : Option Tmp} {ty : TypeId} {pos : String} {af : Array Edge} {gd : Option (Nat × Bool)}
theorem reps_parts {g : Gh} {w : World} {ρ : Operand → Value} (ps : List (Nat × Operand)) (h : ∀ x ∈ ps.map (·.2), rep g w (ev tm x) (ρ x)) : reps g w ((ps.map fun p => (p.1, ev tm p.2)).map (·.2)) ((ps.map fun p => (p.1, ρ p.2)).map (·.2)) := by
  have := reps_map (tm := tm) (g := g) (w := w) (ρ := ρ) (ps.map (·.2)) h
  simpa [List.map_map, Function.comp_def] using this
theorem QV_build {t : Nat} {ps : Array (Nat × Operand)} {z : List Value} {pl : List (Nat × Nat)} {out : List AV} [hb : BldOk E.P t z pl] (h : abuild (pl[·]?) (z.map AV.v) (ps.toList.map fun p => (p.1, ev tm p.2)) = some out) :
    QV E bl tm ⟨d, .build t ps, ty, pos, af, gd⟩ (.agg out) [] [] :=
  QV_pure fun g w ρ hop => by
    obtain ⟨zv, fields, h1, rfl, h3, h4⟩ := hb.bld
    obtain ⟨cs, k1, k2⟩ := fill_abuild (g := g) (w := w) _ (ps.toList.map fun p => (p.1, ρ p.2)) _ zv.cells out (by simp [List.map_map, Function.comp_def])
      (reps_parts ps.toList fun x hx => hop x (by simpa [Op.operands] using hx)) (reps_lits _) h
    refine ⟨.agg cs, ?_, evR_of (by simp only [execOp]; exact qt_bind (qt_build _ _) (fun _ => qt_pure _) _ _ _), by simp only [rep]; exact ⟨cs, rfl, k2⟩⟩
    have e : (ps.map fun x => (x.1, ρ x.2)).toList = ps.toList.map fun p => (p.1, ρ p.2) := by simp
    have k1' : Instr.fill (fun x => pl.toArray[x]?) zv.cells (ps.map fun x => (x.1, ρ x.2)).toList = some cs := by
      rw [e]
      simpa using k1
    simp only [execOp, Instr.build, Sem.run_bind, h1, run_underlying h3, Result.andThen_ok, h4, k1', Sem.run_pure]

def toD : AV → AV
  | .own _ _ e rows => .sl e rows
  | .v x => .v x
  | .sl e rows => .sl e rows
  | _ => .top
theorem drep_toD {g : Gh} {w : World} {x : AV} {y : Value} (h : rep g w x y) : drep g.I w (toD x) y := by
  cases x <;> simp only [toD]
  case own => simp only [rep] at h; exact drep_of_own h
  case v => simpa [rep, drep] using h
  case sl => simpa only [rep] using h
  all_goals simp [drep]
theorem dreps_toD {g : Gh} {w : World} : ∀ {xs : List AV} {ys : List Value}, reps g w xs ys → dreps g.I w (xs.map toD) ys
  | [], ys, h => by simpa [reps, dreps] using h
  | x :: xs, ys, h => by
    simp only [reps] at h
    obtain ⟨y, zs, e, h1, h2⟩ := h
    simp only [List.map_cons, dreps]
    exact ⟨y, zs, e, drep_toD h1, dreps_toD h2⟩
def chunk (e : Nat) : Nat → List AV → List (List AV)
  | 0, _ => []
  | n + 1, l => l.take e :: chunk e n (l.drop e)
theorem chunk_spec {e : Nat} : ∀ {n : Nat} {l : List AV}, l.length = n * e → (chunk e n l).flatten = l ∧ (∀ r ∈ chunk e n l, r.length = e) ∧ (chunk e n l).length = n
  | 0, l, h => by simp at h; simp [chunk, h]
  | n + 1, l, h => by
    rw [Nat.add_mul] at h
    obtain ⟨h1, h2, h3⟩ := chunk_spec (e := e) (n := n) (l := l.drop e) (by simp; omega)
    refine ⟨by simp [chunk, h1], fun r hr => ?_, by simp [chunk, h3]⟩
    simp only [chunk, List.mem_cons] at hr
    rcases hr with rfl | hr
    · simp; omega
    · exact h2 r hr
class ZSlOk (P : Program) (t : Nat) (T e by_ : outParam Nat) (z : outParam (List Value)) : Prop where
  sl : SlOk P t T e by_
  zero : ∃ zv, (∀ w, (zeroValue T).run P w = .ok zv w) ∧ zv.cells.toList = z
theorem range_zero (z : Array Value) (n : Nat) : ((Array.range (n * z.size)).map (z[· % z.size]!)).toList = (List.replicate n z.toList).flatten := by
  induction n with
  | zero => simp
  | succ n ih =>
    rw [List.replicate_succ', List.flatten_append, ← ih, Nat.add_mul, Nat.one_mul]
    simp only [Array.toList_map, Array.toList_range, List.range_add, List.map_append, List.map_map, List.flatten_cons, List.flatten_nil, List.append_nil]
    congr 1
    apply List.ext_getElem
    · simp
    · intro i h1 h2
      simp only [List.length_map, List.length_range] at h1
      simp [Nat.mod_eq_of_lt h1, Nat.mul_comm n, Nat.add_comm, h1]
theorem QV_buildSlice {t len : Nat} {ps : Array (Nat × Operand)} {T e by_ : Nat} {z : List Value} {fl : List AV} (n : Nat) [hs : ZSlOk E.P t T e by_ z]
    (h : abuild (fun i => some (i * e, e)) (List.replicate len (z.map AV.v)).flatten (ps.toList.map fun p => (p.1, ev tm p.2)) = some fl) (hl : len * e ≤ 1048576) :
    QV E bl tm ⟨d, .buildSlice t len ps, ty, pos, af, gd⟩ (.own n T e (chunk e len (fl.map toD))) [] [n] := by
  refine QV_of_o ?_
  intro _ _ _ _ _ g w ρ bl' ow' hm _ _ hno hop
  obtain ⟨in0, iz, i1, i2, i3, i4, i5⟩ := hs.sl.info
  obtain ⟨zv, h1, rfl⟩ := hs.zero
  have hpos := hs.sl.pos
  have hzv : zv = iz := by
    have := h1 w
    simpa [zeroValue, typeInfo, i1, i2] using this.symm
  subst hzv
  have hzs : zv.cells.size = e := i5
  have hsz : ∀ w, (sizeOf T).run E.P w = .ok e w := fun w => by simp [sizeOf, typeInfo, i1, i3]
  have hz0 : reps g w (List.replicate len (zv.cells.toList.map AV.v)).flatten ((Array.range (len * e)).map (zv.cells[· % zv.cells.size]!)).toList := by
    have := range_zero zv.cells len
    rw [hzs] at this ⊢
    rw [this]
    have : (List.replicate len (zv.cells.toList.map AV.v)).flatten = ((List.replicate len zv.cells.toList).flatten).map AV.v := by simp [List.map_flatten]
    rw [this]
    exact reps_lits _
  obtain ⟨cs, k1, k2⟩ := fill_abuild (g := g) (w := w) _ (ps.toList.map fun p => (p.1, ρ p.2)) _ ((Array.range (len * e)).map (zv.cells[· % zv.cells.size]!)) fl (by simp [List.map_map, Function.comp_def])
      (reps_parts ps.toList fun x hx => hop x (by simpa [Op.operands] using hx)) hz0 h
  have hfill : ∀ (pl : Nat → Option (Nat × Nat)) (parts : List (Nat × Value)) (zs cs : Array Value), (∀ i o s, pl i = some (o, s) → True) → Instr.fill pl zs parts = some cs → cs.size = zs.size := by
    intro pl parts
    induction parts with
    | nil => intro zs cs _ h; simp only [Instr.fill, Option.some.injEq] at h; rw [h]
    | cons p parts ih =>
      intro zs cs _ h
      obtain ⟨i, v⟩ := p
      simp only [Instr.fill] at h
      split at h
      · cases h
      · split at h
        · cases h
        · have := ih _ cs (fun _ _ _ _ => trivial) h
          rw [this]
          have : ∀ (l : List (Value × Nat)) (zs : Array Value) (off : Nat), (l.foldl (fun cs p => cs.setIfInBounds (off + p.2) p.1) zs).size = zs.size := by
            intro l
            induction l with
            | nil => intro zs off; rfl
            | cons p l ih => intro zs off; simp only [List.foldl_cons]; rw [ih]; simp
          rw [← Array.foldl_toList]
          exact this _ _ _
  have hcsz : cs.size = len * e := by
    have := hfill _ _ _ _ (fun _ _ _ _ => trivial) k1
    simpa using this
  have hfl : (fl.map toD).length = len * e := by
    have := reps_length k2
    simp at this ⊢; omega
  obtain ⟨c1, c2, c3⟩ := chunk_spec hfl
  obtain ⟨g', m1, m2, m3⟩ := hm.newOwn n (hno n (by simp)) T e (chunk e len (fl.map toD)) c2 cs (by rw [c3]; unfold maxLen; have : len ≤ len * e := Nat.le_mul_of_pos_right _ hpos; omega) (by rw [c1]; exact dreps_toD k2)
  have e2 : (ps.map fun x => (x.1, ρ x.2)).toList = ps.toList.map fun p => (p.1, ρ p.2) := by simp
  have k1' : Instr.fill (fun i => some (i * e, e)) ((Array.range (len * e)).map (zv.cells[· % zv.cells.size]!)) (ps.map fun x => (x.1, ρ x.2)).toList = some cs := by rw [e2]; exact k1
  have hrun : (execOp ρ ⟨d, .buildSlice t len ps, ty, pos, af, gd⟩).run E.P w = .ok (.value (.slice (some ⟨w.heap.size, 0, none⟩) len len)) (w.alloc (.cells cs T)) := by
    have hle : ¬ (len * e > 2 ^ 24) := by omega
    by_cases h0 : len * e = 0
    · have hz0' : (Array.range (len * e)).map (zv.cells[· % zv.cells.size]!) = (Array.range (len * e)).map ((#[] : Array Value)[· % (#[] : Array Value).size]!) := by simp [h0]
      rw [hz0'] at k1'
      simp only [execOp, Instr.buildSlice, Sem.run_bind, run_underlying hs.sl.und, Result.andThen_ok, hsz, if_neg hle, Sem.run_pure, if_pos h0, k1', newRow, run_newObj_alloc]
    · simp only [execOp, Instr.buildSlice, Sem.run_bind, run_underlying hs.sl.und, Result.andThen_ok, hsz, if_neg hle, Sem.run_pure, if_neg h0, h1, k1', newRow, run_newObj_alloc]
  rw [hrun]
  refine ⟨⟨g', m1, m2, ?_⟩, evR_of (by simp only [execOp]; exact qt_bind (qt_buildSlice _ _ _) (fun _ => qt_pure _) _ _ _)⟩
  simp only [rep]
  rw [c3] at m3
  exact m3

def abound (x : Option AV) (dflt : Int) : Option Int := match x with
  | none => some dflt
  | some (.v (.int _ i)) => some i
  | some _ => none
theorem QV_slice {t : Nat} {x : Operand} {lo hi : Option Operand} {xv : AV} {T e by_ : Nat} {rows : List (List AV)} {l h : Int} {i j : Nat} [hs : SlOk E.P t T e by_] (hx : ev tm x = xv) (hr : arows xv = some (e, rows))
    (hlo : abound (lo.map (ev tm)) 0 = some l) (hhi : abound (hi.map (ev tm)) rows.length = some h) (hi' : l = i) (hj : h = j) (hij : i ≤ j) (hjl : j ≤ rows.length) :
    QV E bl tm ⟨d, .slice t x lo hi none, ty, pos, af, gd⟩ (.sl e ((rows.take j).drop i)) [] [] :=
  QV_pure fun g w ρ hop => by
    have h1 := hop x (by simp [Op.operands])
    rw [hx] at h1
    have h1' := drep_arows h1 hr
    simp only [drep] at h1'
    obtain ⟨A, c, h3, h4, hc⟩ := h1'
    obtain ⟨in0, z, i1, i2, i3, i4, i5⟩ := hs.info
    have hsz : (sizeOf T).run E.P w = .ok e w := by simp [sizeOf, typeInfo, i1, i3]
    have hH : ∀ (m : Nat) (c1 : BoundsCode), rows.length ≤ m → (match hi.map ρ with | some v => Instr.sliceBound v m c1 | none => pure rows.length : Sem Nat).run E.P w = .ok j w := by
      intro m c1 hm
      cases hi with
      | none => simp only [Option.map_none, abound, Option.some.injEq] at hhi; simp only [Option.map_none, Sem.run_pure]; congr 1; omega
      | some xh =>
        have h2 := hop xh (by simp [Op.operands])
        simp only [Option.map_some] at hhi ⊢
        cases hv : ev tm xh <;> rw [hv] at hhi <;> simp only [abound, reduceCtorEq] at hhi
        rename_i vv
        cases vv <;> simp only [Option.some.injEq, reduceCtorEq] at hhi
        rw [hv] at h2
        simp only [rep] at h2
        subst hhi; subst hj
        rw [h2]
        simp [Instr.sliceBound, asIntOf, show (j : Int) ≤ (m : Int) by omega]
    have hL : ∀ (c1 : BoundsCode), (match lo.map ρ with | some v => Instr.sliceBound v j c1 | none => pure 0 : Sem Nat).run E.P w = .ok i w := by
      intro c1
      cases lo with
      | none => simp only [Option.map_none, abound, Option.some.injEq] at hlo; simp only [Option.map_none, Sem.run_pure]; congr 1; omega
      | some xl =>
        have h2 := hop xl (by simp [Op.operands])
        simp only [Option.map_some] at hlo ⊢
        cases hv : ev tm xl <;> rw [hv] at hlo <;> simp only [abound, reduceCtorEq] at hlo
        rename_i vv
        cases vv <;> simp only [Option.some.injEq, reduceCtorEq] at hlo
        rw [hv] at h2
        simp only [rep] at h2
        subst hlo; subst hi'
        rw [h2]
        simp [Instr.sliceBound, asIntOf, show (i : Int) ≤ (j : Int) by omega]
    have hB : (Instr.sliceBounds true rows.length c (lo.map ρ) (hi.map ρ) (Option.map ρ none)).run E.P w = .ok (i, j, c) w := by
      have h5 := hH c .sliceAcap hc
      have h6 := hL .sliceB
      simp only [Option.map_none, Instr.sliceBounds, Option.isSome_none, Sem.run_bind, Sem.run_pure, Result.andThen_ok, if_true]
      have h7 : (match lo.map ρ with | some v => (do let l ← Instr.sliceBound v j (if false = true then BoundsCode.slice3C else BoundsCode.sliceB); pure (l, j, c)) | none => (do let l ← pure 0; pure (l, j, c)) : Sem (Nat × Nat × Nat)).run E.P w = .ok (i, j, c) w := by
        cases lo with
        | none => simp only [Option.map_none] at h6 ⊢; rw [Sem.run_bind, h6]; rfl
        | some xl => simp only [Option.map_some] at h6 ⊢; rw [Sem.run_bind]; simp only [Bool.false_eq_true, if_false]; rw [h6]; rfl
      cases hi with
      | none => simp only [Option.map_none] at h5 ⊢; rw [Sem.run_bind, h5]; exact h7
      | some xh => simp only [Option.map_some] at h5 ⊢; rw [Sem.run_bind, h5]; exact h7
    refine ⟨.slice (if c = i then A else A.map (·.add (i * e))) (j - i) (c - i), ?_, evR_of ?_, ?_⟩
    · simp only [execOp, h3, Instr.sliceAt, Instr.slice, run_underlying hs.und, Sem.run_bind, Result.andThen_ok, hB, hsz, Sem.run_pure]
    · simp only [execOp, h3]
      rw [Sem.events_bind, qt_sliceAt hs.und]
      cases (Instr.sliceAt t (.slice A rows.length c) (lo.map ρ) (hi.map ρ) (Option.map ρ none)).run E.P w <;> rfl
    · have hlen : ((rows.take j).drop i).length = j - i := by simp; omega
      simp only [rep, drep]
      refine ⟨if c = i then A else A.map (·.add (i * e)), c - i, by rw [hlen], ?_, by rw [hlen]; omega⟩
      rcases h4 with h4 | ⟨b, o, rfl, h4⟩
      · left; simp [h4]
      · rcases Nat.lt_or_ge i j with h7 | h7
        · right
          refine ⟨b, o + i * e, ?_, drows_drop (drows_take h4)⟩
          have hne : ¬ c = i := by omega
          simp [addr_add, hne]
        · left
          apply List.drop_eq_nil_of_le
          simp; omega

end

def setB (bl : List (Nat × List AV)) (n : Nat) (cs : List AV) : List (Nat × List AV) := bl.map fun p => bif Nat.beq p.1 n then (p.1, cs) else p
def isCell : AV → Bool
  | .v x => x.oneCell'
  | .top => false
  | .agg _ => false
  | .tup _ => false
  | _ => true
theorem oneCell_of {g : Gh} {w : World} {x : AV} {y : Value} (h : rep g w x y) (hc : isCell x = true) : y.oneCell' = true := by
  cases x <;> simp only [isCell, Bool.false_eq_true] at hc
  case v x => simp only [rep] at h; subst h; exact hc
  case sl => simp only [rep, drep] at h; obtain ⟨A, c, rfl, _⟩ := h; rfl
  case own =>
    simp only [rep] at h
    obtain ⟨_, _, xs, h3, _⟩ := h
    rcases h3.2 with ⟨rfl, _⟩ | ⟨_, _, _, rfl, _⟩ <;> rfl
  case ptr => simp only [rep] at h; obtain ⟨b, _, rfl⟩ := h; rfl
  case eptr => simp only [rep] at h; obtain ⟨b, o, rfl, _⟩ := h; rfl
  case fn => simp only [rep] at h; obtain ⟨a, b, rfl, _⟩ := h; rfl
  case arr => simp only [rep] at h; obtain ⟨b, _, _, _, rfl, _⟩ := h; rfl
theorem setRow_heap' {w : World} {b : Nat} {cur cs : Array Value} {T : TypeId} (h : w.heap[b]? = some (.cells cur T (0, 0))) : (w.setRow b cs).heap[b]? = some (.cells cs T (0, 0)) := setRow_heap w b cur cs T (0, 0) h

theorem Mem.setBlock {E : En} {g : Gh} {bl : List (Nat × List AV)} {ow : List Nat} {w : World} (h : Mem E g bl ow w) {n b : Nat} (hn : g.m n = some b) (hro : n ∉ E.ron) {cs : List AV} {arr : Array Value} {cur : Array Value} (hh : w.heap[b]? = some (.cells cur (g.mt n) (0, 0)))
    (hI : ∀ o, ¬ g.I b o) (hr : reps g w cs arr.toList) (hsz : arr.size = cur.size) : Goes g w g (w.setRow b arr) ∧ Mem E g (setB bl n cs) ow (w.setRow b arr) := by
  have other : ∀ k, k ≠ b → (w.setRow b arr).heap[k]? = w.heap[k]? := fun k hk => setRow_other w b k arr hk
  have size : (w.setRow b arr).heap.size = w.heap.size := by simp [World.setRow]
  have keeps : Keeps g.I w (w.setRow b arr) := fun k o hk => World.cell?_of_block (a := ⟨k, o, none⟩) (other k fun e => hI o (e ▸ hk))
  have goes : Goes g w g (w.setRow b arr) := ⟨fun _ _ h => h, keeps, fun _ _ h => h, fun _ _ _ => rfl, fun k T' e rows y hy =>
    ownRep_goes (g := g) (g' := g) (fun _ _ h => h) keeps (fun _ h => ⟨h, rfl⟩) (fun k c h1 h2 => other c fun e => h.disj n k b hn h1 (e ▸ h2)) (fun _ _ _ _ _ h => h) hy, fun k c j _ hk hc => by
      by_cases e : c = b
      · subst e
        obtain ⟨A, T, h1, h2⟩ := hc
        rw [hh] at h1
        cases h1
        exact ⟨arr, _, setRow_heap' hh, hsz.trans h2⟩
      · exact hc.same (other c e)⟩
  refine ⟨goes, ?_⟩
  have hbB : E.B ≤ b ∨ E.M b := (h.mfr n b hn).1.resolve_left hro
  refine { below := ⟨h.below.os, h.below.tape, h.below.output, by rw [size]; exact h.below.size, fun k hk hM => ?_⟩, base := by rw [size]; exact h.base, cell := fun c o hc => by rw [keeps c o hc]; exact h.cell c o hc,
           mfr := fun k c hk => by rw [size]; exact h.mfr k c hk, ofr := fun k c h1 h2 => by rw [size]; exact h.ofr k c h1 h2, minj := h.minj, oinj := h.oinj, disj := h.disj, blk := ?_, key := fun k c hk => ?_, own := h.own, inew := h.inew, iold := h.iold, pin := h.pin }
  · rw [other k fun e => by subst e; rcases hbB with h1 | h1 <;> first | omega | exact hM h1]
    exact h.below.block k hk hM
  · intro k ds hk
    simp only [setB, List.mem_map] at hk
    obtain ⟨⟨k', ds'⟩, hp, he⟩ := hk
    obtain ⟨c, arr', h1, h2, h3, h4⟩ := h.blk k' ds' hp
    cases hb : Nat.beq k' n
    · simp only [hb, cond_false, Prod.mk.injEq] at he
      obtain ⟨rfl, rfl⟩ := he
      have hne : c ≠ b := fun e => by
        subst e
        have := h.minj k' n c h1 hn
        rw [this] at hb; simp at hb
      exact ⟨c, arr', h1, (other c hne).trans h2, reps_goes goes h3, h4⟩
    · simp only [hb, cond_true, Prod.mk.injEq] at he
      obtain ⟨rfl, rfl⟩ := he
      have e := Nat.eq_of_beq_eq_true hb
      rw [e] at h1 ⊢
      have : c = b := by rw [hn] at h1; exact (Option.some.inj h1).symm
      subst this
      exact ⟨c, arr, hn, setRow_heap' hh, reps_goes goes hr, h4⟩
  · obtain ⟨ds, hd⟩ := h.key k c hk
    cases hb : Nat.beq k n
    · exact ⟨ds, List.mem_map.2 ⟨_, hd, by simp only [hb, cond_false]⟩⟩
    · exact ⟨cs, List.mem_map.2 ⟨_, hd, by simp only [hb, cond_true]⟩⟩

theorem MemV.wrote {E : En} {g : Gh} {bl bl' : List (Nat × List AV)} {ow : List Nat} {V : Rig} {w : World} {b : Nat} {arr cur : Array Value} {T : TypeId} {evs : Array Event} (h : MemV E g bl ow ⟨V, w⟩) (hb : V.mine b) (_ : w.heap[b]? = some (.cells cur T (0, 0))) (hk : Mem E g bl' ow (w.setRow b arr))
    (he : ∀ e ∈ evs, ∃ a : Addr, e = ⟨.cell a, true, false⟩ ∧ a.block = b) : Guar V w (w.setRow b arr) evs ∧ MemV E g bl' ow ⟨V.grow w.heap.size (w.setRow b arr).heap.size, w.setRow b arr⟩ := by
  have size : (w.setRow b arr).heap.size = w.heap.size := by simp [World.setRow]
  have hv := h.vis
  refine ⟨Guar.of rfl rfl rfl (by rw [size]; exact Nat.le_refl _) (fun c _ hn => setRow_other w b c arr fun e => hn (e ▸ hb)) (fun e h1 => ?_), ?_⟩
  · obtain ⟨a, rfl, ha⟩ := he e h1
    exact .inl ⟨a, true, rfl, .inl ⟨by rw [ha]; exact hv.sub b hb, fun _ => by rw [ha]; exact hb⟩⟩
  · rw [size, Rig.grow_self]
    exact ⟨hk, hv.I, hv.m, hv.o, hv.sub, fun c hc => by show c < (w.setRow b arr).heap.size; rw [size]; exact hv.lt c hc, hv.up, hv.upm, hv.dn, hv.dnm, hv.nM, hv.ext⟩

theorem TV_store {E : En} {s : St} {d : Option Tmp} {ty : TypeId} {pos : String} {af : Array Edge} {gd : Option (Nat × Bool)} {t : Nat} {x y : Operand} {n o sz : Nat} {ag : Bool} {v : AV} {cs : List AV} [ht : TyOk E.P t ag sz] (hd : dstB E.nt ⟨d, .store t x y, ty, pos, af, gd⟩ = true) (hx : ev s.tm x = .ptr n o) (hy : ev s.tm y = v) (hb : lookB s.bl n = some cs) (hro : n ∉ E.ron)
    (hc : isC v = true) (hall : (acells v).all isCell = true) (hl : (acells v).length = sz) (hfit : o + sz ≤ cs.length) : TV E ⟨d, .store t x y, ty, pos, af, gd⟩ s (St.app ⟨s.tm, setB s.bl n (splice cs o (acells v)), s.ow⟩ d (.v undef) [] []) := by
  intro L g a x0 hi next hn w r0
  replace hi := hi.rely r0
  have h1 := rep_ev hi.tm x
  have h2 := rep_ev hi.tm y
  rw [hx] at h1; rw [hy] at h2
  simp only [rep] at h1
  obtain ⟨b, h1, h1'⟩ := h1
  obtain ⟨b', arr, e1, e2, e3, e4⟩ := hi.mem.mem.blk n cs (lookB_mem hb)
  have : b' = b := by rw [h1] at e1; exact (Option.some.inj e1).symm
  subst this
  have hcs := reps_cellsC h2 hc
  have hvl : (a.eval y).cells.size = sz := by rw [cells_length h2 hc, hl]
  have hal := reps_length e3
  have hall' : ∀ u ∈ (a.eval y).cells.toList, u.oneCell' = true := by
    have : ∀ (xs : List AV) (ys : List Value), reps g w xs ys → xs.all isCell = true → ∀ u ∈ ys, u.oneCell' = true := by
      intro xs
      induction xs with
      | nil => intro ys h _ u hu; simp only [reps] at h; subst h; simp at hu
      | cons x xs ih =>
        intro ys h ha u hu
        simp only [reps] at h
        obtain ⟨z, zs, rfl, k1, k2⟩ := h
        simp only [List.all_cons, Bool.and_eq_true] at ha
        rcases List.mem_cons.1 hu with rfl | hu
        · exact oneCell_of k1 ha.1
        · exact ih zs k2 ha.2 u hu
    exact this _ _ hcs hall
  have hst := run_storeCells_at E.P b' o (g.mt n) (a.eval y).cells.toList 0 arr w e2 (by simp at hal ⊢; omega) hall'
  simp only [Nat.add_zero] at hst
  have hevs : ∀ e ∈ (execOp a.eval ⟨d, .store t x y, ty, pos, af, gd⟩).events E.P w #[], ∃ ad : Addr, e = ⟨.cell ad, true, false⟩ ∧ ad.block = b' := fun e he => by
    have hne : ¬ ((a.eval y).cells.size ≠ sz) := by omega
    simp only [execOp, h1', Instr.storeAt, Instr.sureAddr, storeVar, Sem.events_bind, Sem.run_bind, Sem.run_pure, Sem.events_pure, Result.evThen_ok, Result.andThen_ok, ht.sz, events_sizeOf, if_neg hne, hst] at he
    exact (ev_storeCells b' o (g.mt n) (a.eval y).cells.toList 0 arr w #[] e2 (by simp at hal ⊢; omega) hall' e he).resolve_left (by simp)
  have hrun : (execOp a.eval ⟨d, .store t x y, ty, pos, af, gd⟩).run E.P w = .ok .skip (w.setRow b' (arr.toList.take o ++ (a.eval y).cells.toList ++ arr.toList.drop (o + (a.eval y).cells.toList.length)).toArray) := by
    have hne : ¬ ((a.eval y).cells.size ≠ sz) := by omega
    simp only [execOp, h1', Instr.storeAt, Instr.sureAddr, storeVar, Sem.run_bind, Sem.run_pure, Result.andThen_ok, ht.sz, if_neg hne, hst]
  have hrs := reps_splice (off := o) e3 hcs
  obtain ⟨k1, k2⟩ := hi.mem.mem.setBlock (cs := splice cs o (acells v)) (arr := (arr.toList.take o ++ (a.eval y).cells.toList ++ arr.toList.drop (o + (a.eval y).cells.toList.length)).toArray) h1 hro e2 e4 (by simpa [List.append_assoc] using hrs) (by simp at hal ⊢; omega)
  obtain ⟨q1, q2⟩ := hi.mem.wrote ((hi.mem.vis.m n b' h1).2 hro) e2 k2 hevs
  rw [hrun]
  refine ⟨q1, hn g _ _ ?_⟩
  have hi' : Inv E g ⟨s.tm, setB s.bl n (splice cs o (acells v)), s.ow⟩ a ⟨_, w.setRow b' (arr.toList.take o ++ (a.eval y).cells.toList ++ arr.toList.drop (o + (a.eval y).cells.toList.length)).toArray⟩ :=
    ⟨q2, fun t => rep_goes k1 (hi.tm t), hi.de, hi.sz⟩
  exact hi'.app (dstB_spec hd) (Goes.refl _ _) (by simpa using q2) (by simp [rep])

theorem not_top_of_cells {l : List AV} (h : l.all isCell = true) : l.all (fun x => !isTop x) = true := by
  induction l with
  | nil => rfl
  | cons x l ih =>
    simp only [List.all_cons, Bool.and_eq_true] at h ⊢
    exact ⟨by cases x <;> simp_all [isCell, isTop], ih h.2⟩
theorem reps_tops {g : Gh} {w : World} : ∀ (l : List AV) (ys : List Value), l.all isTop = true → l.length = ys.length → reps g w l ys
  | [], ys, _, h => by cases ys <;> simp_all [reps]
  | x :: l, [], _, h => by simp at h
  | x :: l, y :: ys, ha, h => by
    simp only [List.all_cons, Bool.and_eq_true] at ha
    simp only [reps]
    refine ⟨y, ys, rfl, ?_, reps_tops l ys ha.2 (by simpa using h)⟩
    cases x <;> simp_all [isTop, rep]
theorem QI_store {E : En} {tm : List (Nat × AV)} {ty : TypeId} {pos : String} {af : Array Edge} {t : Nat} {y : Operand} {n sz : Nat} {ag : Bool} {v : AV} [ht : TyOk E.P t ag sz] (hx : ev tm (.tmp n) = .ptr n 0) (hy : ev tm y = v) (hro : n ∉ E.ron)
    (hc : isC v = true) (hall : (acells v).all isCell = true) (hl : (acells v).length = sz) (hne : acells v ≠ []) : QI E tm ⟨none, .store t (.tmp n) y, ty, pos, af, none⟩ n (acells v) := by
  refine ⟨rfl, rfl, by simp [Op.operands], ⟨not_top_of_cells hall, hne⟩, fun L g ρ bl' ow' x0 hm0 hex hall' hop0 w r0 => ?_⟩
  have hg0 := hm0.goes r0
  have hmv := hm0.rely r0
  have hm := hmv.mem
  have hop : ∀ z ∈ (Op.store t (.tmp n) y).operands, rep g w (ev tm z) (ρ z) := fun z hz => rep_goes hg0 (hop0 z hz)
  have h1 := hop (.tmp n) (by simp [Op.operands])
  have h2 := hop y (by simp [Op.operands])
  rw [hx] at h1; rw [hy] at h2
  simp only [rep] at h1
  obtain ⟨b, h1, h1'⟩ := h1
  obtain ⟨c0, hc0⟩ := hex
  obtain ⟨b', arr, e1, e2, e3, e4⟩ := hm.blk n c0 hc0
  have : b' = b := by rw [h1] at e1; exact (Option.some.inj e1).symm
  subst this
  have hcs := reps_cellsC h2 hc
  have hvl : (ρ y).cells.size = sz := by rw [cells_length h2 hc, hl]
  have hal := reps_length e3
  have hc0l := (hall' c0 hc0).1
  have hall2 : ∀ u ∈ (ρ y).cells.toList, u.oneCell' = true := by
    have : ∀ (xs : List AV) (ys : List Value), reps g w xs ys → xs.all isCell = true → ∀ u ∈ ys, u.oneCell' = true := by
      intro xs
      induction xs with
      | nil => intro ys h _ u hu; simp only [reps] at h; subst h; simp at hu
      | cons x xs ih =>
        intro ys h ha u hu
        simp only [reps] at h
        obtain ⟨z, zs, rfl, k1, k2⟩ := h
        simp only [List.all_cons, Bool.and_eq_true] at ha
        rcases List.mem_cons.1 hu with rfl | hu
        · exact oneCell_of k1 ha.1
        · exact ih zs k2 ha.2 u hu
    exact this _ _ hcs hall
  have hst := run_storeCells_at E.P b' 0 (g.mt n) (ρ y).cells.toList 0 arr w e2 (by simp at hal ⊢; omega) hall2
  simp only [Nat.add_zero] at hst
  have hrow : (arr.toList.take 0 ++ (ρ y).cells.toList ++ arr.toList.drop (0 + (ρ y).cells.toList.length)).toArray = (ρ y).cells := by
    have : arr.toList.drop (0 + (ρ y).cells.toList.length) = [] := List.drop_eq_nil_of_le (by simp at hal ⊢; omega)
    rw [this]; simp
  have hrun : (execOp ρ ⟨none, .store t (.tmp n) y, ty, pos, af, none⟩).run E.P w = .ok .skip (w.setRow b' (ρ y).cells) := by
    have hne : ¬ ((ρ y).cells.size ≠ sz) := by omega
    rw [hrow] at hst
    simp only [execOp, h1', Instr.storeAt, Instr.sureAddr, storeVar, Sem.run_bind, Sem.run_pure, Result.andThen_ok, ht.sz, if_neg hne, hst]
  have hevs : ∀ e ∈ (execOp ρ ⟨none, .store t (.tmp n) y, ty, pos, af, none⟩).events E.P w #[], ∃ ad : Addr, e = ⟨.cell ad, true, false⟩ ∧ ad.block = b' := fun e he => by
    have hne : ¬ ((ρ y).cells.size ≠ sz) := by omega
    simp only [execOp, h1', Instr.storeAt, Instr.sureAddr, storeVar, Sem.events_bind, Sem.run_bind, Sem.run_pure, Sem.events_pure, Result.evThen_ok, Result.andThen_ok, ht.sz, events_sizeOf, if_neg hne, hst] at he
    exact (ev_storeCells b' 0 (g.mt n) (ρ y).cells.toList 0 arr w #[] e2 (by simp at hal ⊢; omega) hall2 e he).resolve_left (by simp)
  obtain ⟨k1, k2⟩ := hm.setBlock (cs := acells v) (arr := (ρ y).cells) h1 hro e2 e4 hcs (by simp at hal; omega)
  rw [hrun]
  have hk2 : Mem E g ((n, acells v) :: bl') ow' (w.setRow b' (ρ y).cells) := by
    refine { k2 with blk := fun k ds hk => ?_, key := fun k c hk => ?_ }
    · have hself : ∃ b arr', g.m n = some b ∧ (w.setRow b' (ρ y).cells).heap[b]? = some (.cells arr' (g.mt n) (0, 0)) ∧ reps g (w.setRow b' (ρ y).cells) (acells v) arr'.toList ∧ ∀ o, ¬ g.I b o :=
        k2.blk n (acells v) (List.mem_map.2 ⟨_, hc0, by simp⟩)
      rcases List.mem_cons.1 hk with he | hk2
      · simp only [Prod.mk.injEq] at he
        obtain ⟨rfl, rfl⟩ := he
        exact hself
      · clear hk
        cases hb : Nat.beq k n
        · exact k2.blk k ds (List.mem_map.2 ⟨_, hk2, by simp only [hb, cond_false]⟩)
        · have := Nat.eq_of_beq_eq_true hb
          subst this
          obtain ⟨b2, arr2, m1, m2, m3, m4⟩ := hself
          exact ⟨b2, arr2, m1, m2, reps_tops _ _ (hall' ds hk2).2 (by rw [(hall' ds hk2).1]; exact (reps_length m3).symm), m4⟩
    · obtain ⟨ds, hd⟩ := hm.key k c hk
      exact ⟨ds, List.mem_cons_of_mem _ hd⟩
  obtain ⟨q1, q2⟩ := hmv.wrote ((hmv.vis.m n b' h1).2 hro) e2 hk2 hevs
  exact ⟨q1, rfl, g, hg0.trans k1, q2⟩
theorem Mem.tops {E : En} {g : Gh} {n : Nat} {cs ts : List AV} {bl : List (Nat × List AV)} {ow : List Nat} {w : World} (h : Mem E g ((n, cs) :: bl) ow w) (ht : ts.all isTop = true) (hl : ts.length = cs.length) : Mem E g ((n, ts) :: bl) ow w :=
  { h with
    blk := fun k ds hk => by
      rcases List.mem_cons.1 hk with he | hk
      · simp only [Prod.mk.injEq] at he
        obtain ⟨rfl, rfl⟩ := he
        obtain ⟨b, arr, m1, m2, m3, m4⟩ := h.blk k cs (List.mem_cons_self ..)
        exact ⟨b, arr, m1, m2, reps_tops _ _ ht (by rw [hl]; exact (reps_length m3).symm), m4⟩
      · exact h.blk k ds (List.mem_cons_of_mem _ hk)
    key := fun k c hk => by
      obtain ⟨ds, hd⟩ := h.key k c hk
      rcases List.mem_cons.1 hd with he | hd
      · simp only [Prod.mk.injEq] at he
        exact ⟨ts, by rw [he.1]; exact List.mem_cons_self ..⟩
      · exact ⟨ds, List.mem_cons_of_mem _ hd⟩ }
theorem QV_tops {E : En} {bl : List (Nat × List AV)} {tm : List (Nat × AV)} {o : Oper} {n : Nat} {v : AV} {cs ts : List AV} (h : QV E bl tm o v [(n, cs)] []) (ht : ts.all isTop = true) (hl : ts.length = cs.length) : QV E bl tm o v [(n, ts)] [] :=
  fun L g ρ bl' ow' x hm hb hf hn hop => (h L g ρ bl' ow' x hm hb (fun p hp q hq => by
      rw [List.mem_singleton] at hp; subst hp
      exact hf (n, ts) (List.mem_singleton.2 rfl) q hq) hn hop).mono fun _ _ hK => let ⟨g', h1, h2, h3⟩ := hK; ⟨g', h1, ⟨Mem.tops h2.mem ht hl, h2.vis⟩, h3⟩
end Go.Eng

namespace Go.Eng
open Go Go.Conc

def lookO : List (Nat × AV) → Nat → Option AV
  | [], _ => some .top
  | (k, v) :: r, t => bif Nat.beq k t then some v else lookO r t
theorem lookO_eq : ∀ (tm : List (Nat × AV)) (t : Nat), lookO tm t = some (look tm t)
  | [], _ => rfl
  | (k, v) :: r, t => by
    simp only [lookO, look]
    cases Nat.beq k t
    · exact lookO_eq r t
    · rfl
def cstO : Value → Option AV
  | .agg a => some (.agg (a.toList.map AV.v))
  | .bool b => some (.v (.bool b))
  | .int k n => some (.v (.int k n))
  | .slice a n c => some (.v (.slice a n c))
  | x => some (.v x)
def evO (tm : List (Nat × AV)) : Operand → Option AV
  | .tmp t => lookO tm t
  | .const x => cstO x
  | .global _ => some .top
  | .func f => some (.v (.func (.func f) #[] #[]))
theorem evO_ev {tm : List (Nat × AV)} {x : Operand} {v : AV} (h : evO tm x = some v) : ev tm x = v := by
  cases x with
  | tmp t => simpa [evO, lookO_eq, ev] using h
  | const x => cases x <;> simpa [evO, cstO, ev, cst] using h
  | global n => simpa [evO, ev] using h
  | func f => simpa [evO, ev] using h
def acellsO : AV → Option (List AV)
  | .agg cs => some cs
  | x => some [x]
theorem acellsO_eq {x : AV} {cs : List AV} (h : acellsO x = some cs) : acells x = cs := by
  cases x <;> simpa [acellsO, acells] using h
def takeO : Nat → List AV → Option (List AV)
  | 0, _ => some []
  | _ + 1, [] => none
  | n + 1, x :: xs => match takeO n xs with | some r => some (x :: r) | none => none
theorem takeO_eq : ∀ {n : Nat} {l r : List AV}, takeO n l = some r → n ≤ l.length ∧ l.take n = r
  | 0, l, r, h => by simp [takeO] at h; simp [h]
  | n + 1, [], r, h => by simp [takeO] at h
  | n + 1, x :: xs, r, h => by
    simp only [takeO] at h
    split at h
    · rename_i r' hr
      obtain ⟨h1, h2⟩ := takeO_eq hr
      simp only [Option.some.injEq] at h
      exact ⟨by simp; exact h1, by simp [h2, h]⟩
    · cases h
def dropO : Nat → List AV → Option (List AV)
  | 0, l => some l
  | _ + 1, [] => none
  | n + 1, _ :: xs => dropO n xs
theorem dropO_eq : ∀ {n : Nat} {l r : List AV}, dropO n l = some r → l.drop n = r
  | 0, l, r, h => by simpa [dropO] using h
  | n + 1, [], r, h => by simp [dropO] at h
  | n + 1, x :: xs, r, h => by simpa using dropO_eq (by simpa [dropO] using h)
def loadO (ag : Bool) (sz : Nat) (cs : List AV) : Option AV := bif ag then (match takeO sz cs with | some r => some (.agg r) | none => none) else (match cs with | x :: _ => some x | [] => none)
theorem loadO_eq {ag : Bool} {sz : Nat} {cs : List AV} {v : AV} (h : loadO ag sz cs = some v) : aload ag sz cs = some v := by
  cases ag
  · cases cs with
    | nil => simp [loadO] at h
    | cons x cs => simpa [loadO, aload] using h
  · simp only [loadO, cond_true] at h
    split at h
    · rename_i r hr
      obtain ⟨h1, h2⟩ := takeO_eq hr
      have : Nat.ble sz cs.length = true := Nat.ble_eq_true_of_le h1
      simp only [aload, cond_true, this, h2]
      exact h
    · cases h
def putO : List AV → Nat → List AV → Option (List AV)
  | l, 0, [] => some l
  | [], 0, _ :: _ => none
  | _ :: l, 0, c :: cs => match putO l 0 cs with | some r => some (c :: r) | none => none
  | [], _ + 1, _ => none
  | x :: l, n + 1, cs => match putO l n cs with | some r => some (x :: r) | none => none
theorem putO_eq : ∀ {l cs r : List AV} {n : Nat}, putO l n cs = some r → n + cs.length ≤ l.length ∧ splice l n cs = r
  | l, [], r, 0, h => by simp [putO] at h; simp [splice, h]
  | [], c :: cs, r, 0, h => by simp [putO] at h
  | x :: l, c :: cs, r, 0, h => by
    simp only [putO] at h
    split at h
    · rename_i r' hr
      obtain ⟨h1, h2⟩ := putO_eq hr
      simp only [Option.some.injEq] at h
      refine ⟨by simp at h1 ⊢; exact h1, ?_⟩
      simp [splice] at h2 ⊢
      rw [← h, ← h2]
    · cases h
  | [], cs, r, n + 1, h => by cases cs <;> simp [putO] at h
  | x :: l, cs, r, n + 1, h => by
    have h' : (match putO l n cs with | some r => some (x :: r) | none => none) = some r := by cases cs <;> simpa [putO] using h
    split at h'
    · rename_i r' hr
      obtain ⟨h1, h2⟩ := putO_eq hr
      simp only [Option.some.injEq] at h'
      refine ⟨by simp; omega, ?_⟩
      simp only [splice] at h2 ⊢
      rw [show n + 1 + cs.length = (n + cs.length) + 1 by omega]
      simp [h2, h']
    · cases h'
def plO : List (Nat × Nat) → Nat → Option (Nat × Nat)
  | [], _ => none
  | p :: _, 0 => some p
  | _ :: r, n + 1 => plO r n
theorem plO_eq : ∀ (l : List (Nat × Nat)) (n : Nat), plO l n = l[n]?
  | [], n => by simp [plO]
  | p :: l, 0 => by simp [plO]
  | p :: l, n + 1 => by simp [plO, plO_eq l n]
def buildO (pl : Nat → Option (Nat × Nat)) (tm : List (Nat × AV)) : List AV → List (Nat × Operand) → Option (List AV)
  | z, [] => some z
  | z, (i, x) :: r => match pl i with
    | none => none
    | some (off, size) => match evO tm x with
      | none => none
      | some v => bif isC v then (match acellsO v with
        | none => none
        | some cs => bif Nat.beq cs.length size then (match putO z off cs with | some z' => buildO pl tm z' r | none => none) else none) else none
theorem buildO_eq {pl : Nat → Option (Nat × Nat)} {tm : List (Nat × AV)} : ∀ {ps : List (Nat × Operand)} {z out : List AV}, buildO pl tm z ps = some out → abuild pl z (ps.map fun p => (p.1, ev tm p.2)) = some out
  | [], z, out, h => by simpa [buildO, abuild] using h
  | (i, x) :: r, z, out, h => by
    simp only [buildO] at h
    simp only [List.map_cons, abuild]
    split at h
    · cases h
    · rename_i off size hp
      split at h
      · cases h
      · rename_i v hv
        cases hc : isC v
        · rw [hc] at h; cases h
        · rw [hc] at h
          simp only [cond_true] at h
          split at h
          · cases h
          · rename_i cs hcs
            cases hl : Nat.beq cs.length size
            · rw [hl] at h; cases h
            · rw [hl] at h
              simp only [cond_true] at h
              split at h
              · rename_i z' hz
                obtain ⟨h1, h2⟩ := putO_eq hz
                have e1 := evO_ev hv
                have e2 := acellsO_eq hcs
                have e3 := Nat.eq_of_beq_eq_true hl
                simp only [e1, e2, hl, hc, Bool.and_true, show Nat.ble (off + size) z.length = true from Nat.ble_eq_true_of_le (by omega), cond_true, h2]
                exact buildO_eq h
              · cases h
def setBO : List (Nat × List AV) → Nat → List AV → Option (List (Nat × List AV))
  | [], _, _ => some []
  | (k, c) :: r, n, cs => match setBO r n cs with
    | some r' => bif Nat.beq k n then some ((k, cs) :: r') else some ((k, c) :: r')
    | none => none
theorem setBO_eq : ∀ {bl r : List (Nat × List AV)} {n : Nat} {cs : List AV}, setBO bl n cs = some r → setB bl n cs = r
  | [], r, n, cs, h => by simpa [setBO, setB] using h
  | (k, c) :: bl, r, n, cs, h => by
    simp only [setBO] at h
    split at h
    · rename_i r' hr
      have := setBO_eq hr
      simp only [setB, List.map_cons] at this ⊢
      rw [this]
      cases hb : Nat.beq k n
      · rw [hb] at h; simpa using h
      · rw [hb] at h; simpa using h
    · cases h
def iniO : Nat → List AV → Option (List (Nat × AV))
  | _, [] => some []
  | k, x :: xs => match iniO (k + 1) xs with | some r => some ((k, x) :: r) | none => none
theorem iniO_eq : ∀ {xs : List AV} {k : Nat} {r : List (Nat × AV)}, iniO k xs = some r → (xs.zipIdx k).map (fun p => (p.2, p.1)) = r
  | [], k, r, h => by simpa [iniO] using h
  | x :: xs, k, r, h => by
    simp only [iniO] at h
    split at h
    · rename_i r' hr
      simp only [Option.some.injEq] at h
      simp [List.zipIdx_cons, iniO_eq hr, h]
    · cases h
theorem callOk {P : Program} {f nt : Nat} {fn : Func} {rs : Array ResultVar} {c : Code} {args : List AV} {tm : List (Nat × AV)} {R : AV → Prop} (hf : P.funcs[f]? = some fn) (hnt : fn.ntmps = nt) (hrs : fn.results = rs) (hb : fn.body = some c) (hn : Nat.ble args.length nt = true) (htm : iniO 0 args = some tm)
    (h : ∀ (B : Nat) (w0 : World) (M : Nat → Prop) (I0 : Nat → Nat → Prop) (V0 : Rig), W (enC P B w0 nt M I0 V0) c (retQ (enC P B w0 nt M I0 V0) rs.toList R) ⟨tm, [], []⟩) : CallOk P f args R :=
  CallOk_of_W hf hnt hrs hb (Nat.le_of_ble_eq_true hn) (by rw [iniO_eq htm]; exact h)
def opsO (tm : List (Nat × AV)) : List Operand → Option (List AV)
  | [] => some []
  | x :: r => match evO tm x with
    | none => none
    | some v => match opsO tm r with | some vs => some (v :: vs) | none => none
theorem opsO_eq {tm : List (Nat × AV)} : ∀ {xs : List Operand} {r : List AV}, opsO tm xs = some r → xs.map (ev tm) = r
  | [], r, h => by simpa [opsO] using h
  | x :: xs, r, h => by
    simp only [opsO] at h
    split at h
    · cases h
    · rename_i v hv
      split at h
      · rename_i vs hvs
        simp only [Option.some.injEq] at h
        simp [evO_ev hv, opsO_eq hvs, h]
      · cases h
section
variable {E : En} {bl : List (Nat × List AV)} {tm : List (Nat × AV)} {d : Option Tmp} {ty : TypeId} {pos : String} {af : Array Edge} {gd : Option (Nat × Bool)}
theorem q_move {x : Operand} {v : AV} (h : evO tm x = some v) : QV E bl tm ⟨d, .move x, ty, pos, af, gd⟩ v [] [] := QV_move (evO_ev h)
theorem q_assign {x : Operand} {v : AV} (h : evO tm x = some v) : QV E bl tm ⟨d, .assign x, ty, pos, af, gd⟩ v [] [] := QV_assign (evO_ev h)
theorem q_pick {c x y : Operand} {b : Bool} {v : AV} (hc : ev tm c = .v (.bool b)) (h : (bif b then evO tm x else evO tm y) = some v) : QV E bl tm ⟨d, .pick c x y, ty, pos, af, gd⟩ v [] [] :=
  QV_pick hc (by cases b <;> exact evO_ev h)
theorem q_load {t : Nat} {x : Operand} {n o sz : Nat} {ag : Bool} {cs ds : List AV} {v : AV} [ht : TyOk E.P t ag sz] (hx : ev tm x = .ptr n o) (hb : lookB bl n = some cs) (hd : dropO o cs = some ds) (h : loadO ag sz ds = some v) : QV E bl tm ⟨d, .load t x, ty, pos, af, gd⟩ v [] [] :=
  QV_load hx hb (by rw [dropO_eq hd]; exact loadO_eq h)
theorem q_loadE {t : Nat} {x : Operand} {sz : Nat} {ag : Bool} {cs : List AV} {v : AV} [ht : TyOk E.P t ag sz] (hx : ev tm x = .eptr cs) (h : loadO ag sz cs = some v) : QV E bl tm ⟨d, .load t x, ty, pos, af, gd⟩ v [] [] := QV_loadE hx (loadO_eq h)
theorem q_fieldAddrE {s f : Nat} {x : Operand} {cs ds : List AV} {off sz : Nat} {ag : Bool} [hf : FldOk E.P s f off ag sz] (hx : ev tm x = .eptr cs) (h : dropO off cs = some ds) : QV E bl tm ⟨d, .fieldAddr s x f, ty, pos, af, gd⟩ (.eptr ds) [] [] := by
  have := QV_fieldAddrE (E := E) (bl := bl) (tm := tm) (d := d) (ty := ty) (pos := pos) (af := af) (gd := gd) (s := s) (f := f) hx
  rwa [dropO_eq h] at this
theorem q_field {s f : Nat} {x : Operand} {cs ds : List AV} {off sz : Nat} {ag : Bool} {v : AV} [hf : FldOk E.P s f off ag sz] (hx : ev tm x = .agg cs) (hd : dropO off cs = some ds) (h : loadO ag sz ds = some v) (hl : Nat.ble (off + sz) cs.length = true) : QV E bl tm ⟨d, .field s x f, ty, pos, af, gd⟩ v [] [] := by
  refine QV_field hx ?_ (Nat.le_of_ble_eq_true hl)
  have h' := loadO_eq h
  have e := dropO_eq hd
  cases ag
  · simp only [aload, cond_false] at h' ⊢
    rw [← h', ← e, List.head?_drop]
  · simp only [aload, cond_true] at h' ⊢
    cases hb : Nat.ble sz ds.length
    · rw [hb] at h'; cases h'
    · rw [hb] at h'; rw [e]; exact h'
theorem q_box {t : Nat} {x : Operand} {v : AV} {n : Nat} {cs : List AV} (hx : evO tm x = some v) (hc : isC v = true) (h : acellsO v = some cs) : QV E bl tm ⟨d, .box t x, ty, pos, af, gd⟩ (.ptr n 0) [(n, cs)] [] := by
  have := QV_box (E := E) (bl := bl) (tm := tm) (d := d) (ty := ty) (pos := pos) (af := af) (gd := gd) (t := t) n (evO_ev hx) hc
  rwa [acellsO_eq h] at this
class ZcOk (P : Program) (t : Nat) (zc : outParam (List AV)) : Prop where
  ok : ∃ z, ZeroOk P t z ∧ z.cells.toList.map AV.v = zc
theorem q_alloc {t n : Nat} {zc : List AV} [hz : ZcOk E.P t zc] : QV E bl tm ⟨d, .alloc t, ty, pos, af, gd⟩ (.ptr n 0) [(n, zc)] [] := by
  obtain ⟨z, h1, h2⟩ := hz.ok
  have := QV_alloc (E := E) (bl := bl) (tm := tm) (d := d) (ty := ty) (pos := pos) (af := af) (gd := gd) (t := t) n
  rwa [h2] at this
def topsO : List AV → Option (List AV)
  | [] => some []
  | _ :: r => match topsO r with | some s => some (.top :: s) | none => none
theorem topsO_eq : ∀ {l r : List AV}, topsO l = some r → r.all isTop = true ∧ r.length = l.length
  | [], r, h => by simp [topsO] at h; subst h; simp
  | x :: l, r, h => by
    simp only [topsO] at h
    split at h
    · rename_i s hs
      simp only [Option.some.injEq] at h
      subst h
      obtain ⟨h1, h2⟩ := topsO_eq hs
      exact ⟨by simp only [List.all_cons, h1, isTop, Bool.and_self], by simp [h2]⟩
    · cases h
theorem q_allocT {t n : Nat} {zc ts : List AV} [hz : ZcOk E.P t zc] (h : topsO zc = some ts) : QV E bl tm ⟨d, .alloc t, ty, pos, af, gd⟩ (.ptr n 0) [(n, ts)] [] :=
  QV_tops q_alloc (topsO_eq h).1 (topsO_eq h).2
theorem q_build {t : Nat} {ps : Array (Nat × Operand)} {z : List Value} {pl : List (Nat × Nat)} {zc out : List AV} [hb : BldOk E.P t z pl] [hz : ZcOk E.P t zc] (h : buildO (plO pl) tm zc ps.toList = some out) : QV E bl tm ⟨d, .build t ps, ty, pos, af, gd⟩ (.agg out) [] [] := by
  refine QV_build (z := z) (pl := pl) ?_
  obtain ⟨z', h1, h2⟩ := hz.ok
  obtain ⟨zv, fields, k1, k2, _⟩ := hb.bld
  have hw : ∀ w, (Result.ok z' w : Result Value) = .ok zv w := fun w => (h1.zero w).symm.trans (k1 w)
  have : z' = zv := by
    have := hw default
    simpa using this
  subst this
  rw [← k2, h2]
  have := buildO_eq h
  rwa [show plO pl = (pl[·]?) from funext fun n => plO_eq pl n] at this
theorem q_lenM {α : Type} {t : Nat} {x : Operand} {xv : AV} {T e e' by_ : Nat} {f : α → List AV} {l : List α} [hs : SlOk E.P t T e' by_] (hx : ev tm x = xv) (hr : arows xv = some (e, l.map f)) :
    QV E bl tm ⟨d, .call ⟨.builtin .len, #[x], #[t]⟩, ty, pos, af, gd⟩ (.v (.int .i64 l.length)) [] [] := by
  have := QV_len (E := E) (bl := bl) (tm := tm) (d := d) (ty := ty) (pos := pos) (af := af) (gd := gd) (t := t) (T := T) (by_ := by_) hx hr
  rwa [List.length_map] at this
theorem q_makeFunc {f : Fn} {fs cs : Array Operand} {xs ys : List AV} (hx : opsO tm fs.toList = some xs) (hy : opsO tm cs.toList = some ys) : QV E bl tm ⟨d, .makeFunc f fs cs, ty, pos, af, gd⟩ (.fn f xs ys) [] [] := by
  have := QV_makeFunc (E := E) (bl := bl) (tm := tm) (d := d) (ty := ty) (pos := pos) (af := af) (gd := gd) (f := f) (fs := fs) (cs := cs)
  rwa [opsO_eq hx, opsO_eq hy] at this
end

theorem W_condT {E : En} {Q : Exit → St → Prop} {s : St} {c : Operand} {x y : Code} (hc : ev s.tm c = .v (.bool true)) (h : W E x Q s) : W E (.cond c x y) Q s := W_cond hc (fun _ => h) (fun h => by cases h)
theorem W_condF {E : En} {Q : Exit → St → Prop} {s : St} {c : Operand} {x y : Code} (hc : ev s.tm c = .v (.bool false)) (h : W E y Q s) : W E (.cond c x y) Q s := W_cond hc (fun h => by cases h) (fun _ => h)
def splitO {α : Type} : Nat → List α → Option (List α × List α)
  | 0, l => some ([], l)
  | _ + 1, [] => none
  | n + 1, x :: xs => match splitO n xs with | some (a, b) => some (x :: a, b) | none => none
theorem splitO_eq {α : Type} : ∀ {n : Nat} {l a b : List α}, splitO n l = some (a, b) → l.take n = a ∧ l.drop n = b
  | 0, l, a, b, h => by simp [splitO] at h; simp [h]
  | n + 1, [], a, b, h => by simp [splitO] at h
  | n + 1, x :: xs, a, b, h => by
    simp only [splitO] at h
    split at h
    · rename_i a' b' hr
      obtain ⟨h1, h2⟩ := splitO_eq hr
      simp only [Option.some.injEq, Prod.mk.injEq] at h
      simp [h1, h2, h]
    · cases h
theorem wdraw {E : En} {id : Nat} {l hd tl : List Oper} {Q : Exit → St → Prop} {tm : List (Nat × AV)} {bl : List (Nat × List AV)} {ow : List Nat} (n : Nat) (hm : E.P.follows .mixedOrders = true) (hB : headB l.toArray n = true) (hT : tailB l.toArray n = true) (hs : splitO n l = some (hd, tl))
    (h : HW E l.toArray bl hd ⟨tm, bl, ow⟩ (WL E l.toArray tl Q)) : W E (.region id l.toArray true) Q ⟨tm, bl, ow⟩ := by
  obtain ⟨h1, h2⟩ := splitO_eq hs
  subst h1; subst h2
  exact W_draw n hm hB hT h
def GY (ops : Array Oper) (tm : List (Nat × AV)) : Option (Nat × Bool) → Prop
  | none => True
  | some (j, b) => ∃ d, (ops[j]?).bind (·.dst) = some d ∧ look tm d = .v (.bool b)
def GN (ops : Array Oper) (tm : List (Nat × AV)) : Option (Nat × Bool) → Prop
  | none => False
  | some (j, b) => ∃ d, (ops[j]?).bind (·.dst) = some d ∧ look tm d = .v (.bool (!b))

def GU (ops : Array Oper) (tm : List (Nat × AV)) : Option (Nat × Bool) → Prop
  | none => False
  | some (j, _) => ∃ d, (ops[j]?).bind (·.dst) = some d ∧ look tm d = .v undef

section
variable {E : En} {ops : Array Oper} {rest : List Oper} {Q : Exit → St → Prop} {K : St → Prop} {tm : List (Nat × AV)} {bl bl0 : List (Nat × List AV)} {ow : List Nat} {d : Nat} {op : Op} {ty : TypeId} {pos : String} {af : Array Edge} {gd : Option (Nat × Bool)} {v : AV} {cs : List AV}

theorem wl_gy {o : Oper} {s : St} {nb : List (Nat × List AV)} {no : List Nat} (h : QV E s.bl s.tm o v nb no) (hg : GY ops s.tm o.guard) (hd : dstB E.nt o = true) (hf : freshB nb no s = true) (hk : WL E ops rest Q (s.app o.dst v nb no)) : WL E ops (o :: rest) Q s := by
  cases hgd : o.guard with
  | none => exact WL_q h hgd hd hf hk
  | some jb =>
    obtain ⟨j, b⟩ := jb
    rw [hgd] at hg
    obtain ⟨d, h1, h2⟩ := hg
    exact WL_gy h hgd h1 h2 hd hf hk
theorem hw_gy {o : Oper} {s : St} {nb : List (Nat × List AV)} {no : List Nat} (h : QV E bl0 s.tm o v nb no) (hg : GY ops s.tm o.guard) (hd : dstB E.nt o = true) (hf : freshB nb no s = true) (hn : namesB nb o = true) (hk : HW E ops bl0 rest (s.app o.dst v nb no) K) : HW E ops bl0 (o :: rest) s K := by
  cases hgd : o.guard with
  | none => exact HW_q h hgd hd hf hn hk
  | some jb =>
    obtain ⟨j, b⟩ := jb
    rw [hgd] at hg
    obtain ⟨d, h1, h2⟩ := hg
    exact HW_gy h hgd h1 h2 hd hf hn hk
theorem wl0 (h : QV E bl tm ⟨some d, op, ty, pos, af, gd⟩ v [] []) (hg : GY ops tm gd) (hd : Nat.blt d E.nt = true) (hk : WL E ops rest Q ⟨(d, v) :: tm, bl, ow⟩) : WL E ops (⟨some d, op, ty, pos, af, gd⟩ :: rest) Q ⟨tm, bl, ow⟩ := wl_gy h hg hd (by simp [freshB]) hk
theorem wlb (h : QV E bl tm ⟨some d, op, ty, pos, af, gd⟩ v [(d, cs)] []) (hg : GY ops tm gd) (hd : Nat.blt d E.nt = true) (hf : freshB [(d, cs)] [] ⟨tm, bl, ow⟩ = true) (hk : WL E ops rest Q ⟨(d, v) :: tm, (d, cs) :: bl, ow⟩) : WL E ops (⟨some d, op, ty, pos, af, gd⟩ :: rest) Q ⟨tm, bl, ow⟩ := wl_gy h hg hd hf hk
theorem wln (hg : GN ops tm gd) (hd : Nat.blt d E.nt = true) (hk : WL E ops rest Q ⟨(d, .v undef) :: tm, bl, ow⟩) : WL E ops (⟨some d, op, ty, pos, af, gd⟩ :: rest) Q ⟨tm, bl, ow⟩ := by
  cases gd with
  | none => exact hg.elim
  | some jb =>
    obtain ⟨j, b⟩ := jb
    obtain ⟨d', h1, h2⟩ := hg
    exact WL_gn (b := !b) (c := b) rfl h1 h2 (by simp) hd hk
theorem wlnu (hg : GU ops tm gd) (hd : Nat.blt d E.nt = true) (hk : WL E ops rest Q ⟨(d, .v undef) :: tm, bl, ow⟩) : WL E ops (⟨some d, op, ty, pos, af, gd⟩ :: rest) Q ⟨tm, bl, ow⟩ := by
  cases gd with
  | none => exact hg.elim
  | some jb =>
    obtain ⟨j, b⟩ := jb
    obtain ⟨d', h1, h2⟩ := hg
    exact WL_gu rfl h1 h2 hd hk
theorem hwnu (hg : GU ops tm gd) (hd : Nat.blt d E.nt = true) (hk : HW E ops bl0 rest ⟨(d, .v undef) :: tm, bl, ow⟩ K) : HW E ops bl0 (⟨some d, op, ty, pos, af, gd⟩ :: rest) ⟨tm, bl, ow⟩ K := by
  cases gd with
  | none => exact hg.elim
  | some jb =>
    obtain ⟨j, b⟩ := jb
    obtain ⟨d', h1, h2⟩ := hg
    exact HW_gu rfl h1 h2 hd hk
theorem hw0 (h : QV E bl0 tm ⟨some d, op, ty, pos, af, gd⟩ v [] []) (hg : GY ops tm gd) (hd : Nat.blt d E.nt = true) (hk : HW E ops bl0 rest ⟨(d, v) :: tm, bl, ow⟩ K) : HW E ops bl0 (⟨some d, op, ty, pos, af, gd⟩ :: rest) ⟨tm, bl, ow⟩ K := hw_gy h hg hd (by simp [freshB]) (by simp [namesB]) hk
theorem hwb (h : QV E bl0 tm ⟨some d, op, ty, pos, af, gd⟩ v [(d, cs)] []) (hg : GY ops tm gd) (hd : Nat.blt d E.nt = true) (hf : freshB [(d, cs)] [] ⟨tm, bl, ow⟩ = true) (hk : HW E ops bl0 rest ⟨(d, v) :: tm, (d, cs) :: bl, ow⟩ K) : HW E ops bl0 (⟨some d, op, ty, pos, af, gd⟩ :: rest) ⟨tm, bl, ow⟩ K := hw_gy h hg hd hf (by simp [namesB]) hk
theorem hwn (hg : GN ops tm gd) (hd : Nat.blt d E.nt = true) (hk : HW E ops bl0 rest ⟨(d, .v undef) :: tm, bl, ow⟩ K) : HW E ops bl0 (⟨some d, op, ty, pos, af, gd⟩ :: rest) ⟨tm, bl, ow⟩ K := by
  cases gd with
  | none => exact hg.elim
  | some jb =>
    obtain ⟨j, b⟩ := jb
    obtain ⟨d', h1, h2⟩ := hg
    exact HW_gn (b := !b) (c := b) rfl h1 h2 (by simp) hd hk
theorem look_again {x : AV} {k : Nat} (hx : look tm k = x) : ∀ t, look ((k, x) :: tm) t = look tm t := fun t => by
  simp only [look]
  cases hb : Nat.beq k t
  · rfl
  · have := Nat.eq_of_beq_eq_true hb
    subst this; simp [hx]
theorem WL_same {l : List Oper} {s s' : St} (h1 : s.bl = s'.bl) (h2 : s.ow = s'.ow) (h3 : ∀ t, look s.tm t = look s'.tm t) (h : WL E ops l Q s) : WL E ops l Q s' := fun L g a w hi =>
  h L g a w ⟨by rw [h1, h2]; exact hi.mem, fun t => by rw [h3]; exact hi.tm t, hi.de, hi.sz⟩
theorem QV_same {o : Oper} {tm' : List (Nat × AV)} {v : AV} {nb : List (Nat × List AV)} {no : List Nat} (h3 : ∀ t, look tm t = look tm' t) (h : QV E bl tm o v nb no) : QV E bl tm' o v nb no := fun L g ρ bl' ow' w hm hb hf hn hop =>
  h L g ρ bl' ow' w hm hb hf hn fun x hx => by rw [ev_same (tm' := tm') fun t _ => h3 t]; exact hop x hx
theorem QI_same {o : Oper} {tm' : List (Nat × AV)} {n : Nat} {cs : List AV} (h3 : ∀ t, look tm t = look tm' t) (h : QI E tm o n cs) : QI E tm' o n cs :=
  ⟨h.1, h.2.1, h.2.2.1, h.2.2.2.1, fun L g ρ bl' ow' w hm h1 h2 hop => h.2.2.2.2 L g ρ bl' ow' w hm h1 h2 fun x hx => by rw [ev_same (tm' := tm') fun t _ => h3 t]; exact hop x hx⟩
theorem app_same {s s' : St} {d : Option Tmp} {v : AV} {nb : List (Nat × List AV)} {no : List Nat} (h3 : ∀ t, look s.tm t = look s'.tm t) : ∀ t, look (s.app d v nb no).tm t = look (s'.app d v nb no).tm t := fun t => by
  cases d with
  | none => exact h3 t
  | some d => simp only [St.app, look]; rw [h3]
theorem HW_same {ops' : Array Oper} {tl : List Oper} : ∀ (l : List Oper) (s s' : St), s.bl = s'.bl → s.ow = s'.ow → (∀ t, look s.tm t = look s'.tm t) → HW E ops bl0 l s (WL E ops' tl Q) → HW E ops bl0 l s' (WL E ops' tl Q)
  | [], _, _, h1, h2, h3, h => WL_same h1 h2 h3 h
  | o :: l, s, s', h1, h2, h3, h => by
    have hf : ∀ nb no, freshB nb no s = freshB nb no s' := fun nb no => by simp only [freshB, h1, h2]
    have hb : ∀ v nb no, (s.app o.dst v nb no).bl = (s'.app o.dst v nb no).bl ∧ (s.app o.dst v nb no).ow = (s'.app o.dst v nb no).ow := fun v nb no => by simp only [St.app, h1, h2]; exact ⟨trivial, trivial⟩
    rcases h with ⟨v, nb, no, k1, k2, k3, k4, k5⟩ | ⟨j, d, b, k1, k2, k3, k4, k5⟩ | ⟨n, cs, k1, k2, k3⟩ | ⟨j, d, b, k1, k2, k3, k4, k5⟩
    · refine .inl ⟨v, nb, no, QV_same h3 k1, k2, ⟨by rw [← hf]; exact k3.1, k3.2⟩, ?_, HW_same l _ _ (hb v nb no).1 (hb v nb no).2 (app_same h3) k5⟩
      rcases k4 with k4 | ⟨j, d, b, e1, e2, e3⟩
      · exact .inl k4
      · exact .inr ⟨j, d, b, e1, e2, by rw [← h3]; exact e3⟩
    · exact .inr (.inl ⟨j, d, b, k1, k2, by rw [← h3]; exact k3, k4, HW_same l _ _ (hb _ _ _).1 (hb _ _ _).2 (app_same h3) k5⟩)
    · exact .inr (.inr (.inl ⟨n, cs, QI_same h3 k1, by rw [← h1]; exact k2, HW_same l _ _ (by simp only [St.app, h1]) (by simp only [St.app, h2]) (app_same h3) k3⟩))
    · exact .inr (.inr (.inr ⟨j, d, b, k1, k2, by rw [← h3]; exact k3, k4, HW_same l _ _ (hb _ _ _).1 (hb _ _ _).2 (app_same h3) k5⟩))
theorem wls {j d' : Nat} {b c : Bool} (_ : (ops[j]?).bind (·.dst) = some d') (hb : look tm d' = .v (.bool c)) (ht : c = true → WL E ops (⟨some d, op, ty, pos, af, some (j, b)⟩ :: rest) Q ⟨(d', .v (.bool true)) :: tm, bl, ow⟩) (hf : c = false → WL E ops (⟨some d, op, ty, pos, af, some (j, b)⟩ :: rest) Q ⟨(d', .v (.bool false)) :: tm, bl, ow⟩) :
    WL E ops (⟨some d, op, ty, pos, af, some (j, b)⟩ :: rest) Q ⟨tm, bl, ow⟩ := by
  cases c
  · exact WL_same (s := ⟨(d', .v (.bool false)) :: tm, bl, ow⟩) (s' := ⟨tm, bl, ow⟩) rfl rfl (look_again hb) (hf rfl)
  · exact WL_same (s := ⟨(d', .v (.bool true)) :: tm, bl, ow⟩) (s' := ⟨tm, bl, ow⟩) rfl rfl (look_again hb) (ht rfl)
theorem hws {ops' : Array Oper} {tl : List Oper} {j d' : Nat} {b c : Bool} (_ : (ops[j]?).bind (·.dst) = some d') (hb : look tm d' = .v (.bool c)) (ht : c = true → HW E ops bl0 (⟨some d, op, ty, pos, af, some (j, b)⟩ :: rest) ⟨(d', .v (.bool true)) :: tm, bl, ow⟩ (WL E ops' tl Q))
    (hf : c = false → HW E ops bl0 (⟨some d, op, ty, pos, af, some (j, b)⟩ :: rest) ⟨(d', .v (.bool false)) :: tm, bl, ow⟩ (WL E ops' tl Q)) : HW E ops bl0 (⟨some d, op, ty, pos, af, some (j, b)⟩ :: rest) ⟨tm, bl, ow⟩ (WL E ops' tl Q) := by
  cases c
  · exact HW_same _ ⟨(d', .v (.bool false)) :: tm, bl, ow⟩ ⟨tm, bl, ow⟩ rfl rfl (look_again hb) (hf rfl)
  · exact HW_same _ ⟨(d', .v (.bool true)) :: tm, bl, ow⟩ ⟨tm, bl, ow⟩ rfl rfl (look_again hb) (ht rfl)
theorem WL_call {x : Operand} {xs : Array Operand} {ts : Array TypeId} {f : Nat} [hf : FnOk E.P f] (hx : ev tm x = .v (.func (.func f) #[] #[]))
    (h : ∀ (L : Lg E.P) g a w, Inv E g ⟨tm, bl, ow⟩ a w → reps g w.w (xs.toList.map (ev tm)) (xs.map a.eval).toList → CallsV L f (xs.map a.eval) w fun y w' => wpListV L ops (post E Q) rest (a.put (some d) y) w') : WL E ops (⟨some d, .call ⟨.value x, xs, ts⟩, ty, pos, af, none⟩ :: rest) Q ⟨tm, bl, ow⟩ := by
  intro L g a w0 hi0
  unfold wpListV
  rw [show Region.wanted ⟨some d, .call ⟨.value x, xs, ts⟩, ty, pos, af, none⟩ (yielded ops a.tmps) = true by simp [Region.wanted], if_pos rfl]
  intro w₁ r
  have hi := hi0.rely r
  have h1 := rep_ev hi.tm x
  have h2 : reps g w₁ (xs.toList.map (ev tm)) (xs.toList.map a.eval) := reps_map _ fun y _ => rep_ev hi.tm y
  rw [hx] at h1
  simp only [rep] at h1
  obtain ⟨fn, f1, f2, f3⟩ := hf.ok
  have f2' : fn.name ≠ "runtime.NumGoroutine" := by simpa using f2
  have f3' : fn.body ≠ none := fun e => by rw [e] at f3; simp at f3
  have hrun : (execOp a.eval ⟨some d, .call ⟨.value x, xs, ts⟩, ty, pos, af, none⟩).run E.P w₁ = .ok (.enter f (xs.map a.eval)) w₁ := by
    simp [execOp, resolve, Deferred.ofValue, h1, invoke, callFunc, f1, f2', f3']
  have hevs : (execOp a.eval ⟨some d, .call ⟨.value x, xs, ts⟩, ty, pos, af, none⟩).events E.P w₁ #[] = #[] := by
    simp [execOp, resolve, Deferred.ofValue, h1, invoke, callFunc, f1, f2', f3']
  rw [hrun]
  exact ⟨rfl, hevs, h L g a ⟨w0.V, w₁⟩ hi (by rw [Array.toList_map]; exact h2)⟩
theorem Inv.seesI {g : Gh} {s : St} {a : Act} {w : CW} (hi : Inv E g s a w) : SeesI g.I w := fun b o hb => ⟨hi.mem.mem.cell b o hb, hi.mem.vis.I b o hb⟩
theorem Inv.rigged {g : Gh} {s : St} {a : Act} {w : CW} (hi : Inv E g s a w) : Rigged w := ⟨hi.mem.vis.sub, hi.mem.vis.lt⟩
theorem wlc {x : Operand} {xs : Array Operand} {ts : Array TypeId} {f : Nat} {ys : List AV} {R : AV → Prop} [hf : FnOk E.P f] (h : CallOk E.P f ys R) (hx : ev tm x = .v (.func (.func f) #[] #[])) (ha : LeDs (xs.toList.map (ev tm)) ys) (ho : ∀ r, R r → ownsIn [] r = true) (hd : Nat.blt d E.nt = true)
    (hk : ∀ r, R r → WL E ops rest Q ⟨(d, ren 0 r) :: tm, bl, ow⟩) : WL E ops (⟨some d, .call ⟨.value x, xs, ts⟩, ty, pos, af, none⟩ :: rest) Q ⟨tm, bl, ow⟩ := by
  refine WL_call hx fun L g a w hi h2 => ?_
  refine (h L g.I w _ hi.seesI hi.rigged (dreps_leDs ha h2)).mono fun y w' he => ?_
  obtain ⟨r, g', hR, h3, h4⟩ := he
  obtain ⟨gc, h5, h6, h7, h8⟩ := hi.mem.called h4 0 [] (fun n hn => by simp at hn)
  have := hi.app (d := some d) (v := ren 0 r) (y := y) (nb := []) (no := []) (fun k hk => by cases hk; exact Nat.le_of_ble_eq_true hd) h5 (by simpa using h6) (rep_ren h7 h8 (ho r hR) h3)
  exact hk r hR L gc _ w' this
theorem hwi {y : Operand} {t n sz : Nat} {ag : Bool} {c0 : AV} {ds : List AV} [ht : TyOk E.P t ag sz] (hx : ev tm (.tmp n) = .ptr n 0) (hy : evO tm y = some v) (hro : n ∉ E.ron)
    (hc : isC v = true) (ha : acellsO v = some (c0 :: ds)) (hall : (c0 :: ds).all isCell = true) (hl : Nat.beq (c0 :: ds).length sz = true) (hi : initB n sz bl = true) (hk : HW E ops bl0 rest ⟨tm, (n, c0 :: ds) :: bl, ow⟩ K) : HW E ops bl0 (⟨none, .store t (.tmp n) y, ty, pos, af, none⟩ :: rest) ⟨tm, bl, ow⟩ K := by
  have e := acellsO_eq ha
  have e2 := Nat.eq_of_beq_eq_true hl
  have := QI_store (E := E) (tm := tm) (ty := ty) (pos := pos) (af := af) (t := t) (y := y) (n := n) (v := v) hx (evO_ev hy) hro hc (by rw [e]; exact hall) (by rw [e]; exact e2) (by rw [e]; simp)
  rw [e] at this
  exact HW_i this (by rw [e2]; exact hi) hk
theorem wst {x y : Operand} {t nn o sz : Nat} {ag : Bool} {ds r : List AV} {bl' : List (Nat × List AV)} [ht : TyOk E.P t ag sz] (hx : ev tm x = .ptr nn o) (hy : evO tm y = some v) (hb : lookB bl nn = some cs) (hro : nn ∉ E.ron)
    (hc : isC v = true) (ha : acellsO v = some ds) (hall : ds.all isCell = true) (hl : Nat.beq ds.length sz = true) (hp : putO cs o ds = some r) (hs : setBO bl nn r = some bl') (hk : WL E ops rest Q ⟨tm, bl', ow⟩) : WL E ops (⟨none, .store t x y, ty, pos, af, none⟩ :: rest) Q ⟨tm, bl, ow⟩ := by
  obtain ⟨h1, h2⟩ := putO_eq hp
  have e := acellsO_eq ha
  have e2 := Nat.eq_of_beq_eq_true hl
  refine WL_t rfl (TV_store rfl hx (evO_ev hy) hb hro hc (by rw [e]; exact hall) (by rw [e]; exact e2) (by omega)) ?_
  simp only [St.app, List.nil_append]
  rw [e, h2, setBO_eq hs]
  exact hk
end
end Go.Eng

namespace Go.Eng
open Go Go.Conc

theorem splice_row : ∀ {rows : List (List AV)} {e j : Nat} {r : List AV}, (∀ r ∈ rows, r.length = e) → r.length = e → j < rows.length → splice rows.flatten (j * e) r = (rows.set j r).flatten
  | [], e, j, r, _, _, h => by simp at h
  | r0 :: rows, e, 0, r, hl, hr, _ => by
    have h0 : r0.length = e := hl r0 (by simp)
    simp [splice, hr, ← h0]
  | r0 :: rows, e, j + 1, r, hl, hr, h => by
    have h0 : r0.length = e := hl r0 (by simp)
    have ih := splice_row (rows := rows) (e := e) (j := j) (r := r) (fun r' h' => hl r' (by simp [h'])) hr (by simpa using h)
    simp only [splice] at ih ⊢
    simp only [List.flatten_cons, List.set_cons_succ, ← ih]
    rw [Nat.add_mul, Nat.one_mul, List.take_append, List.drop_append, hr]
    rw [List.take_of_length_le (by omega : r0.length ≤ j * e + e), List.drop_of_length_le (by omega : r0.length ≤ j * e + e + e)]
    simp only [h0, List.append_assoc, List.nil_append]
    rw [show j * e + e - e = j * e by omega, show j * e + e + e - e = j * e + e by omega]
theorem drop_rows : ∀ {rows : List (List AV)} {e j : Nat} {r : List AV}, (∀ r ∈ rows, r.length = e) → rows[j]? = some r → ∃ rest, rows.flatten.drop (j * e) = r ++ rest
  | [], e, j, r, _, h => by simp at h
  | r0 :: rows, e, 0, r, _, h => by
    simp at h; subst h
    exact ⟨rows.flatten, by simp⟩
  | r0 :: rows, e, j + 1, r, hl, h => by
    have h0 : r0.length = e := hl r0 (by simp)
    obtain ⟨rest, hr⟩ := drop_rows (rows := rows) (fun r' h' => hl r' (by simp [h'])) (by simpa using h)
    refine ⟨rest, ?_⟩
    rw [List.flatten_cons, List.drop_append, List.drop_of_length_le (by rw [Nat.add_mul]; omega), Nat.add_mul, h0, show j * e + 1 * e - e = j * e by omega]
    simpa using hr

section
variable {E : En} {bl : List (Nat × List AV)} {tm : List (Nat × AV)} {d : Option Tmp} {ty : TypeId} {pos : String} {af : Array Edge} {gd : Option (Nat × Bool)}
theorem QV_makeA {t n : Nat} {x y : Operand} {T e by_ : Nat} {z : List Value} {zc : List AV} {k k' : IntKind} {i i' : Int} {len : Nat} [hs : ZSlOk E.P t T e by_ z] [hzc : ZcOk E.P T zc] (hx : ev tm x = .v (.int k i)) (hy : ev tm y = .v (.int k' i')) (hi : i = len) (hi' : i' = len) (hl : len ≤ 1048576) (hb : Nat.ble by_ 1048576 = true) :
    QV E bl tm ⟨d, .makeSlice t x y, ty, pos, af, gd⟩ (.arr n T e len) [(n, (List.replicate len zc).flatten)] [] := by
  refine QV_of_o ?_
  intro _ _ _ _ _ g w ρ bl' ow' hm _ hf _ hop
  have h1 := hop x (by simp [Op.operands])
  have h2 := hop y (by simp [Op.operands])
  rw [hx] at h1; rw [hy] at h2
  simp only [rep] at h1 h2
  subst hi; subst hi'
  obtain ⟨in0, iz, i1, i2, i3, i4, i5⟩ := hs.sl.info
  obtain ⟨zv, hz, rfl⟩ := hs.zero
  obtain ⟨z', hz', hzc'⟩ := hzc.ok
  have hb := Nat.le_of_ble_eq_true hb
  have hzv : zv = iz := by
    have := hz w
    simpa [zeroValue, typeInfo, i1, i2] using this.symm
  subst hzv
  have hzv' : z' = zv := by
    have := (hz'.zero w).symm.trans (hz w)
    simpa using this
  subst hzv'
  have hmul : by_ * len ≤ 1048576 * 1048576 := Nat.mul_le_mul hb hl
  have hr := run_make (P := E.P) w t T in0 z' hs.sl.und i1 i2 k k' len len (by omega) (Int.le_refl _) (by
    rw [i4]
    have : ((by_ * len : Nat) : Int) ≤ 281474976710656 := by omega
    rwa [Int.natCast_mul] at this) (by omega)
  simp only [Int.toNat_natCast] at hr
  have hcells : (madeCells z'.cells (len * in0.size)).toList = (List.replicate len z'.cells.toList).flatten := by
    have := range_zero z'.cells len
    rw [i3, ← i5]
    simpa [madeCells] using this
  have hreps : reps g w (List.replicate len zc).flatten (madeCells z'.cells (len * in0.size)).toList := by
    rw [hcells]
    have : (List.replicate len zc).flatten = ((List.replicate len z'.cells.toList).flatten).map AV.v := by rw [← hzc']; simp [List.map_flatten]
    rw [this]
    exact reps_lits _
  have hrun : (execOp ρ ⟨d, .makeSlice t x y, ty, pos, af, gd⟩).run E.P w = .ok (.value (.slice (some ⟨w.heap.size, 0, none⟩) len len)) (w.alloc (.cells (madeCells z'.cells (len * in0.size)) T)) := by
    simp only [execOp, h1, h2, Sem.run_bind, hr, Result.andThen_ok, Sem.run_pure]
  have hevs : (execOp ρ ⟨d, .makeSlice t x y, ty, pos, af, gd⟩).events E.P w #[] = #[] := by
    have h5 : ((by_ * len : Nat) : Int) ≤ 281474976710656 := by omega
    rw [Int.natCast_mul] at h5
    have h7 := events_make (P := E.P) w t T in0 z' hs.sl.und i1 i2 k k' (len : Int) (len : Int) (by omega) (Int.le_refl _) (by rw [i4]; exact h5) (by omega) (by rw [i4, Int.toNat_natCast, Nat.mul_comm]; omega) #[]
    simp only [execOp, h1, h2, Sem.events_bind, hr, h7, Result.evThen_ok]
    rfl
  rw [hrun]
  refine ⟨?_, evR_of hevs⟩
  obtain ⟨g', m1, m2, m3, m4⟩ := hm.newBlock n (fun q hq => hf (n, (List.replicate len zc).flatten) (by simp) q hq) _ _ T hreps
  refine ⟨g', m1, m2, ?_⟩
  simp only [rep]
  exact ⟨_, len, m3, m4, rfl, Nat.le_refl _, fun _ => rfl, fun _ => ⟨by unfold maxLen; omega, _, _, alloc_new w _, by
    have := congrArg List.length hcells
    simp at this
    rw [this, i5]⟩⟩
theorem QV_indexA {t : Nat} {x ix : Operand} {n T' T e by_ len : Nat} {k : IntKind} {i : Int} {j : Nat} [hs : SlOk E.P t T e by_] (hx : ev tm x = .arr n T' e len) (hi : ev tm ix = .v (.int k i)) (hj : i = j) (hl : j < len) :
    QV E bl tm ⟨d, .indexAddr t x ix, ty, pos, af, gd⟩ (.ptr n (j * e)) [] [] :=
  QV_pure fun g w ρ hop => by
    have h1 := hop x (by simp [Op.operands])
    have h2 := hop ix (by simp [Op.operands])
    rw [hx] at h1; rw [hi] at h2
    simp only [rep] at h1 h2
    subst hj
    obtain ⟨b, _, h3, _, h4, _⟩ := h1
    obtain ⟨in0, z, hi1, hi2, hi3, hi4, hi5⟩ := hs.info
    have hsz : (sizeOf T).run E.P w = .ok e w := by simp [sizeOf, typeInfo, hi1, hi3]
    refine ⟨.pointer (some ⟨b, 0 + j * e, none⟩), ?_, ?_, ?_⟩
    · simp [execOp, h2, h4, Instr.indexAt, asIntOf, run_underlying hs.und, hsz, addr_add, hl]
    · exact evR_of (by simp [execOp, h2, h4, Instr.indexAt, asIntOf, run_underlying hs.und, addr_add, hl])
    · simp only [rep]
      exact ⟨b, h3, by rw [Nat.zero_add]⟩
theorem QV_lenA {t : Nat} {x : Operand} {n T' T e e' by_ len : Nat} [hs : SlOk E.P t T e' by_] (hx : ev tm x = .arr n T' e len) :
    QV E bl tm ⟨d, .call ⟨.builtin .len, #[x], #[t]⟩, ty, pos, af, gd⟩ (.v (.int .i64 len)) [] [] :=
  QV_pure fun g w ρ hop => by
    have h1 := hop x (by simp [Op.operands, Call.operands])
    rw [hx] at h1
    simp only [rep] at h1
    obtain ⟨b, _, _, _, h4, _⟩ := h1
    exact ⟨_, by simp [execOp, resolve, invoke, builtin, Builtin.len_, h4, run_underlying hs.und, goInt]; rfl, evR_of (by simp [execOp, resolve, invoke, builtin, Builtin.len_, h4, run_underlying hs.und, goInt]), by simp only [rep]⟩
theorem q_loadA {t n j e o sz : Nat} {x : Operand} {ag : Bool} {rows : List (List AV)} {r ds : List AV} {v : AV} [ht : TyOk E.P t ag sz] (hx : ev tm x = .ptr n (j * e + o)) (hb : lookB bl n = some rows.flatten) (hl : ∀ r ∈ rows, r.length = e) (hr : rows[j]? = some r) (hd : dropO o r = some ds) (h : loadO ag sz ds = some v) :
    QV E bl tm ⟨d, .load t x, ty, pos, af, gd⟩ v [] [] := by
  obtain ⟨rest, hrest⟩ := drop_rows hl hr
  refine QV_load hx hb ?_
  have h' := loadO_eq h
  have e1 := dropO_eq hd
  have hol : o ≤ r.length := by
    have : ∀ (k : Nat) (l r : List AV), dropO k l = some r → k ≤ l.length := by
      intro k
      induction k with
      | zero => intro l r _; omega
      | succ k ih =>
        intro l r h
        cases l with
        | nil => simp [dropO] at h
        | cons x l => simp only [dropO] at h; have := ih l r h; simp; omega
    exact this o r ds hd
  rw [← List.drop_drop, hrest, List.drop_append_of_le_length hol, e1]
  cases ag
  · simp only [aload, cond_false] at h' ⊢
    cases ds with
    | nil => simp at h'
    | cons x ds => simpa using h'
  · simp only [aload, cond_true] at h' ⊢
    cases hb' : Nat.ble sz ds.length
    · rw [hb'] at h'; cases h'
    · rw [hb'] at h'
      have hle := Nat.le_of_ble_eq_true hb'
      rw [show Nat.ble sz (ds ++ rest).length = true from Nat.ble_eq_true_of_le (by simp; omega)]
      simp only [cond_true] at h' ⊢
      rw [List.take_append_of_le_length hle]
      exact h'
end

section
variable {E : En} {ops : Array Oper} {rest : List Oper} {Q : Exit → St → Prop} {tm : List (Nat × AV)} {bl bl' : List (Nat × List AV)} {ow : List Nat} {ty : TypeId} {pos : String} {af : Array Edge} {v : AV}
theorem wstA {x y : Operand} {t n j e : Nat} {ag : Bool} {r : List AV} {rows : List (List AV)} [ht : TyOk E.P t ag e] (hx : ev tm x = .ptr n (j * e)) (hy : evO tm y = some v) (hb : lookB bl n = some rows.flatten) (hro : n ∉ E.ron)
    (hc : isC v = true) (ha : acellsO v = some r) (hall : r.all isCell = true) (hr : Nat.beq r.length e = true) (hj : j < rows.length) (hl : ∀ r ∈ rows, r.length = e) (hs : setBO bl n (rows.set j r).flatten = some bl')
    (hk : WL E ops rest Q ⟨tm, bl', ow⟩) : WL E ops (⟨none, .store t x y, ty, pos, af, none⟩ :: rest) Q ⟨tm, bl, ow⟩ := by
  have e1 := acellsO_eq ha
  have e2 := Nat.eq_of_beq_eq_true hr
  have h1 : j * e + e ≤ rows.flatten.length := by
    rw [flatten_length hl, ← Nat.succ_mul]
    exact Nat.mul_le_mul_right _ hj
  refine WL_t rfl (TV_store rfl hx (evO_ev hy) hb hro hc (by rw [e1]; exact hall) (by rw [e1]; exact e2) h1) ?_
  simp only [St.app, List.nil_append]
  rw [e1, splice_row hl e2 hj, setBO_eq hs]
  exact hk
theorem wstP {x y : Operand} {t n j e o sz : Nat} {ag : Bool} {r0 r cs : List AV} {rows : List (List AV)} [ht : TyOk E.P t ag sz] (hx : ev tm x = .ptr n (j * e + o)) (hy : evO tm y = some v) (hb : lookB bl n = some rows.flatten) (hro : n ∉ E.ron)
    (hc : isC v = true) (ha : acellsO v = some cs) (hall : cs.all isCell = true) (hcs : Nat.beq cs.length sz = true) (hr0 : rows[j]? = some r0) (hp : putO r0 o cs = some r) (hl : ∀ r ∈ rows, r.length = e) (hs : setBO bl n (rows.set j r).flatten = some bl')
    (hk : WL E ops rest Q ⟨tm, bl', ow⟩) : WL E ops (⟨none, .store t x y, ty, pos, af, none⟩ :: rest) Q ⟨tm, bl, ow⟩ := by
  have e1 := acellsO_eq ha
  have e2 := Nat.eq_of_beq_eq_true hcs
  obtain ⟨p1, p2⟩ := putO_eq hp
  have hj : j < rows.length := (List.getElem?_eq_some_iff.1 hr0).1
  have hr0l : r0.length = e := hl r0 (List.mem_of_getElem? hr0)
  have h1 : j * e + o + sz ≤ rows.flatten.length := by
    rw [flatten_length hl]
    have : (j + 1) * e ≤ rows.length * e := Nat.mul_le_mul_right _ hj
    rw [Nat.succ_mul] at this
    omega
  refine WL_t rfl (TV_store rfl hx (evO_ev hy) hb hro hc (by rw [e1]; exact hall) (by rw [e1]; exact e2) h1) ?_
  simp only [St.app, List.nil_append]
  have hsp : splice rows.flatten (j * e + o) (acells v) = (rows.set j r).flatten := by
    have hrl : r.length = e := by rw [← p2]; simp [splice]; omega
    rw [← splice_row hl hrl hj, ← p2, e1]
    obtain ⟨rest', hrest⟩ := drop_rows hl hr0
    have hjl : j * e ≤ rows.flatten.length := by omega
    have htk : rows.flatten.take (j * e + o) = rows.flatten.take (j * e) ++ r0.take o := by
      rw [List.take_add, hrest, List.take_append_of_le_length (by omega)]
    have hdr : rows.flatten.drop (j * e + o + cs.length) = r0.drop (o + cs.length) ++ rest' := by
      rw [show j * e + o + cs.length = j * e + (o + cs.length) by omega, ← List.drop_drop, hrest, List.drop_append_of_le_length (by omega)]
    have hdr2 : rows.flatten.drop (j * e + e) = rest' := by
      rw [← List.drop_drop, hrest, ← hr0l, List.drop_left]
    have hlen : (r0.take o ++ (cs ++ r0.drop (o + cs.length))).length = e := by simp; omega
    simp only [splice, htk, hdr, hlen, hdr2]
    simp [List.append_assoc]
  rw [hsp, setBO_eq hs]
  exact hk
end

mutual
def renO (k : Nat) : AV → Option AV
  | .agg cs => match renOL k cs with | some r => some (.agg r) | none => none
  | .tup cs => match renOL k cs with | some r => some (.tup r) | none => none
  | .own n T e rows => some (.own (k + n) T e rows)
  | x => some x
def renOL (k : Nat) : List AV → Option (List AV)
  | [] => some []
  | x :: xs => match renO k x with
    | none => none
    | some y => match renOL k xs with | some r => some (y :: r) | none => none
end
mutual
theorem renO_eq {k : Nat} : ∀ (x : AV), renO k x = some (ren k x)
  | .agg cs => by simp only [renO, renOL_eq cs, ren]
  | .tup cs => by simp only [renO, renOL_eq cs, ren]
  | .own n T e rows => by simp only [renO, ren]
  | .top => by simp only [renO, ren]
  | .v x => by simp only [renO, ren]
  | .sl e rows => by simp only [renO, ren]
  | .ptr n o => by simp only [renO, ren]
  | .eptr cs => by simp only [renO, ren]
  | .fn f a b => by simp only [renO, ren]
  | .arr n T e l => by simp only [renO, ren]
theorem renOL_eq {k : Nat} : ∀ (xs : List AV), renOL k xs = some (renL k xs)
  | [] => by simp only [renOL, renL]
  | x :: xs => by simp only [renOL, renO_eq x, renOL_eq xs, renL]
end
section
variable {E : En} {bl : List (Nat × List AV)} {tm : List (Nat × AV)} {d : Option Tmp} {ty : TypeId} {pos : String} {af : Array Edge} {gd : Option (Nat × Bool)}
theorem q_call {x : Operand} {xs : Array Operand} {ts : Array TypeId} {f : Nat} {ys : List AV} {r v : AV} [hf : FnOk E.P f] (h : CallOk E.P f ys (fun r' => r' = r)) (hx : ev tm x = .v (.func (.func f) #[] #[])) (ha : LeDs (xs.toList.map (ev tm)) ys) (ho : ownsIn [] r = true) (hv : renO 0 r = some v) :
    QV E bl tm ⟨d, .call ⟨.value x, xs, ts⟩, ty, pos, af, gd⟩ v [] [] := by
  have := QV_call (E := E) (bl := bl) (tm := tm) (d := d) (ty := ty) (pos := pos) (af := af) (gd := gd) (ts := ts) 0 [] h hx ha ho
  rw [renO_eq] at hv
  rw [← Option.some.inj hv]; exact this
theorem q_call1 {x : Operand} {xs : Array Operand} {ts : Array TypeId} {f : Nat} {ys : List AV} {r v : AV} (k n : Nat) [hf : FnOk E.P f] (h : CallOk E.P f ys (fun r' => r' = r)) (hx : ev tm x = .v (.func (.func f) #[] #[])) (ha : LeDs (xs.toList.map (ev tm)) ys) (ho : ownsIn [n] r = true) (hv : renO k r = some v) :
    QV E bl tm ⟨d, .call ⟨.value x, xs, ts⟩, ty, pos, af, gd⟩ v [] [k + n] := by
  have := QV_call (E := E) (bl := bl) (tm := tm) (d := d) (ty := ty) (pos := pos) (af := af) (gd := gd) (ts := ts) k [n] h hx ha ho
  rw [renO_eq] at hv
  rw [← Option.some.inj hv]; exact this
end
section
variable {E : En} {ops : Array Oper} {rest : List Oper} {Q : Exit → St → Prop} {K : St → Prop} {tm : List (Nat × AV)} {bl bl0 : List (Nat × List AV)} {ow : List Nat} {d n : Nat} {op : Op} {ty : TypeId} {pos : String} {af : Array Edge} {gd : Option (Nat × Bool)} {v : AV}
theorem wln1 (h : QV E bl tm ⟨some d, op, ty, pos, af, gd⟩ v [] [n]) (hg : GY ops tm gd) (hd : Nat.blt d E.nt = true) (hf : freshB [] [n] ⟨tm, bl, ow⟩ = true) (hk : WL E ops rest Q ⟨(d, v) :: tm, bl, n :: ow⟩) : WL E ops (⟨some d, op, ty, pos, af, gd⟩ :: rest) Q ⟨tm, bl, ow⟩ := wl_gy h hg hd hf hk
theorem hwn1 (h : QV E bl0 tm ⟨some d, op, ty, pos, af, gd⟩ v [] [n]) (hg : GY ops tm gd) (hd : Nat.blt d E.nt = true) (hf : freshB [] [n] ⟨tm, bl, ow⟩ = true) (hk : HW E ops bl0 rest ⟨(d, v) :: tm, bl, n :: ow⟩ K) : HW E ops bl0 (⟨some d, op, ty, pos, af, gd⟩ :: rest) ⟨tm, bl, ow⟩ K := hw_gy h hg hd hf (by simp [namesB]) hk
end

theorem le_freeze {g g' : Gh} {w : World} {n T e : Nat} {rows : List (List AV)} {b : Nat} {arr : Array Value} (hn : n < 1000000) (hm : g.m n = some b) (how : g'.ow n) (hom : g'.om n = some b) (hh : w.heap[b]? = some (.cells arr (g.mt n) (0, 0))) (hr : dreps g'.I w rows.flatten arr.toList) (hl : ∀ r ∈ rows, r.length = e)
    (hmax : rows.length ≤ maxLen) (hI1 : ∀ o, o < rows.length * e → g'.I b o) (hI2 : ∀ o, rows.length * e ≤ o → ¬ g'.I b o) {y : Value} (hy : rep g w (.arr n T e rows.length) y) : ownRep g' w n T e rows y := by
  simp only [rep] at hy
  obtain ⟨b', c', h1, h2, rfl, _, h3⟩ := hy
  have := h3.1 hn
  subst this
  have : b' = b := by rw [hm] at h1; exact (Option.some.inj h1).symm
  subst this
  have hasz : arr.size = rows.length * e := by
    have := dreps_length hr
    rw [flatten_length hl] at this
    simpa using this
  refine ⟨how, by rw [hom]; rfl, arr.toList, ⟨by simpa using hasz, .inr ⟨b', rows.length, arr, rfl, Nat.zero_le _, by rw [← h2]; exact hh, Nat.le_refl _, hmax, hasz, List.take_of_length_le (by simp [hasz])⟩⟩, hr, hl, fun c hc => ?_⟩
  rw [hom] at hc
  cases hc
  exact ⟨hI1, hI2⟩

def FLe (n T e : Nat) (rows : List (List AV)) (x v : AV) : Prop := (x = .arr n T e rows.length ∧ v = .own n T e rows) ∨ Le [] x v
def FPick (n T e : Nat) (rows : List (List AV)) (tm : List (Nat × AV)) : List (Nat × AV) → Prop
  | [] => True
  | (t, v) :: r => FLe n T e rows (look tm t) v ∧ FPick n T e rows tm r
def noNil : AV → AV → Bool
  | .v (.slice none 0 0), .own .. => false
  | _, _ => true
def noNils (tm : List (Nat × AV)) : List (Nat × AV) → Bool
  | [] => true
  | (t, v) :: r => noNil (look tm t) v && noNils tm r
theorem weak_freeze {E : En} {s s' : St} (hE : E.ron = []) (n T e : Nat) (rows : List (List AV)) (hb : lookB s.bl n = some rows.flatten) (hl : ∀ r ∈ rows, r.length = e) (hmax : rows.length ≤ 1048576) (hD : ∀ x ∈ rows.flatten, toD x = x) (hn : n ∉ s.ow)
    (h1 : FPick n T e rows s.tm s'.tm) (h2 : ∀ p ∈ s'.bl, p ∈ s.bl) (h3 : refsL (s'.bl.map (·.1)) s'.ow (s'.tm.map (·.2)) = true) (h3' : RefsB (s'.bl.map (·.1)) s.ow s'.bl) (h4 : ∀ k ∈ s'.ow, k = n ∨ k ∈ s.ow) (h5 : ∀ k ∈ s.ow, k ∈ s'.ow) (h6 : noNils s.tm s'.tm = true) (hnb : (s'.bl.map (·.1)).any (Nat.beq n) = false) (hlt : Nat.blt n 1000000 = true) (hpin : ∀ n b T, ¬ E.pin n b T) : Weak E s s' := by
  intro g a x hi
  obtain ⟨V, w⟩ := x
  obtain ⟨b, arr, b1, b2, b3, b4⟩ := hi.mem.mem.blk n _ (lookB_mem hb)
  have hno : ¬ g.ow n := fun h => hn (hi.mem.mem.own n h)
  have hnk : n ∉ s'.bl.map (·.1) := fun h => by
    rw [List.any_eq_true.2 ⟨n, h, by simp⟩] at hnb; cases hnb
  have hdr : dreps g.I w rows.flatten arr.toList := by
    have := dreps_toD b3
    have e1 : rows.flatten.map toD = rows.flatten := by
      have : ∀ l : List AV, (∀ x ∈ l, toD x = x) → l.map toD = l := by
        intro l
        induction l with
        | nil => intro _; rfl
        | cons x l ih => intro h; simp [h x (by simp), ih fun y hy => h y (by simp [hy])]
      exact this _ hD
    rwa [e1] at this
  have hasz : arr.size = rows.length * e := by
    have := dreps_length hdr
    rw [flatten_length hl] at this
    simpa using this
  let g' : Gh := { I := fun c o => g.I c o ∨ (c = b ∧ o < rows.length * e), m := fun k => if k ∈ s'.bl.map (·.1) then g.m k else none, om := fun k => if k = n then some b else g.om k, ow := fun k => k = n ∧ k ∈ s'.ow ∨ g.ow k, mt := g.mt }
  have hmm : ∀ k c, g'.m k = some c → k ∈ s'.bl.map (·.1) ∧ g.m k = some c := fun k c h => by
    by_cases e : k ∈ s'.bl.map (·.1)
    · exact ⟨e, by simpa only [g', e, if_true] using h⟩
    · simp only [g', e, if_false] at h; cases h
  have hoo : ∀ k c, g'.ow k → g'.om k = some c → (k = n ∧ c = b) ∨ (g.ow k ∧ g.om k = some c ∧ k ≠ n) := fun k c h1 h2 => by
    by_cases e : k = n
    · simp only [g', e, if_true, Option.some.injEq] at h2; exact .inl ⟨e, h2.symm⟩
    · rcases h1 with ⟨h1, _⟩ | h1
      · exact absurd h1 e
      · exact .inr ⟨h1, by simpa only [g', e, if_false] using h2, e⟩
  -- what refers to neither the array nor a dropped block reads on
  have keepI : ∀ c o, g.I c o → g'.I c o := fun c o h => .inl h
  have goes : Goes { g with m := g'.m } w g' w := by
    refine ⟨keepI, fun _ _ _ => rfl, fun k c h => h, fun _ _ _ => rfl, fun k T' e' rows' y hy => ?_, fun _ _ _ _ _ h => h⟩
    have hk : k ≠ n := fun e => hno (e ▸ hy.1)
    refine ownRep_goes (g := { g with m := g'.m }) (g' := g') keepI (fun _ _ _ => rfl) (fun j hj => ⟨.inr hj, ?_⟩) (fun _ _ _ _ => rfl) (fun j c o hj hc hI => ?_) hy
    · have : j ≠ n := fun e => hno (e ▸ hj)
      simp only [g', this, if_false]
    · rcases hI with hI | ⟨rfl, _⟩
      · exact hI
      · exact (hi.mem.mem.disj n j c b1 hj hc).elim
  have refsRep : ∀ (os : List Nat) (x : AV) (y : Value), refs (s'.bl.map (·.1)) os x = true → rep g w x y → rep g' w x y := fun os x y hr h =>
    rep_goes goes (rep_refs (g := g) (g' := { g with m := g'.m }) (ks := s'.bl.map (·.1)) (os := os) rfl (fun k c hk hc => by simp only [g', hk, if_true]; exact hc) rfl (fun _ _ h => ⟨h, rfl⟩) hr h)
  have refsReps : ∀ (os : List Nat) (xs : List AV) (ys : List Value), refsL (s'.bl.map (·.1)) os xs = true → reps g w xs ys → reps g' w xs ys := by
    intro os xs
    induction xs with
    | nil => intro ys _ h; simpa [reps] using h
    | cons x xs ih =>
      intro ys hr h
      simp only [refsL, Bool.and_eq_true] at hr
      simp only [reps] at h ⊢
      obtain ⟨y, zs, e, k1, k2⟩ := h
      exact ⟨y, zs, e, refsRep os x y hr.1 k1, ih zs hr.2 k2⟩
  have hbB : E.B ≤ b ∨ E.M b := by
    rcases (hi.mem.mem.mfr n b b1).1 with h | h
    · rw [hE] at h; simp at h
    · exact h
  have hvb := hi.mem.vis.m n b b1
  have hmine : V.mine b := hvb.2 (by rw [hE]; simp)
  refine ⟨g', ⟨⟨⟨hi.mem.mem.below, hi.mem.mem.base, fun c o hc => ?_, fun k c h => hi.mem.mem.mfr k c (hmm k c h).2, fun k c k1 k2 => ?_, fun k k' c k1 k2 => hi.mem.mem.minj k k' c (hmm k c k1).2 (hmm k' c k2).2, fun k k' c k1 k2 k3 k4 => ?_, fun k k' c k1 k2 k3 => ?_, fun k cs h => ?_, fun k c h => ?_, fun k h => ?_, fun c o hc => ?_, fun c o hc => .inl (hi.mem.mem.iold c o hc), fun k c T h => absurd h (hpin k c T)⟩, ⟨fun c o hc => ?_, fun k c hk => ?_, fun k c k1 k2 => ?_, hi.mem.vis.sub, hi.mem.vis.lt, hi.mem.vis.up, hi.mem.vis.upm, hi.mem.vis.dn, hi.mem.vis.dnm, hi.mem.vis.nM, hi.mem.vis.ext⟩⟩, fun t => ?_, hi.de, hi.sz⟩⟩
  · rcases hc with hc | ⟨rfl, ho⟩
    · exact hi.mem.mem.cell c o hc
    · rw [cell_of_heap b2]; simp [hasz, ho]
  · rcases hoo k c k1 k2 with ⟨rfl, rfl⟩ | ⟨h7, h8, _⟩
    · exact ⟨hbB, (hi.mem.mem.mfr k c b1).2⟩
    · exact hi.mem.mem.ofr k c h7 h8
  · rcases hoo k c k1 k3 with ⟨rfl, rfl⟩ | ⟨h7, h8, _⟩ <;> rcases hoo k' c k2 k4 with ⟨h9, h10⟩ | ⟨h9, h10, _⟩
    · exact h9.symm
    · exact (hi.mem.mem.disj k k' c b1 h9 h10).elim
    · subst h10; exact (hi.mem.mem.disj n k c b1 h7 h8).elim
    · exact hi.mem.mem.oinj k k' c h7 h9 h8 h10
  · rcases hoo k' c k2 k3 with ⟨rfl, rfl⟩ | ⟨h7, h8, _⟩
    · have := hi.mem.mem.minj k k' c (hmm k c k1).2 b1
      subst this
      exact hnk (hmm k c k1).1
    · exact hi.mem.mem.disj k k' c (hmm k c k1).2 h7 h8
  · obtain ⟨c, ar, k1, k2, k3, k4⟩ := hi.mem.mem.blk k cs (h2 _ h)
    have hk : k ∈ s'.bl.map (·.1) := List.mem_map.2 ⟨_, h, rfl⟩
    refine ⟨c, ar, by simp only [g', hk, if_true]; exact k1, k2, refsReps s.ow cs _ (refsB_mem h3' _ h) k3, fun o ho => ?_⟩
    rcases ho with ho | ⟨rfl, _⟩
    · exact k4 o ho
    · have := hi.mem.mem.minj k n c k1 b1
      subst this
      exact hnk hk
  · obtain ⟨h7, _⟩ := hmm k c h
    obtain ⟨p, hp, rfl⟩ := List.mem_map.1 h7
    exact ⟨p.2, hp⟩
  · rcases h with ⟨_, h⟩ | h
    · exact h
    · exact h5 k (hi.mem.mem.own k h)
  · rcases hc with hc | ⟨rfl, _⟩
    · exact hi.mem.mem.inew c o hc
    · exact .inr hbB
  · rcases hc with hc | ⟨rfl, _⟩
    · exact hi.mem.vis.I c o hc
    · exact hvb.1
  · exact hi.mem.vis.m k c (hmm k c hk).2
  · rcases hoo k c k1 k2 with ⟨rfl, rfl⟩ | ⟨h7, h8, _⟩
    · exact hmine
    · exact hi.mem.vis.o k c h7 h8
  · have pick : ∀ (l : List (Nat × AV)), FPick n T e rows s.tm l → noNils s.tm l = true → look l t = .top ∨ (FLe n T e rows (look s.tm t) (look l t) ∧ noNil (look s.tm t) (look l t) = true) := by
      intro l
      induction l with
      | nil => intro _ _; exact .inl rfl
      | cons p l ih =>
        intro hp hn'
        obtain ⟨k, v⟩ := p
        simp only [FPick] at hp
        simp only [noNils, Bool.and_eq_true] at hn'
        simp only [look]
        cases hb' : Nat.beq k t
        · exact ih hp.2 hn'.2
        · have := Nat.eq_of_beq_eq_true hb'
          subst this
          exact .inr ⟨hp.1, hn'.1⟩
    rcases pick _ h1 h6 with h | ⟨h, h'⟩
    · rw [h]; simp [rep]
    · rcases look_mem (tm := s'.tm) (t := t) with h7 | h7
      · rw [h7]; simp [rep]
      · have hr := refsL_mem h3 h7
        rcases h with ⟨e1, e2⟩ | h
        · rw [e2] at hr ⊢
          simp only [refs] at hr
          have := hi.tm t
          rw [e1] at this
          simp only [rep]
          exact le_freeze (g' := g') (Nat.le_of_ble_eq_true hlt) b1 (.inl ⟨rfl, any_beq hr⟩) (by simp [g']) b2 (dreps_mono keepI (fun _ _ _ => rfl) hdr) hl (by unfold maxLen; omega) (fun o ho => .inr ⟨rfl, ho⟩)
            (fun o ho hI => by rcases hI with hI | ⟨_, hI⟩; exact b4 o hI; omega) this
        · have ht := hi.tm t
          have hrw : ∀ x v : AV, Le [] x v → noNil x v = true → refs (s'.bl.map (·.1)) s'.ow v = true → rep g w x (a.tmps.getD t undef) → rep g' w v (a.tmps.getD t undef) := by
            intro x v hle hnn hr h
            cases hle with
            | refl => exact refsRep _ _ _ hr h
            | eq e => subst e; exact refsRep _ _ _ hr h
            | top => simp [rep]
            | nilOwn _ => simp [noNil] at hnn
            | nilSl =>
              simp only [rep] at h
              rw [h]
              simp only [rep, drep]
              exact ⟨none, 0, rfl, .inl trivial, Nat.zero_le _⟩
            | ownSl =>
              simp only [rep] at h ⊢
              exact drep_mono keepI (fun _ _ _ => rfl) (drep_of_own h)
          exact hrw _ _ h h' hr ht
end Go.Eng

namespace Go.Eng
open Go Go.Conc

def g0 (I : Nat → Nat → Prop) : Gh := ⟨I, fun _ => none, fun _ => none, fun _ => False, fun _ => 0⟩
def CallOkE (P : Program) (f : Nat) (args : List AV) (R : AV → Prop) : Prop :=
  ∀ (L : Lg P) (I : Nat → Nat → Prop) (x : CW) (vals : Array Value), SeesI I x → Rigged x → reps (g0 I) x.w args vals.toList →
    CallsV L f vals x fun y x' => ∃ r g', R r ∧ rep g' x'.w r y ∧ Ret I x g' x'

def seen (g : Gh) (w : World) (b o : Nat) : Prop := g.I b o ∨ ((∃ n, g.m n = some b) ∧ (w.cell? ⟨b, o, none⟩).isSome = true)
section
variable {E : En} {bl : List (Nat × List AV)} {tm : List (Nat × AV)} {d : Option Tmp} {ty : TypeId} {pos : String} {af : Array Edge} {gd : Option (Nat × Bool)}
end
end Go.Eng

namespace Go.Eng
open Go Go.Conc

def plain : AV → Bool
  | .v _ => true
  | .top => true
  | _ => false
def MoreOk (e : Nat) (more : List (List AV)) : Prop := ∀ r ∈ more, r.length = e ∧ ∀ x ∈ r, plain x = true
theorem MemV.marked {E : En} {g : Gh} {bl : List (Nat × List AV)} {ow : List Nat} {x x' : CW} (hmv : MemV E g bl ow x) {n b : Nat} (hn : g.m n = some b) (hro : n ∉ E.ron) {cs : List AV} {arr : Array Value} (hB : BelowM x.w.heap.size (fun c => c = b ∨ ¬ x.V.vis c) x.w x'.w) (hG : Grows x x') (hh : x'.w.heap[b]? = some (.cells arr (g.mt n) (0, 0)))
    (hI : ∀ o, ¬ g.I b o) (hr : reps g x'.w cs arr.toList) (hn7 : Nat.blt n 7000000 = true) : Goes g x.w g x'.w ∧ MemV E g (setB bl n cs) ow x' := by
  have h := hmv.mem
  have hv := hmv.vis
  have other : ∀ k, x.V.vis k → k ≠ b → x'.w.heap[k]? = x.w.heap[k]? := fun k h1 h2 => hB.block k (hv.lt k h1) fun h => h.elim h2 fun h => h h1
  have keeps : Keeps g.I x.w x'.w := fun k o hk => World.cell?_of_block (a := ⟨k, o, none⟩) (other k (hv.I k o hk) fun e => hI o (e ▸ hk))
  have goes : Goes g x.w g x'.w := ⟨fun _ _ h => h, keeps, fun _ _ h => h, fun _ _ _ => rfl, fun k T' e rows y hy =>
    ownRep_goes (g := g) (g' := g) (fun _ _ h => h) keeps (fun _ h => ⟨h, rfl⟩) (fun k c h1 h2 => other c (hv.sub c (hv.o k c h1 h2)) fun e => h.disj n k b hn h1 (e ▸ h2)) (fun _ _ _ _ _ h => h) hy, fun k c j h7 hk hc => hc.same (other c (hv.m k c hk).1 fun e => by
    have h8 := Nat.le_of_ble_eq_true hn7
    have := h.minj k n b (e ▸ hk) hn
    omega)⟩
  refine ⟨goes, ?_, { I := fun b o hb => hG.up b (hv.I b o hb), m := fun n b hn => ⟨hG.up b (hv.m n b hn).1, fun hr => hG.upm b ((hv.m n b hn).2 hr)⟩, o := fun j b h1 h2 => hG.upm b (hv.o j b h1 h2), sub := hG.rig.sub, lt := hG.rig.lt, up := fun b hb => hG.up b (hv.up b hb), upm := fun b hb => hG.upm b (hv.upm b hb), dn := fun b hb => (hG.dn b hb).elim (hv.dn b) (fun h1 => .inr (Nat.le_trans h.base h1)), dnm := fun b hb => (hG.dnm b hb).elim (hv.dnm b) (fun h1 => .inr (Nat.le_trans h.base h1)), nM := hv.nM, ext := hG.ext.trans hv.ext }⟩
  have hbB : E.B ≤ b ∨ E.M b := (h.mfr n b hn).1.resolve_left hro
  have hsz := hB.size
  refine { below := ⟨hB.os.trans h.below.os, hB.tape.trans h.below.tape, hB.output.trans h.below.output, Nat.le_trans h.below.size hsz, fun k hk hM => ?_⟩, base := Nat.le_trans h.base hsz, cell := fun c o hc => by rw [keeps c o hc]; exact h.cell c o hc,
           mfr := fun k c hk => ⟨(h.mfr k c hk).1, Nat.lt_of_lt_of_le (h.mfr k c hk).2 hsz⟩, ofr := fun k c h1 h2 => ⟨(h.ofr k c h1 h2).1, Nat.lt_of_lt_of_le (h.ofr k c h1 h2).2 hsz⟩, minj := h.minj, oinj := h.oinj, disj := h.disj, blk := ?_, key := fun k c hk => ?_, own := h.own, inew := h.inew, iold := h.iold, pin := h.pin }
  · rw [other k (hv.up k (hv.nM k hM)) fun e => by subst e; rcases hbB with h1 | h1 <;> first | omega | exact hM h1]
    exact h.below.block k hk hM
  · intro k ds hk
    simp only [setB, List.mem_map] at hk
    obtain ⟨⟨k', ds'⟩, hp, he⟩ := hk
    obtain ⟨c, arr', h1, h2, h3, h4⟩ := h.blk k' ds' hp
    cases hb : Nat.beq k' n
    · simp only [hb, cond_false, Prod.mk.injEq] at he
      obtain ⟨rfl, rfl⟩ := he
      have hne : c ≠ b := fun e => by
        subst e
        have := h.minj k' n c h1 hn
        rw [this] at hb; simp at hb
      exact ⟨c, arr', h1, (other c (hv.m _ _ h1).1 hne).trans h2, reps_goes goes h3, h4⟩
    · simp only [hb, cond_true, Prod.mk.injEq] at he
      obtain ⟨rfl, rfl⟩ := he
      have e := Nat.eq_of_beq_eq_true hb
      rw [e] at h1 ⊢
      have : c = b := by rw [hn] at h1; exact (Option.some.inj h1).symm
      subst this
      exact ⟨c, arr, hn, hh, hr, h4⟩
  · obtain ⟨ds, hd⟩ := h.key k c hk
    cases hb : Nat.beq k n
    · exact ⟨ds, List.mem_map.2 ⟨_, hd, by simp only [hb, cond_false]⟩⟩
    · exact ⟨cs, List.mem_map.2 ⟨_, hd, by simp only [hb, cond_true]⟩⟩
theorem reps_plain {g g' : Gh} {w w' : World} : ∀ {xs : List AV} {ys : List Value}, (∀ x ∈ xs, plain x = true) → reps g w xs ys → reps g' w' xs ys
  | [], ys, _, h => by simpa only [reps] using h
  | x :: xs, ys, hp, h => by
    simp only [reps] at h ⊢
    obtain ⟨y, zs, e, h1, h2⟩ := h
    refine ⟨y, zs, e, ?_, reps_plain (fun z hz => hp z (by simp [hz])) h2⟩
    have := hp x (by simp)
    cases x <;> simp_all [plain, rep]
section
variable {E : En} {ops : Array Oper} {rest : List Oper} {Q : Exit → St → Prop} {tm : List (Nat × AV)} {bl bl' : List (Nat × List AV)} {ow : List Nat} {d : Nat} {ty : TypeId} {pos : String} {af : Array Edge}
end
end Go.Eng

namespace Go.Eng
open Go Go.Conc

theorem dreps_take {g : Gh} {I : Nat → Nat → Prop} {w w' : World} : ∀ {xs zs : List AV} {ys : List Value}, (∀ x ∈ xs, plain x = true) → reps g w (xs ++ zs) ys → dreps I w' xs (ys.take xs.length)
  | [], zs, ys, _, _ => by simp [dreps]
  | x :: xs, zs, ys, hp, h => by
    simp only [List.cons_append, reps] at h
    obtain ⟨y, ys', rfl, h1, h2⟩ := h
    simp only [List.length_cons, List.take_succ_cons, dreps]
    refine ⟨y, _, rfl, ?_, dreps_take (fun z hz => hp z (by simp [hz])) h2⟩
    have := hp x (by simp)
    cases x <;> simp_all [plain, rep, drep]
theorem own_here {g : Gh} {w : World} {n T e : Nat} {rows : List (List AV)} {y : Value} (h : ownRep g w n T e rows y) (h0 : 0 < rows.length) :
    ∃ b c arr, g.om n = some b ∧ y = .slice (some ⟨b, 0, none⟩) rows.length c ∧ rows.length ≤ c ∧ c ≤ maxLen ∧ w.heap[b]? = some (.cells arr T (0, 0)) ∧ arr.size = c * e ∧ dreps g.I w rows.flatten (arr.toList.take (rows.length * e)) := by
  obtain ⟨_, h2, xs, ⟨h3, h4⟩, h5, _⟩ := h
  rcases h4 with ⟨_, h4⟩ | ⟨b, c, arr, rfl, _, k2, k3, k4, k5, rfl⟩
  · omega
  · exact ⟨b, c, arr, h2.symm, rfl, k3, k4, k2, k5, h5⟩
section
variable {E : En} {ops : Array Oper} {rest : List Oper} {Q : Exit → St → Prop} {tm tm' : List (Nat × AV)} {bl bl' : List (Nat × List AV)} {ow : List Nat} {d : Nat} {ty : TypeId} {pos : String} {af : Array Edge}
end
end Go.Eng
