/- Literals of structs and slices, cuts of slices, stores, append. No program in sight. -/
import Derived.Test.YtikbndfbjgdldaaEE
namespace Go.Eng
open Go

/-! ### Literals -/
theorem fold_set : ∀ (l : List Value) (k off : Nat) (cs : Array Value), off + k + l.length ≤ cs.size → ((l.zipIdx k).foldl (fun cs p => cs.setIfInBounds (off + p.2) p.1) cs).toList = cs.toList.take (off + k) ++ (l ++ cs.toList.drop (off + k + l.length))
  | [], k, off, cs, _ => by simp
  | v :: rest, k, off, cs, h => by
    simp only [List.zipIdx_cons, List.foldl_cons]
    rw [fold_set rest (k + 1) off _ (by simp at h ⊢; omega)]
    have := list_seg_step cs.toList (off + k) v rest (by simp at h ⊢; omega)
    simp only [Array.toList_setIfInBounds]
    rw [show off + (k + 1) = off + k + 1 by omega, ← List.append_assoc, this]
    simp [List.append_assoc, Nat.add_assoc, Nat.add_comm]

def splice (l : List AV) (off : Nat) (cs : List AV) : List AV := l.take off ++ (cs ++ l.drop (off + cs.length))
def abuild (pl : Nat → Option (Nat × Nat)) : List AV → List (Nat × AV) → Option (List AV)
  | z, [] => some z
  | z, (i, v) :: r => match pl i with
    | none => none
    | some (off, size) => bif Nat.beq (acells v).length size && (Nat.ble (off + size) z.length && isC v) then abuild pl (splice z off (acells v)) r else none
theorem cells_length {g : Gh} {w : World} {x : AV} {y : Value} (h : rep g w x y) (hc : isC x = true) : y.cells.size = (acells x).length := by
  have := reps_length (reps_cellsC h hc)
  simpa using this
theorem reps_splice {g : Gh} {w : World} {zs ls : List AV} {ys ks : List Value} {off : Nat} (h : reps g w zs ys) (h' : reps g w ls ks) : reps g w (splice zs off ls) (ys.take off ++ (ks ++ ys.drop (off + ks.length))) := by
  unfold splice
  rw [reps_length h']
  exact reps_append (reps_take h) (reps_append h' (reps_drop h))
theorem fill_abuild {g : Gh} {w : World} {pl : Nat → Option (Nat × Nat)} : ∀ (parts : List (Nat × AV)) (vs : List (Nat × Value)) (z : List AV) (zs : Array Value) (out : List AV), parts.map (·.1) = vs.map (·.1) → reps g w (parts.map (·.2)) (vs.map (·.2)) → reps g w z zs.toList → abuild pl z parts = some out →
    ∃ cs, Instr.fill pl zs vs = some cs ∧ reps g w out cs.toList
  | [], vs, z, zs, out, h1, _, h3, h4 => by
    cases vs with
    | nil => simp only [abuild, Option.some.injEq] at h4; subst h4; exact ⟨zs, rfl, h3⟩
    | cons v vs => simp at h1
  | (i, v) :: r, vs, z, zs, out, h1, h2, h3, h4 => by
    cases vs with
    | nil => simp at h1
    | cons p vs =>
      obtain ⟨j, u⟩ := p
      simp only [List.map_cons, List.cons.injEq] at h1
      obtain ⟨rfl, h1⟩ := h1
      simp only [List.map_cons, reps] at h2
      obtain ⟨y, zs', e, h2, h2'⟩ := h2
      obtain ⟨rfl, rfl⟩ := List.cons.inj e
      simp only [abuild] at h4
      split at h4
      · cases h4
      · rename_i off size hpl
        cases hb : (Nat.beq (acells v).length size && (Nat.ble (off + size) z.length && isC v))
        · rw [hb] at h4; cases h4
        · rw [hb] at h4
          simp only [cond_true] at h4
          simp only [Bool.and_eq_true] at hb
          have hs : (acells v).length = size := Nat.eq_of_beq_eq_true hb.1
          have hl : off + size ≤ z.length := Nat.le_of_ble_eq_true hb.2.1
          have hcl := cells_length h2 hb.2.2
          have hzl := reps_length h3
          have hzl' : zs.size = z.length := by simpa using hzl
          have hfold : (u.cells.zipIdx.foldl (fun cs p => cs.setIfInBounds (off + p.2) p.1) zs).toList = zs.toList.take off ++ (u.cells.toList ++ zs.toList.drop (off + u.cells.toList.length)) := by
            rw [← Array.foldl_toList, Array.toList_zipIdx]
            have := fold_set u.cells.toList 0 off zs (by simp; omega)
            simpa using this
          obtain ⟨cs, k1, k2⟩ := fill_abuild r vs (splice z off (acells v)) (u.cells.zipIdx.foldl (fun cs p => cs.setIfInBounds (off + p.2) p.1) zs) out h1 h2' (by
            rw [hfold]; exact reps_splice h3 (reps_cellsC h2 hb.2.2)) h4
          refine ⟨cs, ?_, k2⟩
          have c1 : ¬ (u.cells.size ≠ size || decide (off + u.cells.size > zs.size)) = true := by
            simp; omega
          simp only [Instr.fill, hpl]
          rw [if_neg (by simpa using c1)]
          exact k1

/-- A struct's zero cells and its fields' places. -/
class BldOk (P : Program) (t : Nat) (z : outParam (List Value)) (pl : outParam (List (Nat × Nat))) : Prop where
  bld : ∃ zv fields, (∀ w, (zeroValue t).run P w = .ok zv w) ∧ zv.cells.toList = z ∧ P.underlying t = some (.struct fields) ∧ ∀ w, (fields.mapM fun (f : Field) => (do pure (f.offset, ← sizeOf f.type) : Sem (Nat × Nat))).run P w = .ok pl.toArray w

theorem reps_lits {g : Gh} {w : World} : ∀ l : List Value, reps g w (l.map AV.v) l
  | [] => by simp [reps]
  | x :: l => by simp only [List.map_cons, reps]; exact ⟨x, l, rfl, by simp [rep], reps_lits l⟩

section
variable {E : En} {bl : List (Nat × List AV)} {tm : List (Nat × AV)} {d : Option Tmp} {ty : TypeId} {pos : String} {af : Array Edge} {gd : Option (Nat × Bool)}
theorem reps_parts {g : Gh} {w : World} {ρ : Operand → Value} (ps : List (Nat × Operand)) (h : ∀ x ∈ ps.map (·.2), rep g w (ev tm x) (ρ x)) : reps g w ((ps.map fun p => (p.1, ev tm p.2)).map (·.2)) ((ps.map fun p => (p.1, ρ p.2)).map (·.2)) := by
  have := reps_map (tm := tm) (g := g) (w := w) (ρ := ρ) (ps.map (·.2)) h
  simpa [List.map_map, Function.comp_def] using this
theorem QV_build {t : Nat} {ps : Array (Nat × Operand)} {z : List Value} {pl : List (Nat × Nat)} {out : List AV} [hb : BldOk E.P t z pl] (h : abuild (pl[·]?) (z.map AV.v) (ps.toList.map fun p => (p.1, ev tm p.2)) = some out) :
    QV E bl tm ⟨d, .build t ps, ty, pos, af, gd⟩ (.agg out) [] [] :=
  QV_pure fun g w ρ hop => by
    obtain ⟨zv, fields, h1, rfl, h3, h4⟩ := hb.bld
    obtain ⟨cs, k1, k2⟩ := fill_abuild (g := g) (w := w) _ (ps.toList.map fun p => (p.1, ρ p.2)) _ zv.cells out (by simp [List.map_map, Function.comp_def])
      (reps_parts ps.toList fun x hx => hop x (by simpa [Op.operands] using hx)) (reps_lits _) h
    refine ⟨.agg cs, ?_, by simp only [rep]; exact ⟨cs, rfl, k2⟩⟩
    have e : (ps.map fun x => (x.1, ρ x.2)).toList = ps.toList.map fun p => (p.1, ρ p.2) := by simp
    have k1' : Instr.fill (fun x => pl.toArray[x]?) zv.cells (ps.map fun x => (x.1, ρ x.2)).toList = some cs := by
      rw [e]
      simpa using k1
    simp only [execOp, Instr.build, Sem.run_bind, h1, run_underlying h3, Result.andThen_ok, h4, k1', Sem.run_pure]

/-- As data: what is the call's own is seen as a slice. -/
def toD : AV → AV
  | .own _ _ e rows => .sl e rows
  | .v x => .v x
  | .sl e rows => .sl e rows
  | _ => .top
theorem drep_toD {g : Gh} {w : World} {x : AV} {y : Value} (h : rep g w x y) : drep g.I w (toD x) y := by
  cases x <;> simp only [toD]
  case own => simp only [rep] at h; exact drep_of_own h
  case v => simpa [rep, drep] using h
  case sl => simpa only [rep] using h
  all_goals simp [drep]
theorem dreps_toD {g : Gh} {w : World} : ∀ {xs : List AV} {ys : List Value}, reps g w xs ys → dreps g.I w (xs.map toD) ys
  | [], ys, h => by simpa [reps, dreps] using h
  | x :: xs, ys, h => by
    simp only [reps] at h
    obtain ⟨y, zs, e, h1, h2⟩ := h
    simp only [List.map_cons, dreps]
    exact ⟨y, zs, e, drep_toD h1, dreps_toD h2⟩
def chunk (e : Nat) : Nat → List AV → List (List AV)
  | 0, _ => []
  | n + 1, l => l.take e :: chunk e n (l.drop e)
theorem chunk_spec {e : Nat} : ∀ {n : Nat} {l : List AV}, l.length = n * e → (chunk e n l).flatten = l ∧ (∀ r ∈ chunk e n l, r.length = e) ∧ (chunk e n l).length = n
  | 0, l, h => by simp at h; simp [chunk, h]
  | n + 1, l, h => by
    rw [Nat.add_mul] at h
    obtain ⟨h1, h2, h3⟩ := chunk_spec (e := e) (n := n) (l := l.drop e) (by simp; omega)
    refine ⟨by simp [chunk, h1], fun r hr => ?_, by simp [chunk, h3]⟩
    simp only [chunk, List.mem_cons] at hr
    rcases hr with rfl | hr
    · simp; omega
    · exact h2 r hr
class ZSlOk (P : Program) (t : Nat) (T e by_ : outParam Nat) (z : outParam (List Value)) : Prop where
  sl : SlOk P t T e by_
  zero : ∃ zv, (∀ w, (zeroValue T).run P w = .ok zv w) ∧ zv.cells.toList = z
theorem range_zero (z : Array Value) (n : Nat) : ((Array.range (n * z.size)).map (z[· % z.size]!)).toList = (List.replicate n z.toList).flatten := by
  induction n with
  | zero => simp
  | succ n ih =>
    rw [List.replicate_succ', List.flatten_append, ← ih, Nat.add_mul, Nat.one_mul]
    simp only [Array.toList_map, Array.toList_range, List.range_add, List.map_append, List.map_map, List.flatten_cons, List.flatten_nil, List.append_nil]
    congr 1
    apply List.ext_getElem
    · simp
    · intro i h1 h2
      simp only [List.length_map, List.length_range] at h1
      simp [Nat.mod_eq_of_lt h1, Nat.mul_comm n, Nat.add_comm, h1]
/-- A slice's literal: at most 2^20 rows. -/
theorem QV_buildSlice {t len : Nat} {ps : Array (Nat × Operand)} {T e by_ : Nat} {z : List Value} {fl : List AV} (n : Nat) [hs : ZSlOk E.P t T e by_ z]
    (h : abuild (fun i => some (i * e, e)) (List.replicate len (z.map AV.v)).flatten (ps.toList.map fun p => (p.1, ev tm p.2)) = some fl) (hl : len * e ≤ 1048576) :
    QV E bl tm ⟨d, .buildSlice t len ps, ty, pos, af, gd⟩ (.own n T e (chunk e len (fl.map toD))) [] [n] := by
  intro g w ρ bl' ow' hm _ _ hno hop
  obtain ⟨in0, iz, i1, i2, i3, i4, i5⟩ := hs.sl.info
  obtain ⟨zv, h1, rfl⟩ := hs.zero
  have hpos := hs.sl.pos
  have hzv : zv = iz := by
    have := h1 w
    simpa [zeroValue, typeInfo, i1, i2] using this.symm
  subst hzv
  have hzs : zv.cells.size = e := i5
  have hsz : ∀ w, (sizeOf T).run E.P w = .ok e w := fun w => by simp [sizeOf, typeInfo, i1, i3]
  have hz0 : reps g w (List.replicate len (zv.cells.toList.map AV.v)).flatten ((Array.range (len * e)).map (zv.cells[· % zv.cells.size]!)).toList := by
    have := range_zero zv.cells len
    rw [hzs] at this ⊢
    rw [this]
    have : (List.replicate len (zv.cells.toList.map AV.v)).flatten = ((List.replicate len zv.cells.toList).flatten).map AV.v := by simp [List.map_flatten]
    rw [this]
    exact reps_lits _
  obtain ⟨cs, k1, k2⟩ := fill_abuild (g := g) (w := w) _ (ps.toList.map fun p => (p.1, ρ p.2)) _ ((Array.range (len * e)).map (zv.cells[· % zv.cells.size]!)) fl (by simp [List.map_map, Function.comp_def])
      (reps_parts ps.toList fun x hx => hop x (by simpa [Op.operands] using hx)) hz0 h
  have hfill : ∀ (pl : Nat → Option (Nat × Nat)) (parts : List (Nat × Value)) (zs cs : Array Value), (∀ i o s, pl i = some (o, s) → True) → Instr.fill pl zs parts = some cs → cs.size = zs.size := by
    intro pl parts
    induction parts with
    | nil => intro zs cs _ h; simp only [Instr.fill, Option.some.injEq] at h; rw [h]
    | cons p parts ih =>
      intro zs cs _ h
      obtain ⟨i, v⟩ := p
      simp only [Instr.fill] at h
      split at h
      · cases h
      · split at h
        · cases h
        · have := ih _ cs (fun _ _ _ _ => trivial) h
          rw [this]
          have : ∀ (l : List (Value × Nat)) (zs : Array Value) (off : Nat), (l.foldl (fun cs p => cs.setIfInBounds (off + p.2) p.1) zs).size = zs.size := by
            intro l
            induction l with
            | nil => intro zs off; rfl
            | cons p l ih => intro zs off; simp only [List.foldl_cons]; rw [ih]; simp
          rw [← Array.foldl_toList]
          exact this _ _ _
  have hcsz : cs.size = len * e := by
    have := hfill _ _ _ _ (fun _ _ _ _ => trivial) k1
    simpa using this
  have hfl : (fl.map toD).length = len * e := by
    have := reps_length k2
    simp at this ⊢; omega
  obtain ⟨c1, c2, c3⟩ := chunk_spec hfl
  obtain ⟨g', m1, m2, m3⟩ := hm.newOwn n (hno n (by simp)) T e (chunk e len (fl.map toD)) c2 cs (by rw [c3]; unfold maxLen; have : len ≤ len * e := Nat.le_mul_of_pos_right _ hpos; omega) (by rw [c1]; exact dreps_toD k2)
  have e2 : (ps.map fun x => (x.1, ρ x.2)).toList = ps.toList.map fun p => (p.1, ρ p.2) := by simp
  have k1' : Instr.fill (fun i => some (i * e, e)) ((Array.range (len * e)).map (zv.cells[· % zv.cells.size]!)) (ps.map fun x => (x.1, ρ x.2)).toList = some cs := by rw [e2]; exact k1
  have hrun : (execOp ρ ⟨d, .buildSlice t len ps, ty, pos, af, gd⟩).run E.P w = .ok (.value (.slice (some ⟨w.heap.size, 0, none⟩) len len)) (w.alloc (.cells cs T)) := by
    have hle : ¬ (len * e > 2 ^ 24) := by omega
    by_cases h0 : len * e = 0
    · have hz0' : (Array.range (len * e)).map (zv.cells[· % zv.cells.size]!) = (Array.range (len * e)).map ((#[] : Array Value)[· % (#[] : Array Value).size]!) := by simp [h0]
      rw [hz0'] at k1'
      simp only [execOp, Instr.buildSlice, Sem.run_bind, run_underlying hs.sl.und, Result.andThen_ok, hsz, if_neg hle, Sem.run_pure, if_pos h0, k1', newRow, run_newObj_alloc]
    · simp only [execOp, Instr.buildSlice, Sem.run_bind, run_underlying hs.sl.und, Result.andThen_ok, hsz, if_neg hle, Sem.run_pure, if_neg h0, h1, k1', newRow, run_newObj_alloc]
  rw [hrun]
  refine ⟨g', m1, m2, ?_⟩
  simp only [rep]
  rw [c3] at m3
  exact m3

/-- A cut of a slice: seen as data. -/
def abound (x : Option AV) (dflt : Int) : Option Int := match x with
  | none => some dflt
  | some (.v (.int _ i)) => some i
  | some _ => none
theorem QV_slice {t : Nat} {x : Operand} {lo hi : Option Operand} {xv : AV} {T e by_ : Nat} {rows : List (List AV)} {l h : Int} {i j : Nat} [hs : SlOk E.P t T e by_] (hx : ev tm x = xv) (hr : arows xv = some (e, rows))
    (hlo : abound (lo.map (ev tm)) 0 = some l) (hhi : abound (hi.map (ev tm)) rows.length = some h) (hi' : l = i) (hj : h = j) (hij : i ≤ j) (hjl : j ≤ rows.length) :
    QV E bl tm ⟨d, .slice t x lo hi none, ty, pos, af, gd⟩ (.sl e ((rows.take j).drop i)) [] [] :=
  QV_pure fun g w ρ hop => by
    have h1 := hop x (by simp [Op.operands])
    rw [hx] at h1
    have h1' := drep_arows h1 hr
    simp only [drep] at h1'
    obtain ⟨A, c, h3, h4, hc⟩ := h1'
    obtain ⟨in0, z, i1, i2, i3, i4, i5⟩ := hs.info
    have hsz : (sizeOf T).run E.P w = .ok e w := by simp [sizeOf, typeInfo, i1, i3]
    have hH : ∀ (m : Nat) (c1 : BoundsCode), rows.length ≤ m → (match hi.map ρ with | some v => Instr.sliceBound v m c1 | none => pure rows.length : Sem Nat).run E.P w = .ok j w := by
      intro m c1 hm
      cases hi with
      | none => simp only [Option.map_none, abound, Option.some.injEq] at hhi; simp only [Option.map_none, Sem.run_pure]; congr 1; omega
      | some xh =>
        have h2 := hop xh (by simp [Op.operands])
        simp only [Option.map_some] at hhi ⊢
        cases hv : ev tm xh <;> rw [hv] at hhi <;> simp only [abound, reduceCtorEq] at hhi
        rename_i vv
        cases vv <;> simp only [Option.some.injEq, reduceCtorEq] at hhi
        rw [hv] at h2
        simp only [rep] at h2
        subst hhi; subst hj
        rw [h2]
        simp [Instr.sliceBound, asIntOf, show (j : Int) ≤ (m : Int) by omega]
    have hL : ∀ (c1 : BoundsCode), (match lo.map ρ with | some v => Instr.sliceBound v j c1 | none => pure 0 : Sem Nat).run E.P w = .ok i w := by
      intro c1
      cases lo with
      | none => simp only [Option.map_none, abound, Option.some.injEq] at hlo; simp only [Option.map_none, Sem.run_pure]; congr 1; omega
      | some xl =>
        have h2 := hop xl (by simp [Op.operands])
        simp only [Option.map_some] at hlo ⊢
        cases hv : ev tm xl <;> rw [hv] at hlo <;> simp only [abound, reduceCtorEq] at hlo
        rename_i vv
        cases vv <;> simp only [Option.some.injEq, reduceCtorEq] at hlo
        rw [hv] at h2
        simp only [rep] at h2
        subst hlo; subst hi'
        rw [h2]
        simp [Instr.sliceBound, asIntOf, show (i : Int) ≤ (j : Int) by omega]
    have hB : (Instr.sliceBounds true rows.length c (lo.map ρ) (hi.map ρ) (Option.map ρ none)).run E.P w = .ok (i, j, c) w := by
      have h5 := hH c .sliceAcap hc
      have h6 := hL .sliceB
      simp only [Option.map_none, Instr.sliceBounds, Option.isSome_none, Sem.run_bind, Sem.run_pure, Result.andThen_ok, if_true]
      have h7 : (match lo.map ρ with | some v => (do let l ← Instr.sliceBound v j (if false = true then BoundsCode.slice3C else BoundsCode.sliceB); pure (l, j, c)) | none => (do let l ← pure 0; pure (l, j, c)) : Sem (Nat × Nat × Nat)).run E.P w = .ok (i, j, c) w := by
        cases lo with
        | none => simp only [Option.map_none] at h6 ⊢; rw [Sem.run_bind, h6]; rfl
        | some xl => simp only [Option.map_some] at h6 ⊢; rw [Sem.run_bind]; simp only [Bool.false_eq_true, if_false]; rw [h6]; rfl
      cases hi with
      | none => simp only [Option.map_none] at h5 ⊢; rw [Sem.run_bind, h5]; exact h7
      | some xh => simp only [Option.map_some] at h5 ⊢; rw [Sem.run_bind, h5]; exact h7
    refine ⟨.slice (if c = i then A else A.map (·.add (i * e))) (j - i) (c - i), ?_, ?_⟩
    · simp only [execOp, h3, Instr.sliceAt, Instr.slice, run_underlying hs.und, Sem.run_bind, Result.andThen_ok, hB, hsz, Sem.run_pure]
    · have hlen : ((rows.take j).drop i).length = j - i := by simp; omega
      simp only [rep, drep]
      refine ⟨if c = i then A else A.map (·.add (i * e)), c - i, by rw [hlen], ?_, by rw [hlen]; omega⟩
      rcases h4 with h4 | ⟨b, o, rfl, h4⟩
      · left; simp [h4]
      · rcases Nat.lt_or_ge i j with h7 | h7
        · right
          refine ⟨b, o + i * e, ?_, drows_drop (drows_take h4)⟩
          have hne : ¬ c = i := by omega
          simp [addr_add, hne]
        · left
          apply List.drop_eq_nil_of_le
          simp; omega

/-- A load out of a slice that is cut no further: a string's byte. -/
theorem QV_indexS {t : Nat} {x ix : Operand} {s : ByteArray} {k : IntKind} {i : Int} {j : Nat} {c : UInt8} (ht : E.P.underlying t = some .string) (hx : ev tm x = .v (.string s)) (hi : ev tm ix = .v (.int k i)) (hj : i = j) (hc : s[j]? = some c) :
    QV E bl tm ⟨d, .index t x ix, ty, pos, af, gd⟩ (.v (.int .u8 c.toNat)) [] [] :=
  QV_pure fun g w ρ hop => by
    have h1 := hop x (by simp [Op.operands])
    have h2 := hop ix (by simp [Op.operands])
    rw [hx] at h1; rw [hi] at h2
    simp only [rep] at h1 h2
    subst hj
    exact ⟨_, by simp [execOp, h1, h2, Instr.index, asIntOf, run_underlying ht, hc]; rfl, by simp only [rep]⟩
theorem QV_lenS {t : Nat} {x : Operand} {s : ByteArray} (ht : E.P.underlying t = some .string) (hx : ev tm x = .v (.string s)) :
    QV E bl tm ⟨d, .call ⟨.builtin .len, #[x], #[t]⟩, ty, pos, af, gd⟩ (.v (.int .i64 s.size)) [] [] :=
  QV_pure fun g w ρ hop => by
    have h1 := hop x (by simp [Op.operands, Call.operands])
    rw [hx] at h1
    simp only [rep] at h1
    exact ⟨_, by simp [execOp, resolve, invoke, builtin, Builtin.len_, h1, run_underlying ht, goInt]; rfl, by simp only [rep]⟩

/-- A new slice by 'make', of known length: its rows are never written. -/
theorem QV_make {t : Nat} {x y : Operand} {T e by_ : Nat} {z : List Value} {k k' : IntKind} {i i' : Int} {len : Nat} (n : Nat) [hs : ZSlOk E.P t T e by_ z] (hx : ev tm x = .v (.int k i)) (hy : ev tm y = .v (.int k' i')) (hi : i = len) (hi' : i' = len) (hl : len ≤ 1048576) (hb : by_ ≤ 1048576) :
    QV E bl tm ⟨d, .makeSlice t x y, ty, pos, af, gd⟩ (.own n T e (List.replicate len (z.map AV.v))) [] [n] := by
  intro g w ρ bl' ow' hm _ _ hno hop
  have h1 := hop x (by simp [Op.operands])
  have h2 := hop y (by simp [Op.operands])
  rw [hx] at h1; rw [hy] at h2
  simp only [rep] at h1 h2
  subst hi; subst hi'
  obtain ⟨in0, iz, i1, i2, i3, i4, i5⟩ := hs.sl.info
  obtain ⟨zv, hz, rfl⟩ := hs.zero
  have hpos := hs.sl.pos
  have hzv : zv = iz := by
    have := hz w
    simpa [zeroValue, typeInfo, i1, i2] using this.symm
  subst hzv
  have hmul : by_ * len ≤ 1048576 * 1048576 := Nat.mul_le_mul hb hl
  obtain ⟨w', r1, r2, r3⟩ := run_make_full (P := E.P) w 0 t T in0 zv e hs.sl.und i1 i2 i3 k k' len (by rw [i4]; omega) (by unfold maxLen; omega) (Nat.zero_le _)
  have hr := run_make (P := E.P) w t T in0 zv hs.sl.und i1 i2 k k' len len (by omega) (Int.le_refl _) (by rw [i4]; have : ((by_ * len : Nat) : Int) ≤ 281474976710656 := by omega
                                                                                                          rwa [Int.natCast_mul] at this) (by omega)
  simp only [Int.toNat_natCast] at hr
  have hdl : ∀ l : List (List Value), dreps g.I w ((l.map (·.map AV.v)).flatten) l.flatten := by
    intro l
    have : ∀ l : List Value, dreps g.I w (l.map AV.v) l := by
      intro l
      induction l with
      | nil => simp [dreps]
      | cons x l ih => simp only [List.map_cons, dreps]; exact ⟨x, l, rfl, by simp [drep], ih⟩
    induction l with
    | nil => simp [dreps]
    | cons x l ih => simp only [List.map_cons, List.flatten_cons]; exact dreps_append (this x) ih
  have hcells : (madeCells zv.cells (len * in0.size)).toList = (List.replicate len zv.cells.toList).flatten := by
    have := range_zero zv.cells len
    rw [i3, ← i5]
    simpa [madeCells] using this
  obtain ⟨g', m1, m2, m3⟩ := hm.newOwn n (hno n (by simp)) T e (List.replicate len (zv.cells.toList.map AV.v)) (fun r hr => by rw [List.eq_of_mem_replicate hr]; simpa using i5) (madeCells zv.cells (len * in0.size)) (by simp [maxLen]; omega) (by
    rw [hcells]
    have := hdl (List.replicate len zv.cells.toList)
    simpa using this)
  have hrun : (execOp ρ ⟨d, .makeSlice t x y, ty, pos, af, gd⟩).run E.P w = .ok (.value (.slice (some ⟨w.heap.size, 0, none⟩) len len)) (w.alloc (.cells (madeCells zv.cells (len * in0.size)) T)) := by
    simp only [execOp, h1, h2, Sem.run_bind, hr, Result.andThen_ok, Sem.run_pure]
  rw [hrun]
  refine ⟨g', m1, m2, ?_⟩
  simp only [rep]
  simpa using m3
end

/-! ### Stores -/
def setB (bl : List (Nat × List AV)) (n : Nat) (cs : List AV) : List (Nat × List AV) := bl.map fun p => bif Nat.beq p.1 n then (p.1, cs) else p
/-- May it lie in one cell? -/
def isCell : AV → Bool
  | .v x => x.oneCell'
  | .top => false
  | .agg _ => false
  | .tup _ => false
  | _ => true
theorem oneCell_of {g : Gh} {w : World} {x : AV} {y : Value} (h : rep g w x y) (hc : isCell x = true) : y.oneCell' = true := by
  cases x <;> simp only [isCell, Bool.false_eq_true] at hc
  case v x => simp only [rep] at h; subst h; exact hc
  case sl => simp only [rep, drep] at h; obtain ⟨A, c, rfl, _⟩ := h; rfl
  case own =>
    simp only [rep] at h
    obtain ⟨_, _, xs, h3, _⟩ := h
    rcases h3.2 with ⟨rfl, _⟩ | ⟨_, _, _, rfl, _⟩ <;> rfl
  case ptr => simp only [rep] at h; obtain ⟨b, _, rfl⟩ := h; rfl
  case eptr => simp only [rep] at h; obtain ⟨b, o, rfl, _⟩ := h; rfl
  case fn => simp only [rep] at h; obtain ⟨a, b, rfl, _⟩ := h; rfl
  case arr => simp only [rep] at h; obtain ⟨b, _, _, _, rfl, _⟩ := h; rfl
theorem setRow_heap' {w : World} {b : Nat} {cur cs : Array Value} {T : TypeId} (h : w.heap[b]? = some (.cells cur T (0, 0))) : (w.setRow b cs).heap[b]? = some (.cells cs T (0, 0)) := setRow_heap w b cur cs T (0, 0) h

theorem Mem.setBlock {E : En} {g : Gh} {bl : List (Nat × List AV)} {ow : List Nat} {w : World} (h : Mem E g bl ow w) {n b : Nat} (hn : g.m n = some b) (hro : n ∉ E.ron) {cs : List AV} {arr : Array Value} {cur : Array Value} (hh : w.heap[b]? = some (.cells cur (g.mt n) (0, 0)))
    (hI : ∀ o, ¬ g.I b o) (hr : reps g w cs arr.toList) : Goes g w g (w.setRow b arr) ∧ Mem E g (setB bl n cs) ow (w.setRow b arr) := by
  have other : ∀ k, k ≠ b → (w.setRow b arr).heap[k]? = w.heap[k]? := fun k hk => setRow_other w b k arr hk
  have size : (w.setRow b arr).heap.size = w.heap.size := by simp [World.setRow]
  have keeps : Keeps g.I w (w.setRow b arr) := fun k o hk => World.cell?_of_block (a := ⟨k, o, none⟩) (other k fun e => hI o (e ▸ hk))
  have goes : Goes g w g (w.setRow b arr) := ⟨fun _ _ h => h, keeps, fun _ _ h => h, fun _ _ _ => rfl, fun k T' e rows y hy =>
    ownRep_goes (g := g) (g' := g) (fun _ _ h => h) keeps (fun _ h => ⟨h, rfl⟩) (fun k c h1 h2 => other c fun e => h.disj n k b hn h1 (e ▸ h2)) (fun _ _ _ _ _ h => h) hy⟩
  refine ⟨goes, ?_⟩
  have hbB : E.B ≤ b ∨ E.M b := (h.mfr n b hn).1.resolve_left hro
  refine { below := ⟨h.below.os, h.below.tape, h.below.output, by rw [size]; exact h.below.size, fun k hk hM => ?_⟩, base := by rw [size]; exact h.base, cell := fun c o hc => by rw [keeps c o hc]; exact h.cell c o hc,
           mfr := fun k c hk => by rw [size]; exact h.mfr k c hk, ofr := fun k c h1 h2 => by rw [size]; exact h.ofr k c h1 h2, minj := h.minj, oinj := h.oinj, disj := h.disj, blk := ?_, key := fun k c hk => ?_, own := h.own, inew := h.inew, iold := h.iold, pin := h.pin }
  · rw [other k fun e => by subst e; rcases hbB with h1 | h1 <;> first | omega | exact hM h1]
    exact h.below.block k hk hM
  · intro k ds hk
    simp only [setB, List.mem_map] at hk
    obtain ⟨⟨k', ds'⟩, hp, he⟩ := hk
    obtain ⟨c, arr', h1, h2, h3, h4⟩ := h.blk k' ds' hp
    cases hb : Nat.beq k' n
    · simp only [hb, cond_false, Prod.mk.injEq] at he
      obtain ⟨rfl, rfl⟩ := he
      have hne : c ≠ b := fun e => by
        subst e
        have := h.minj k' n c h1 hn
        rw [this] at hb; simp at hb
      exact ⟨c, arr', h1, (other c hne).trans h2, reps_goes goes h3, h4⟩
    · simp only [hb, cond_true, Prod.mk.injEq] at he
      obtain ⟨rfl, rfl⟩ := he
      have e := Nat.eq_of_beq_eq_true hb
      rw [e] at h1 ⊢
      have : c = b := by rw [hn] at h1; exact (Option.some.inj h1).symm
      subst this
      exact ⟨c, arr, hn, setRow_heap' hh, reps_goes goes hr, h4⟩
  · obtain ⟨ds, hd⟩ := h.key k c hk
    cases hb : Nat.beq k n
    · exact ⟨ds, List.mem_map.2 ⟨_, hd, by simp only [hb, cond_false]⟩⟩
    · exact ⟨cs, List.mem_map.2 ⟨_, hd, by simp only [hb, cond_true]⟩⟩

theorem TV_store {E : En} {s : St} {d : Option Tmp} {ty : TypeId} {pos : String} {af : Array Edge} {gd : Option (Nat × Bool)} {t : Nat} {x y : Operand} {n o sz : Nat} {ag : Bool} {v : AV} {cs : List AV} [ht : TyOk E.P t ag sz] (hd : dstB E.nt ⟨d, .store t x y, ty, pos, af, gd⟩ = true) (hx : ev s.tm x = .ptr n o) (hy : ev s.tm y = v) (hb : lookB s.bl n = some cs) (hro : n ∉ E.ron)
    (hc : isC v = true) (hall : (acells v).all isCell = true) (hl : (acells v).length = sz) (hfit : o + sz ≤ cs.length) : TV E ⟨d, .store t x y, ty, pos, af, gd⟩ s (St.app ⟨s.tm, setB s.bl n (splice cs o (acells v)), s.ow⟩ d (.v undef) [] []) := by
  intro g a w hi next Q hn
  have h1 := rep_ev hi.tm x
  have h2 := rep_ev hi.tm y
  rw [hx] at h1; rw [hy] at h2
  simp only [rep] at h1
  obtain ⟨b, h1, h1'⟩ := h1
  obtain ⟨b', arr, e1, e2, e3, e4⟩ := hi.mem.blk n cs (lookB_mem hb)
  have : b' = b := by rw [h1] at e1; exact (Option.some.inj e1).symm
  subst this
  have hcs := reps_cellsC h2 hc
  have hvl : (a.eval y).cells.size = sz := by rw [cells_length h2 hc, hl]
  have hal := reps_length e3
  have hall' : ∀ u ∈ (a.eval y).cells.toList, u.oneCell' = true := by
    have : ∀ (xs : List AV) (ys : List Value), reps g w xs ys → xs.all isCell = true → ∀ u ∈ ys, u.oneCell' = true := by
      intro xs
      induction xs with
      | nil => intro ys h _ u hu; simp only [reps] at h; subst h; simp at hu
      | cons x xs ih =>
        intro ys h ha u hu
        simp only [reps] at h
        obtain ⟨z, zs, rfl, k1, k2⟩ := h
        simp only [List.all_cons, Bool.and_eq_true] at ha
        rcases List.mem_cons.1 hu with rfl | hu
        · exact oneCell_of k1 ha.1
        · exact ih zs k2 ha.2 u hu
    exact this _ _ hcs hall
  have hst := run_storeCells_at E.P b' o (g.mt n) (a.eval y).cells.toList 0 arr w e2 (by simp at hal ⊢; omega) hall'
  simp only [Nat.add_zero] at hst
  have hrun : (execOp a.eval ⟨d, .store t x y, ty, pos, af, gd⟩).run E.P w = .ok .skip (w.setRow b' (arr.toList.take o ++ (a.eval y).cells.toList ++ arr.toList.drop (o + (a.eval y).cells.toList.length)).toArray) := by
    have hne : ¬ ((a.eval y).cells.size ≠ sz) := by omega
    simp only [execOp, h1', Instr.storeAt, Instr.sureAddr, storeVar, Sem.run_bind, Sem.run_pure, Result.andThen_ok, ht.sz, if_neg hne, hst]
  have hrs := reps_splice (off := o) e3 hcs
  obtain ⟨k1, k2⟩ := hi.mem.setBlock (cs := splice cs o (acells v)) (arr := (arr.toList.take o ++ (a.eval y).cells.toList ++ arr.toList.drop (o + (a.eval y).cells.toList.length)).toArray) h1 hro e2 e4 (by simpa [List.append_assoc] using hrs)
  unfold Oper.wp
  rw [hrun]
  simp only [Oper.upon]
  refine hn g _ _ ?_
  have hi' : Inv E g ⟨s.tm, setB s.bl n (splice cs o (acells v)), s.ow⟩ a (w.setRow b' (arr.toList.take o ++ (a.eval y).cells.toList ++ arr.toList.drop (o + (a.eval y).cells.toList.length)).toArray) :=
    ⟨k2, fun t => rep_goes k1 (hi.tm t), hi.de, hi.sz⟩
  exact hi'.app (dstB_spec hd) (Goes.refl _ _) (by simpa using k2) (by simp [rep])

theorem not_top_of_cells {l : List AV} (h : l.all isCell = true) : l.all (fun x => !isTop x) = true := by
  induction l with
  | nil => rfl
  | cons x l ih =>
    simp only [List.all_cons, Bool.and_eq_true] at h ⊢
    exact ⟨by cases x <;> simp_all [isCell, isTop], ih h.2⟩
theorem reps_tops {g : Gh} {w : World} : ∀ (l : List AV) (ys : List Value), l.all isTop = true → l.length = ys.length → reps g w l ys
  | [], ys, _, h => by cases ys <;> simp_all [reps]
  | x :: l, [], _, h => by simp at h
  | x :: l, y :: ys, ha, h => by
    simp only [List.all_cons, Bool.and_eq_true] at ha
    simp only [reps]
    refine ⟨y, ys, rfl, ?_, reps_tops l ys ha.2 (by simpa using h)⟩
    cases x <;> simp_all [isTop, rep]
/-- A new variable's first store. -/
theorem QI_store {E : En} {tm : List (Nat × AV)} {ty : TypeId} {pos : String} {af : Array Edge} {t : Nat} {y : Operand} {n sz : Nat} {ag : Bool} {v : AV} [ht : TyOk E.P t ag sz] (hx : ev tm (.tmp n) = .ptr n 0) (hy : ev tm y = v) (hro : n ∉ E.ron)
    (hc : isC v = true) (hall : (acells v).all isCell = true) (hl : (acells v).length = sz) (hne : acells v ≠ []) : QI E tm ⟨none, .store t (.tmp n) y, ty, pos, af, none⟩ n (acells v) := by
  refine ⟨rfl, rfl, by simp [Op.operands], ⟨not_top_of_cells hall, hne⟩, fun g w ρ bl' ow' hm hex hall' hop => ?_⟩
  have h1 := hop (.tmp n) (by simp [Op.operands])
  have h2 := hop y (by simp [Op.operands])
  rw [hx] at h1; rw [hy] at h2
  simp only [rep] at h1
  obtain ⟨b, h1, h1'⟩ := h1
  obtain ⟨c0, hc0⟩ := hex
  obtain ⟨b', arr, e1, e2, e3, e4⟩ := hm.blk n c0 hc0
  have : b' = b := by rw [h1] at e1; exact (Option.some.inj e1).symm
  subst this
  have hcs := reps_cellsC h2 hc
  have hvl : (ρ y).cells.size = sz := by rw [cells_length h2 hc, hl]
  have hal := reps_length e3
  have hc0l := (hall' c0 hc0).1
  have hall2 : ∀ u ∈ (ρ y).cells.toList, u.oneCell' = true := by
    have : ∀ (xs : List AV) (ys : List Value), reps g w xs ys → xs.all isCell = true → ∀ u ∈ ys, u.oneCell' = true := by
      intro xs
      induction xs with
      | nil => intro ys h _ u hu; simp only [reps] at h; subst h; simp at hu
      | cons x xs ih =>
        intro ys h ha u hu
        simp only [reps] at h
        obtain ⟨z, zs, rfl, k1, k2⟩ := h
        simp only [List.all_cons, Bool.and_eq_true] at ha
        rcases List.mem_cons.1 hu with rfl | hu
        · exact oneCell_of k1 ha.1
        · exact ih zs k2 ha.2 u hu
    exact this _ _ hcs hall
  have hst := run_storeCells_at E.P b' 0 (g.mt n) (ρ y).cells.toList 0 arr w e2 (by simp at hal ⊢; omega) hall2
  simp only [Nat.add_zero] at hst
  have hrow : (arr.toList.take 0 ++ (ρ y).cells.toList ++ arr.toList.drop (0 + (ρ y).cells.toList.length)).toArray = (ρ y).cells := by
    have : arr.toList.drop (0 + (ρ y).cells.toList.length) = [] := List.drop_eq_nil_of_le (by simp at hal ⊢; omega)
    rw [this]; simp
  have hrun : (execOp ρ ⟨none, .store t (.tmp n) y, ty, pos, af, none⟩).run E.P w = .ok .skip (w.setRow b' (ρ y).cells) := by
    have hne : ¬ ((ρ y).cells.size ≠ sz) := by omega
    rw [hrow] at hst
    simp only [execOp, h1', Instr.storeAt, Instr.sureAddr, storeVar, Sem.run_bind, Sem.run_pure, Result.andThen_ok, ht.sz, if_neg hne, hst]
  obtain ⟨k1, k2⟩ := hm.setBlock (cs := acells v) (arr := (ρ y).cells) h1 hro e2 e4 hcs
  rw [hrun]
  refine ⟨rfl, g, k1, { k2 with blk := fun k ds hk => ?_, key := fun k c hk => ?_ }⟩
  · have hself : ∃ b arr', g.m n = some b ∧ (w.setRow b' (ρ y).cells).heap[b]? = some (.cells arr' (g.mt n) (0, 0)) ∧ reps g (w.setRow b' (ρ y).cells) (acells v) arr'.toList ∧ ∀ o, ¬ g.I b o :=
      k2.blk n (acells v) (List.mem_map.2 ⟨_, hc0, by simp⟩)
    rcases List.mem_cons.1 hk with he | hk2
    · simp only [Prod.mk.injEq] at he
      obtain ⟨rfl, rfl⟩ := he
      exact hself
    · clear hk
      cases hb : Nat.beq k n
      · exact k2.blk k ds (List.mem_map.2 ⟨_, hk2, by simp only [hb, cond_false]⟩)
      · have := Nat.eq_of_beq_eq_true hb
        subst this
        obtain ⟨b2, arr2, m1, m2, m3, m4⟩ := hself
        exact ⟨b2, arr2, m1, m2, reps_tops _ _ (hall' ds hk2).2 (by rw [(hall' ds hk2).1]; exact (reps_length m3).symm), m4⟩
  · obtain ⟨ds, hd⟩ := hm.key k c hk
    exact ⟨ds, List.mem_cons_of_mem _ hd⟩
theorem Mem.tops {E : En} {g : Gh} {n : Nat} {cs ts : List AV} {bl : List (Nat × List AV)} {ow : List Nat} {w : World} (h : Mem E g ((n, cs) :: bl) ow w) (ht : ts.all isTop = true) (hl : ts.length = cs.length) : Mem E g ((n, ts) :: bl) ow w :=
  { h with
    blk := fun k ds hk => by
      rcases List.mem_cons.1 hk with he | hk
      · simp only [Prod.mk.injEq] at he
        obtain ⟨rfl, rfl⟩ := he
        obtain ⟨b, arr, m1, m2, m3, m4⟩ := h.blk k cs (List.mem_cons_self ..)
        exact ⟨b, arr, m1, m2, reps_tops _ _ ht (by rw [hl]; exact (reps_length m3).symm), m4⟩
      · exact h.blk k ds (List.mem_cons_of_mem _ hk)
    key := fun k c hk => by
      obtain ⟨ds, hd⟩ := h.key k c hk
      rcases List.mem_cons.1 hd with he | hd
      · simp only [Prod.mk.injEq] at he
        exact ⟨ts, by rw [he.1]; exact List.mem_cons_self ..⟩
      · exact ⟨ds, List.mem_cons_of_mem _ hd⟩ }
theorem UponQ.mono {P : Program} {K K' : Value → World → Prop} (hK : ∀ y w, K y w → K' y w) : ∀ {r : Result Next}, UponQ P K r → UponQ P K' r
  | .ok (.value _) _, h => hK _ _ h
  | .ok .skip _, h => hK _ _ h
  | .ok (.enter _ _) _, h => Calls.mono h fun _ _ ⟨y, he, hy⟩ => ⟨y, he, hK _ _ hy⟩
  | .halt _ _, h => h.elim
theorem QV_tops {E : En} {bl : List (Nat × List AV)} {tm : List (Nat × AV)} {o : Oper} {n : Nat} {v : AV} {cs ts : List AV} (h : QV E bl tm o v [(n, cs)] []) (ht : ts.all isTop = true) (hl : ts.length = cs.length) : QV E bl tm o v [(n, ts)] [] :=
  fun g w ρ bl' ow' hm hb hf hn hop => UponQ.mono (fun _ _ hK => let ⟨g', h1, h2, h3⟩ := hK; ⟨g', h1, Mem.tops h2 ht hl, h3⟩)
    (h g w ρ bl' ow' hm hb (fun p hp q hq => by
      rw [List.mem_singleton] at hp; subst hp
      exact hf (n, ts) (List.mem_singleton.2 rfl) q hq) hn hop)
end Go.Eng
