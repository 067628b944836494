/- Single operations, each from what its operands read as to what its result reads as. No program in sight. -/
import Derived.Test.YtikbndfbjgdldaaEB
namespace Go.Eng
open Go

/-- What a type is: an aggregate or not; how many cells. -/
class TyOk (P : Program) (t : Nat) (ag : outParam Bool) (sz : outParam Nat) : Prop where
  ag : ∀ w, (isAgg t).run P w = .ok ag w
  sz : ∀ w, (sizeOf t).run P w = .ok sz w
class FldOk (P : Program) (s f : Nat) (off : outParam Nat) (ag : outParam Bool) (sz : outParam Nat) : Prop where
  fld : ∃ fs fd, P.underlying s = some (.struct fs) ∧ fs[f]? = some fd ∧ fd.offset = off ∧ TyOk P fd.type ag sz
  pos : 0 < sz
class ZeroOk (P : Program) (t : Nat) (z : outParam Value) : Prop where
  zero : ∀ w, (zeroValue t).run P w = .ok z w
class SlOk (P : Program) (t : Nat) (T e by_ : outParam Nat) : Prop where
  und : P.underlying t = some (.slice T)
  info : ∃ i z, P.info? T = some i ∧ i.zero = some z ∧ i.size = e ∧ i.bytes = by_ ∧ z.cells.size = e
  pos : 0 < e

section
variable {E : En} {bl : List (Nat × List AV)} {tm : List (Nat × AV)} {d : Option Tmp} {ty : TypeId} {pos : String} {af : Array Edge} {gd : Option (Nat × Bool)}

theorem QV_move {x : Operand} {v : AV} (h : ev tm x = v) : QV E bl tm ⟨d, .move x, ty, pos, af, gd⟩ v [] [] :=
  QV_pure fun g w ρ hop => ⟨ρ x, rfl, h ▸ hop x (by simp [Op.operands])⟩
theorem QV_assign {x : Operand} {v : AV} (h : ev tm x = v) : QV E bl tm ⟨d, .assign x, ty, pos, af, gd⟩ v [] [] :=
  QV_pure fun g w ρ hop => ⟨ρ x, rfl, h ▸ hop x (by simp [Op.operands])⟩
theorem QV_pick {c x y : Operand} {b : Bool} {v : AV} (hc : ev tm c = .v (.bool b)) (h : (bif b then ev tm x else ev tm y) = v) : QV E bl tm ⟨d, .pick c x y, ty, pos, af, gd⟩ v [] [] :=
  QV_pure fun g w ρ hop => by
    have h1 := hop c (by simp [Op.operands])
    have h2 := hop x (by simp [Op.operands])
    have h3 := hop y (by simp [Op.operands])
    rw [hc] at h1
    simp only [rep] at h1
    cases b
    · exact ⟨ρ y, by simp [execOp, h1, asBool], h ▸ h3⟩
    · exact ⟨ρ x, by simp [execOp, h1, asBool], h ▸ h2⟩

/-- Arithmetic and comparisons of integers. -/
def abin (op : BinOp) (k : IntKind) (a b : Int) : Option Value :=
  match op with
  | .add => some (.int k (k.wrap (a + b)))
  | .sub => some (.int k (k.wrap (a - b)))
  | .mul => some (.int k (k.wrap (a * b)))
  | .eql => some (.bool (a == b))
  | .neq => some (.bool (a != b))
  | .lss => some (.bool (decide (a < b)))
  | .leq => some (.bool (decide (a ≤ b)))
  | .gtr => some (.bool (decide (b < a)))
  | .geq => some (.bool (decide (b ≤ a)))
  | _ => none
theorem run_abin {P : Program} {w : World} {op : BinOp} {k : IntKind} {a b : Int} {r : Value} {xT : TypeId} {x y : Operand} (h : abin op k a b = some r) :
    (do eqGuard op xT x y (.int k a) (.int k b); binOp op xT (.int k a) (.int k b) : Sem Value).run P w = .ok r w := by
  cases op <;> simp only [abin, Option.some.injEq, reduceCtorEq] at h <;> subst h <;>
    simp [eqGuard, binOp, Op.intArith, Op.intCmp]
theorem QV_bin {op : BinOp} {xT yT : TypeId} {x y : Operand} {k : IntKind} {a b : Int} {r : Value} (hx : ev tm x = .v (.int k a)) (hy : ev tm y = .v (.int k b)) (h : abin op k a b = some r) :
    QV E bl tm ⟨d, .binOp op xT x y yT, ty, pos, af, gd⟩ (.v r) [] [] :=
  QV_pure fun g w ρ hop => by
    have h1 := hop x (by simp [Op.operands])
    have h2 := hop y (by simp [Op.operands])
    rw [hx] at h1; rw [hy] at h2
    simp only [rep] at h1 h2
    have hr := run_abin (P := E.P) (w := w) (xT := xT) (x := x) (y := y) h
    refine ⟨r, ?_, by simp [rep]⟩
    simp only [execOp, h1, h2]
    rw [Sem.run_bind, hr]
    rfl
theorem i64w {n : Int} (h : -9223372036854775808 ≤ n ∧ n ≤ 9223372036854775807) : IntKind.i64.wrap n = n := IntWalk.i64_in _ h
/-- Within the range of int nothing wraps. -/
def aar (op : BinOp) (a b : Int) : Option Int :=
  match op with
  | .add => some (a + b)
  | .sub => some (a - b)
  | .mul => some (a * b)
  | _ => none
theorem QV_ar {op : BinOp} {xT yT : TypeId} {x y : Operand} {a b r : Int} (hx : ev tm x = .v (.int .i64 a)) (hy : ev tm y = .v (.int .i64 b)) (h : aar op a b = some r)
    (hr : -9223372036854775808 ≤ r ∧ r ≤ 9223372036854775807) : QV E bl tm ⟨d, .binOp op xT x y yT, ty, pos, af, gd⟩ (.v (.int .i64 r)) [] [] := by
  refine QV_bin hx hy ?_
  cases op <;> simp only [aar, Option.some.injEq, reduceCtorEq] at h <;> subst h <;> simp only [abin] <;> rw [i64w hr]
/-- Quotient and remainder. -/
def adv (op : BinOp) (k : IntKind) (a b : Int) : Option Value :=
  match op with
  | .quo => some (.int k (k.wrap (a.tdiv b)))
  | .rem => some (.int k (a.tmod b))
  | _ => none
theorem QV_div {op : BinOp} {xT yT : TypeId} {x y : Operand} {k : IntKind} {a b : Int} {r : Value} (hx : ev tm x = .v (.int k a)) (hy : ev tm y = .v (.int k b)) (h0 : b ≠ 0) (h : adv op k a b = some r) :
    QV E bl tm ⟨d, .binOp op xT x y yT, ty, pos, af, gd⟩ (.v r) [] [] :=
  QV_pure fun g w ρ hop => by
    have h1 := hop x (by simp [Op.operands])
    have h2 := hop y (by simp [Op.operands])
    rw [hx] at h1; rw [hy] at h2
    simp only [rep] at h1 h2
    refine ⟨r, ?_, by simp [rep]⟩
    simp only [execOp, h1, h2]
    cases op <;> simp only [adv, Option.some.injEq, reduceCtorEq] at h <;> subst h <;>
      simp [eqGuard, binOp, Op.intDiv, h0]
theorem run_equal_bool {P : Program} {w : World} {t : TypeId} {a b : Bool} (hu : P.underlying t = some .bool) : (Op.equal t (.bool a) (.bool b)).run P w = .ok (a == b) w := by
  have : ∀ k, (Op.equalIn (k + 1) t (.bool a) (.bool b)).run P w = .ok (a == b) w := fun k => by simp [Op.equalIn, run_underlying hu]
  exact this 9999
theorem QV_beq {xT yT : TypeId} {x y : Operand} {a b : Bool} (hu : E.P.underlying xT = some .bool) (hx : ev tm x = .v (.bool a)) (hy : ev tm y = .v (.bool b)) :
    QV E bl tm ⟨d, .binOp .eql xT x y yT, ty, pos, af, gd⟩ (.v (.bool (a == b))) [] [] :=
  QV_pure fun g w ρ hop => by
    have h1 := hop x (by simp [Op.operands])
    have h2 := hop y (by simp [Op.operands])
    rw [hx] at h1; rw [hy] at h2
    simp only [rep] at h1 h2
    refine ⟨.bool (a == b), ?_, by simp only [rep]⟩
    simp [execOp, h1, h2, eqGuard, binOp, run_equal_bool hu]
theorem QV_bne {xT yT : TypeId} {x y : Operand} {a b : Bool} (hu : E.P.underlying xT = some .bool) (hx : ev tm x = .v (.bool a)) (hy : ev tm y = .v (.bool b)) :
    QV E bl tm ⟨d, .binOp .neq xT x y yT, ty, pos, af, gd⟩ (.v (.bool (!(a == b)))) [] [] :=
  QV_pure fun g w ρ hop => by
    have h1 := hop x (by simp [Op.operands])
    have h2 := hop y (by simp [Op.operands])
    rw [hx] at h1; rw [hy] at h2
    simp only [rep] at h1 h2
    refine ⟨.bool (!(a == b)), ?_, by simp only [rep]⟩
    simp [execOp, h1, h2, eqGuard, binOp, run_equal_bool hu]
theorem QV_not {t : TypeId} {x : Operand} {a : Bool} (hx : ev tm x = .v (.bool a)) : QV E bl tm ⟨d, .unOp .not t x, ty, pos, af, gd⟩ (.v (.bool (!a))) [] [] :=
  QV_pure fun g w ρ hop => by
    have h1 := hop x (by simp [Op.operands])
    rw [hx] at h1
    simp only [rep] at h1
    exact ⟨_, by simp [execOp, h1, Op.unary]; rfl, by simp only [rep]⟩
theorem QV_neg {t : TypeId} {x : Operand} {k : IntKind} {a : Int} (hx : ev tm x = .v (.int k a)) : QV E bl tm ⟨d, .unOp .neg t x, ty, pos, af, gd⟩ (.v (.int k (k.wrap (0 - a)))) [] [] :=
  QV_pure fun g w ρ hop => by
    have h1 := hop x (by simp [Op.operands])
    rw [hx] at h1
    simp only [rep] at h1
    exact ⟨_, by simp only [execOp, h1, Op.unary, Op.intArith]; rfl, by simp only [rep]⟩
theorem QV_neg' {t : TypeId} {x : Operand} {a : Int} (hx : ev tm x = .v (.int .i64 a)) (hr : -9223372036854775807 ≤ a ∧ a ≤ 9223372036854775807) : QV E bl tm ⟨d, .unOp .neg t x, ty, pos, af, gd⟩ (.v (.int .i64 (-a))) [] [] := by
  have := QV_neg (E := E) (bl := bl) (d := d) (ty := ty) (pos := pos) (af := af) (gd := gd) (t := t) hx
  rwa [i64w (by omega), show 0 - a = -a by omega] at this
theorem QV_field {s f : Nat} {x : Operand} {cs : List AV} {off sz : Nat} {ag : Bool} {v : AV} [hf : FldOk E.P s f off ag sz] (hx : ev tm x = .agg cs)
    (h : (bif ag then some (.agg ((cs.drop off).take sz)) else cs[off]?) = some v) (hl : off + sz ≤ cs.length) : QV E bl tm ⟨d, .field s x f, ty, pos, af, gd⟩ v [] [] :=
  QV_pure fun g w ρ hop => by
    have h1 := hop x (by simp [Op.operands])
    rw [hx] at h1
    simp only [rep] at h1
    obtain ⟨arr, h1, h2⟩ := h1
    obtain ⟨fs, fd, e1, e2, rfl, e4⟩ := hf.fld
    cases ag
    · simp only [cond_false] at h
      obtain ⟨y, hy, hr⟩ := reps_get h2 h
      have hy' : arr[fd.offset]? = some y := by simpa using hy
      refine ⟨y, ?_, hr⟩
      simp [execOp, h1, Instr.field, run_underlying e1, e2, part, asAgg, e4.ag, hy']
    · simp only [cond_true, Option.some.injEq] at h
      subst h
      refine ⟨.agg (arr.extract fd.offset (fd.offset + sz)), ?_, ?_⟩
      · simp [execOp, h1, Instr.field, run_underlying e1, e2, part, asAgg, e4.ag, e4.sz]
      · simp only [rep]
        refine ⟨_, rfl, ?_⟩
        have := reps_take (k := sz) (reps_drop (k := fd.offset) h2)
        rw [show (arr.extract fd.offset (fd.offset + sz)).toList = (arr.toList.drop fd.offset).take sz by simp]
        exact this
theorem run_fieldPlace {P : Program} {w : World} {a : Addr} {f : Field} {ag : Bool} {sz : Nat} (h : TyOk P f.type ag sz) (hp : 0 < sz) : (fieldPlace a f).run P w = .ok (a.add f.offset) w := by
  have : sz ≠ 0 := by omega
  simp [fieldPlace, h.sz, this]
theorem addr_add (b o k : Nat) : Addr.add ⟨b, o, none⟩ k = ⟨b, o + k, none⟩ := by
  unfold Addr.add
  split
  · subst k; rfl
  · rfl
theorem QV_fieldAddr {s f : Nat} {x : Operand} {n o off sz : Nat} {ag : Bool} [hf : FldOk E.P s f off ag sz] (hx : ev tm x = .ptr n o) : QV E bl tm ⟨d, .fieldAddr s x f, ty, pos, af, gd⟩ (.ptr n (o + off)) [] [] :=
  QV_pure fun g w ρ hop => by
    have h1 := hop x (by simp [Op.operands])
    rw [hx] at h1
    simp only [rep] at h1
    obtain ⟨b, h1, h2⟩ := h1
    obtain ⟨fs, fd, e1, e2, rfl, e4⟩ := hf.fld
    refine ⟨.pointer (some ⟨b, o + fd.offset, none⟩), ?_, ?_⟩
    · simp [execOp, h2, Instr.fieldAt, run_underlying e1, e2, Instr.sureAddr, run_fieldPlace e4 hf.pos, addr_add]
    · simp only [rep]; exact ⟨b, h1, rfl⟩
theorem QV_fieldAddrE {s f : Nat} {x : Operand} {cs : List AV} {off sz : Nat} {ag : Bool} [hf : FldOk E.P s f off ag sz] (hx : ev tm x = .eptr cs) : QV E bl tm ⟨d, .fieldAddr s x f, ty, pos, af, gd⟩ (.eptr (cs.drop off)) [] [] :=
  QV_pure fun g w ρ hop => by
    have h1 := hop x (by simp [Op.operands])
    rw [hx] at h1
    simp only [rep] at h1
    obtain ⟨b, o, h1, h2⟩ := h1
    obtain ⟨fs, fd, e1, e2, rfl, e4⟩ := hf.fld
    refine ⟨.pointer (some ⟨b, o + fd.offset, none⟩), ?_, ?_⟩
    · simp [execOp, h1, Instr.fieldAt, run_underlying e1, e2, Instr.sureAddr, run_fieldPlace e4 hf.pos, addr_add]
    · simp only [rep]; exact ⟨b, _, rfl, dcells_drop h2⟩
theorem QV_extract {x : Operand} {xs : List AV} {i : Nat} {v : AV} (hx : ev tm x = .tup xs) (h : xs[i]? = some v) : QV E bl tm ⟨d, .extract x i, ty, pos, af, gd⟩ v [] [] :=
  QV_pure fun g w ρ hop => by
    have h1 := hop x (by simp [Op.operands])
    rw [hx] at h1
    simp only [rep] at h1
    obtain ⟨arr, h1, h2⟩ := h1
    obtain ⟨y, hy, hr⟩ := reps_get h2 h
    have hy' : arr[i]? = some y := by simpa using hy
    exact ⟨y, by simp [execOp, h1, Instr.extract, hy'], hr⟩

def lookB : List (Nat × List AV) → Nat → Option (List AV)
  | [], _ => none
  | (k, cs) :: r, n => bif Nat.beq k n then some cs else lookB r n
theorem lookB_mem : ∀ {bl : List (Nat × List AV)} {n : Nat} {cs : List AV}, lookB bl n = some cs → (n, cs) ∈ bl
  | [], n, cs, h => by simp [lookB] at h
  | (k, c) :: r, n, cs, h => by
    unfold lookB at h
    cases hk : Nat.beq k n
    · rw [hk] at h; simp [lookB_mem h]
    · rw [hk] at h
      have : k = n := Nat.eq_of_beq_eq_true hk
      simp only [cond_true, Option.some.injEq] at h
      subst h; subst this; simp

/-- What a load gives: of cells that read as 'cs', from 'off' on. -/
def aload (ag : Bool) (sz : Nat) (cs : List AV) : Option AV := bif ag then (bif Nat.ble sz cs.length then some (.agg (cs.take sz)) else none) else cs.head?

theorem run_loadVar {P : Program} {w : World} {t : Nat} {ag : Bool} {sz : Nat} (ht : TyOk P t ag sz) {b o : Nat} {ys : List Value} (hy : ∀ j z, ys[j]? = some z → w.cell? ⟨b, o + j, none⟩ = some z) (hl : sz ≤ ys.length) (h1 : ag = false → ∃ y, ys[0]? = some y) :
    (loadVar t ⟨b, o, none⟩).run P w = .ok (bif ag then .agg (ys.take sz).toArray else ys.getD 0 undef) w := by
  cases ag
  · obtain ⟨y, h0⟩ := h1 rfl
    have := hy 0 y h0
    rw [Nat.add_zero] at this
    simp [loadVar, ht.ag, run_load, this, List.getD, h0]
  · have hlen : (ys.take sz).length = sz := by simp; omega
    have := run_loadCells_list (P := P) w ⟨b, o, none⟩ (ys.take sz) (fun j v hj => by
      rw [addr_add]
      exact hy j v (by rw [List.getElem?_take] at hj; split at hj <;> first | exact hj | cases hj))
    rw [hlen] at this
    simp [loadVar, ht.ag, ht.sz, this]

theorem QV_load {t : Nat} {x : Operand} {n o sz : Nat} {ag : Bool} {cs : List AV} {v : AV} [ht : TyOk E.P t ag sz] (hx : ev tm x = .ptr n o) (hb : lookB bl n = some cs) (h : aload ag sz (cs.drop o) = some v) : QV E bl tm ⟨d, .load t x, ty, pos, af, gd⟩ v [] [] := by
  intro g w ρ bl' ow' hm hbl _ _ hop
  have h1 := hop x (by simp [Op.operands])
  rw [hx] at h1
  simp only [rep] at h1
  obtain ⟨b, h1, h2⟩ := h1
  obtain ⟨b', arr, e1, e2, e3, e4⟩ := hm.blk n cs (hbl _ (lookB_mem hb))
  have : b' = b := by rw [h1] at e1; exact (Option.some.inj e1).symm
  subst this
  have hd := reps_drop (k := o) e3
  have hc : ∀ j z, (arr.toList.drop o)[j]? = some z → w.cell? ⟨b', o + j, none⟩ = some z := fun j z hj => by
    rw [cell_of_heap e2]; simpa [List.getElem?_drop] using hj
  have hlen := reps_length hd
  cases ag
  · simp only [aload, cond_false, List.head?_eq_getElem?] at h
    obtain ⟨y, hy, hr⟩ := reps_get hd h
    have hc0 := hc 0 y hy
    rw [Nat.add_zero] at hc0
    have hrun : (execOp ρ ⟨d, .load t x, ty, pos, af, gd⟩).run E.P w = .ok (.value y) w := by
      simp [execOp, h2, Instr.loadAt, Instr.sureAddr, loadVar, ht.ag, run_load, hc0]
    rw [hrun]
    exact ⟨g, Goes.refl g w, hm, hr⟩
  · simp only [aload, cond_true] at h
    cases hle : Nat.ble sz (cs.drop o).length
    · rw [hle] at h; cases h
    · rw [hle] at h
      simp only [cond_true, Option.some.injEq] at h
      subst h
      have hle' : sz ≤ (arr.toList.drop o).length := by rw [hlen]; exact Nat.le_of_ble_eq_true hle
      have hrun : (execOp ρ ⟨d, .load t x, ty, pos, af, gd⟩).run E.P w = .ok (.value (.agg ((arr.toList.drop o).take sz).toArray)) w := by
        have := run_loadVar (P := E.P) (w := w) ht hc hle' (fun h => by cases h)
        simp only [execOp, h2, Instr.loadAt, Instr.sureAddr]
        simp [this]
      rw [hrun]
      refine ⟨g, Goes.refl g w, hm, ?_⟩
      simp only [rep]
      exact ⟨_, rfl, reps_take hd⟩
theorem QV_loadE {t : Nat} {x : Operand} {sz : Nat} {ag : Bool} {cs : List AV} {v : AV} [ht : TyOk E.P t ag sz] (hx : ev tm x = .eptr cs) (h : aload ag sz cs = some v) : QV E bl tm ⟨d, .load t x, ty, pos, af, gd⟩ v [] [] :=
  QV_pure fun g w ρ hop => by
    have h1 := hop x (by simp [Op.operands])
    rw [hx] at h1
    simp only [rep] at h1
    obtain ⟨b, o, h1, h2⟩ := h1
    obtain ⟨zs, g1, g2, g3⟩ := dcells_list h2
    have hr := reps_of_dreps (g := g) g1
    cases ag
    · simp only [aload, cond_false, List.head?_eq_getElem?] at h
      obtain ⟨y, hy, hr⟩ := reps_get hr h
      have hc0 := (g3 0 y hy).1
      rw [Nat.add_zero] at hc0
      exact ⟨y, by simp [execOp, h1, Instr.loadAt, Instr.sureAddr, loadVar, ht.ag, run_load, hc0], hr⟩
    · simp only [aload, cond_true] at h
      cases hle : Nat.ble sz cs.length
      · rw [hle] at h; cases h
      · rw [hle] at h
        simp only [cond_true, Option.some.injEq] at h
        subst h
        have hle' : sz ≤ zs.length := by rw [g2]; exact Nat.le_of_ble_eq_true hle
        refine ⟨.agg (zs.take sz).toArray, ?_, ?_⟩
        · have := run_loadVar (P := E.P) (w := w) ht (fun j z hj => (g3 j z hj).1) hle' (fun h => by cases h)
          simp only [execOp, h1, Instr.loadAt, Instr.sureAddr]
          simp [this]
        · simp only [rep]
          exact ⟨_, rfl, reps_take hr⟩

/-- A new variable. -/
def acells : AV → List AV
  | .agg cs => cs
  | x => [x]
theorem reps_cells {g : Gh} {w : World} {x : AV} {y : Value} (h : rep g w x y) (hn : x ≠ .top) (hv : ∀ a, x ≠ .v (.agg a)) : reps g w (acells x) y.cells.toList := by
  cases x with
  | agg cs =>
    simp only [rep] at h
    obtain ⟨a, rfl, h⟩ := h
    exact h
  | top => exact absurd rfl hn
  | v x =>
    have h' := h
    simp only [rep] at h'
    subst h'
    have : y.cells = #[y] := by
      cases y <;> first | rfl | (exact absurd rfl (hv _))
    rw [this]
    simp only [acells, reps]
    exact ⟨y, [], rfl, h, rfl⟩
  | _ =>
    have hc : y.cells = #[y] := by
      simp only [rep] at h
      first
        | (obtain ⟨a, rfl, _⟩ := h; rfl)
        | (simp only [drep] at h; obtain ⟨A, c, rfl, _⟩ := h; rfl)
        | (obtain ⟨h1, h2, xs, h3, _⟩ := h
           rcases h3.2 with ⟨rfl, _⟩ | ⟨_, _, _, rfl, _⟩ <;> rfl)
        | (obtain ⟨b, _, rfl⟩ := h; rfl)
        | (obtain ⟨b, o, rfl, _⟩ := h; rfl)
        | (obtain ⟨a, b, rfl, _⟩ := h; rfl)
        | (obtain ⟨b, _, _, _, rfl, _⟩ := h; rfl)
    rw [hc]
    simp only [acells, reps]
    exact ⟨y, [], rfl, h, rfl⟩
/-- May it lie in memory as it is? -/
def isC : AV → Bool
  | .top => false
  | .v (.agg _) => false
  | _ => true
theorem reps_cellsC {g : Gh} {w : World} {x : AV} {y : Value} (h : rep g w x y) (hc : isC x = true) : reps g w (acells x) y.cells.toList :=
  reps_cells h (fun e => by subst e; simp [isC] at hc) (fun a e => by subst e; simp [isC] at hc)
theorem QV_newRow {o : Oper} {n : Nat} {cs : List AV} (h : ∀ (g : Gh) (w : World) (ρ : Operand → Value), (∀ x ∈ o.op.operands, rep g w (ev tm x) (ρ x)) →
      ∃ arr T, (execOp ρ o).run E.P w = .ok (.value (.pointer (some ⟨w.heap.size, 0, none⟩))) (w.alloc (.cells arr T)) ∧ reps g w cs arr.toList) : QV E bl tm o (.ptr n 0) [(n, cs)] [] := by
  intro g w ρ bl' ow' hm hbl hf _ hop
  obtain ⟨arr, T, hrun, hr⟩ := h g w ρ hop
  rw [hrun]
  obtain ⟨g', h1, h2, h3, _⟩ := hm.newBlock n (fun q hq => hf (n, cs) (by simp) q hq) cs arr T hr
  refine ⟨g', h1, h2, ?_⟩
  simp only [rep]
  exact ⟨_, h3, rfl⟩
theorem QV_box {t : Nat} {x : Operand} {v : AV} (n : Nat) (hx : ev tm x = v) (hc : isC v = true) : QV E bl tm ⟨d, .box t x, ty, pos, af, gd⟩ (.ptr n 0) [(n, acells v)] [] :=
  QV_newRow fun g w ρ hop => by
    have h1 := hop x (by simp [Op.operands])
    rw [hx] at h1
    exact ⟨(ρ x).cells, t, by simp [execOp, Instr.box, newVar, newRow], reps_cellsC h1 hc⟩
theorem QV_alloc {t : Nat} {z : Value} (n : Nat) [hz : ZeroOk E.P t z] : QV E bl tm ⟨d, .alloc t, ty, pos, af, gd⟩ (.ptr n 0) [(n, z.cells.toList.map AV.v)] [] :=
  QV_newRow fun g w ρ hop => by
    refine ⟨z.cells, t, by simp [execOp, Instr.alloc, hz.zero, newVar, newRow], ?_⟩
    have : ∀ l : List Value, reps g w (l.map AV.v) l := by
      intro l
      induction l with
      | nil => simp [reps]
      | cons x l ih => simp only [List.map_cons, reps]; exact ⟨x, l, rfl, by simp [rep], ih⟩
    exact this _

/-- The rows of a value that is a slice. -/
def arows : AV → Option (Nat × List (List AV))
  | .sl e rows => some (e, rows)
  | .own _ _ e rows => some (e, rows)
  | _ => none
theorem drep_arows {g : Gh} {w : World} {x : AV} {y : Value} {e : Nat} {rows : List (List AV)} (h : rep g w x y) (hr : arows x = some (e, rows)) : drep g.I w (.sl e rows) y := by
  cases x <;> simp only [arows, Option.some.injEq, Prod.mk.injEq, reduceCtorEq] at hr
  · obtain ⟨rfl, rfl⟩ := hr
    simpa only [rep] using h
  · obtain ⟨rfl, rfl⟩ := hr
    simp only [rep] at h
    exact drep_of_own h
theorem QV_indexAddr {t : Nat} {x ix : Operand} {xv : AV} {T e by_ : Nat} {rows : List (List AV)} {k : IntKind} {i : Int} {j : Nat} {r : List AV} [hs : SlOk E.P t T e by_] (hx : ev tm x = xv) (hr : arows xv = some (e, rows))
    (hi : ev tm ix = .v (.int k i)) (hj : i = j) (hrow : rows[j]? = some r) : QV E bl tm ⟨d, .indexAddr t x ix, ty, pos, af, gd⟩ (.eptr r) [] [] :=
  QV_pure fun g w ρ hop => by
    have h1 := hop x (by simp [Op.operands])
    have h2 := hop ix (by simp [Op.operands])
    rw [hx] at h1; rw [hi] at h2
    have h1' := drep_arows h1 hr
    simp only [rep, drep] at h2 h1'
    subst hj
    obtain ⟨A, c, h3, h4, _⟩ := h1'
    have hlt : j < rows.length := (List.getElem?_eq_some_iff.1 hrow).1
    rcases h4 with h4 | ⟨b, o, rfl, h4⟩
    · simp [h4] at hlt
    · obtain ⟨in0, z, hi1, hi2, hi3, hi4, hi5⟩ := hs.info
      have hsz : (sizeOf T).run E.P w = .ok e w := by simp [sizeOf, typeInfo, hi1, hi3]
      refine ⟨.pointer (some ⟨b, o + j * e, none⟩), ?_, ?_⟩
      · simp [execOp, h2, h3, Instr.indexAt, asIntOf, run_underlying hs.und, hsz, addr_add, hlt]
      · simp only [rep]
        exact ⟨b, _, rfl, (drows_get h4 hrow).2⟩
theorem QV_len {t : Nat} {x : Operand} {xv : AV} {T e e' by_ : Nat} {rows : List (List AV)} [hs : SlOk E.P t T e' by_] (hx : ev tm x = xv) (hr : arows xv = some (e, rows)) :
    QV E bl tm ⟨d, .call ⟨.builtin .len, #[x], #[t]⟩, ty, pos, af, gd⟩ (.v (.int .i64 rows.length)) [] [] :=
  QV_pure fun g w ρ hop => by
    have h1 := hop x (by simp [Op.operands, Call.operands])
    rw [hx] at h1
    have h1' := drep_arows h1 hr
    simp only [drep] at h1'
    obtain ⟨A, c, h3, h4, _⟩ := h1'
    exact ⟨_, by simp [execOp, resolve, invoke, builtin, Builtin.len_, h3, run_underlying hs.und, goInt]; rfl, by simp only [rep]⟩
theorem QV_lenNil {t : Nat} {x : Operand} {T e by_ n c : Nat} {A : Option Addr} [hs : SlOk E.P t T e by_] (hx : ev tm x = .v (.slice A n c)) :
    QV E bl tm ⟨d, .call ⟨.builtin .len, #[x], #[t]⟩, ty, pos, af, gd⟩ (.v (.int .i64 n)) [] [] :=
  QV_pure fun g w ρ hop => by
    have h1 := hop x (by simp [Op.operands, Call.operands])
    rw [hx] at h1
    simp only [rep] at h1
    exact ⟨_, by simp [execOp, resolve, invoke, builtin, Builtin.len_, h1, run_underlying hs.und, goInt]; rfl, by simp only [rep]⟩
theorem QV_min {x y : Operand} {ts : Array TypeId} {k : IntKind} {a b : Int} (hx : ev tm x = .v (.int k a)) (hy : ev tm y = .v (.int k b)) :
    QV E bl tm ⟨d, .call ⟨.builtin .min, #[x, y], ts⟩, ty, pos, af, gd⟩ (.v (.int k (min a b))) [] [] :=
  QV_pure fun g w ρ hop => by
    have h1 := hop x (by simp [Op.operands, Call.operands])
    have h2 := hop y (by simp [Op.operands, Call.operands])
    rw [hx] at h1; rw [hy] at h2
    simp only [rep] at h1 h2
    refine ⟨.int k (min a b), ?_, by simp only [rep]⟩
    have : (if b < a then b else a) = min a b := by omega
    simp [execOp, resolve, invoke, builtin, Builtin.min_, Builtin.min2, h1, h2, this]
theorem QV_max {x y : Operand} {ts : Array TypeId} {k : IntKind} {a b : Int} (hx : ev tm x = .v (.int k a)) (hy : ev tm y = .v (.int k b)) :
    QV E bl tm ⟨d, .call ⟨.builtin .max, #[x, y], ts⟩, ty, pos, af, gd⟩ (.v (.int k (max a b))) [] [] :=
  QV_pure fun g w ρ hop => by
    have h1 := hop x (by simp [Op.operands, Call.operands])
    have h2 := hop y (by simp [Op.operands, Call.operands])
    rw [hx] at h1; rw [hy] at h2
    simp only [rep] at h1 h2
    refine ⟨.int k (max a b), ?_, by simp only [rep]⟩
    have : (if a < b then b else a) = max a b := by omega
    simp [execOp, resolve, invoke, builtin, Builtin.max_, Builtin.max2, h1, h2, this]
theorem QV_nilCheck {x : Operand} {v : AV} (hx : ev tm x = v) (hv : match v with | .ptr .. => True | .eptr _ => True | .fn (.func _) _ _ => True | _ => False) : QV E bl tm ⟨d, .nilCheck x, ty, pos, af, gd⟩ v [] [] :=
  QV_pure fun g w ρ hop => by
    have h1 := hop x (by simp [Op.operands])
    rw [hx] at h1
    refine ⟨ρ x, ?_, h1⟩
    cases v with
    | ptr n o =>
      simp only [rep] at h1
      obtain ⟨b, _, h2⟩ := h1
      simp [execOp, h2]
    | eptr cs =>
      simp only [rep] at h1
      obtain ⟨b, o, h2, _⟩ := h1
      simp [execOp, h2]
    | fn f fs cs =>
      simp only [rep] at h1
      obtain ⟨a, b, h2, _⟩ := h1
      cases f <;> simp at hv
      simp [execOp, h2]
    | _ => simp at hv
theorem QV_nilCheckF {x : Operand} {f : FuncId} {us vs : Array Value} (hx : ev tm x = .v (.func (.func f) us vs)) : QV E bl tm ⟨d, .nilCheck x, ty, pos, af, gd⟩ (.v (.func (.func f) us vs)) [] [] :=
  QV_pure fun g w ρ hop => by
    have h1 := hop x (by simp [Op.operands])
    rw [hx] at h1
    simp only [rep] at h1
    exact ⟨ρ x, by simp [execOp, h1], by simp only [rep]; exact h1⟩
theorem reps_map {g : Gh} {w : World} {ρ : Operand → Value} : ∀ (xs : List Operand), (∀ x ∈ xs, rep g w (ev tm x) (ρ x)) → reps g w (xs.map (ev tm)) (xs.map ρ)
  | [], _ => by simp [reps]
  | x :: xs, h => by
    simp only [List.map_cons, reps]
    exact ⟨_, _, rfl, h x (by simp), reps_map xs (fun y hy => h y (by simp [hy]))⟩
theorem QV_makeFunc {f : Fn} {fs cs : Array Operand} : QV E bl tm ⟨d, .makeFunc f fs cs, ty, pos, af, gd⟩ (.fn f (fs.toList.map (ev tm)) (cs.toList.map (ev tm))) [] [] :=
  QV_pure fun g w ρ hop => by
    refine ⟨.func f (fs.map ρ) (cs.map ρ), by simp [execOp, Instr.makeFunc], ?_⟩
    simp only [rep]
    refine ⟨_, _, rfl, ?_, ?_⟩
    · rw [Array.toList_map]; exact reps_map _ fun x hx => hop x (by simp [Op.operands] at hx ⊢; exact .inl hx)
    · rw [Array.toList_map]; exact reps_map _ fun x hx => hop x (by simp [Op.operands] at hx ⊢; exact .inr hx)
theorem QV_conv {s t : TypeId} {x : Operand} {k k' : IntKind} {a : Int} (hs : (E.P.underlying s).isSome = true) (ht : E.P.underlying t = some (.int k')) (hx : ev tm x = .v (.int k a)) :
    QV E bl tm ⟨d, .convert s t x, ty, pos, af, gd⟩ (.v (.int k' (k'.wrap a))) [] [] :=
  QV_pure fun g w ρ hop => by
    have h1 := hop x (by simp [Op.operands])
    rw [hx] at h1
    simp only [rep] at h1
    obtain ⟨u, hu⟩ := Option.isSome_iff_exists.1 hs
    refine ⟨.int k' (k'.wrap a), ?_, by simp only [rep]⟩
    simp [execOp, h1, convert, run_underlying hu, run_underlying ht, Conv.intToInt]
end
end Go.Eng
