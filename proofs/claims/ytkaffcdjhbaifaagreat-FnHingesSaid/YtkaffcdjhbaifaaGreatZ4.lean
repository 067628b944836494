/- My walking engine, part 4: abstract values of Go, and the rules of a walk over them. No program in sight. -/
import Derived.Test.YtkaffcdjhbaifaaGreatZ3
import Derived.Laws.BytesArg
namespace Go.Eng
open Go

class ArOk (P : Program) (t : Nat) (T len e : outParam Nat) : Prop where
  und : P.underlying t = some (.array len T)
  size : (P.info? T).map (·.size) = some e
abbrev vs (l : List Int) : AV := .v (.string (strOfNums l))
theorem str_app (a b : List Int) : strOfNums a ++ strOfNums b = strOfNums (a ++ b) := by
  apply ByteArray.ext
  rw [ByteArray.data_append]
  simp [strOfNums]
section
variable {E : En} {bl : List (Nat × List AV)} {tm : List (Nat × AV)} {d : Option Tmp} {ty : TypeId} {pos : String} {af : Array Edge} {gd : Option (Nat × Bool)}
theorem q_cat {xT yT : TypeId} {x y : Operand} {a b c : List Int} (hx : ev tm x = vs a) (hy : ev tm y = vs b) (hc : a ++ b = c) (hl : a.length + b.length ≤ 1000000) : QV E bl tm ⟨d, .binOp .add xT x y yT, ty, pos, af, gd⟩ (vs c) [] [] :=
  QV_pure fun g w ρ hop => by
    have h1 := hop x (by simp [Op.operands])
    have h2 := hop y (by simp [Op.operands])
    rw [hx] at h1; rw [hy] at h2
    simp only [rep] at h1 h2
    refine ⟨.string (strOfNums a ++ strOfNums b), ?_, by subst hc; simp only [rep, str_app]⟩
    have hn : ¬ (9223372036854775807 : Int) < (strOfNums a).size + (strOfNums b).size := by
      rw [strOfNums_size, strOfNums_size]; omega
    simp [execOp, h1, h2, eqGuard, binOp, Op.stringOp, hn]
theorem q_convE {s t : TypeId} {x : Operand} {k k' : IntKind} {a r : Int} {u : TypeDesc} (hs : E.P.underlying s = some u) (ht : E.P.underlying t = some (.int k')) (hx : ev tm x = .v (.int k a)) (h : k'.wrap a = r) : QV E bl tm ⟨d, .convert s t x, ty, pos, af, gd⟩ (.v (.int k' r)) [] [] := by
  subst h
  exact QV_conv (by rw [hs]; rfl) ht hx
theorem q_negE {t : TypeId} {x : Operand} {k : IntKind} {a r : Int} (hx : ev tm x = .v (.int k a)) (h : k.wrap (0 - a) = r) : QV E bl tm ⟨d, .unOp .neg t x, ty, pos, af, gd⟩ (.v (.int k r)) [] [] := by
  subst h
  exact QV_neg hx
theorem q_indexAr {t : Nat} {x ix : Operand} {n o T len e : Nat} {k : IntKind} {i : Int} (j : Nat) [ha : ArOk E.P t T len e] (hx : ev tm x = .ptr n o) (hi : ev tm ix = .v (.int k i)) (hj : i = j) (hl : Nat.blt j len = true) : QV E bl tm ⟨d, .indexAddr t x ix, ty, pos, af, gd⟩ (.ptr n (o + j * e)) [] [] :=
  QV_pure fun g w ρ hop => by
    have h1 := hop x (by simp [Op.operands])
    have h2 := hop ix (by simp [Op.operands])
    rw [hx] at h1; rw [hi] at h2
    simp only [rep] at h1 h2
    obtain ⟨b, m1, h1⟩ := h1
    subst hj
    have hlt : j < len := Nat.le_of_ble_eq_true hl
    have hsz : (sizeOf T).run E.P w = .ok e w := by
      have := ha.size
      cases hq : E.P.info? T with
      | none => simp [hq] at this
      | some i => simp [hq] at this; simp [sizeOf, typeInfo, hq, this]
    refine ⟨.pointer (some ⟨b, o + j * e, none⟩), ?_, by simp only [rep]; exact ⟨b, m1, rfl⟩⟩
    simp [execOp, h1, h2, Instr.indexAt, Instr.sureAddr, asIntOf, run_underlying ha.und, hsz, addr_add, hlt]
end
section
variable {E : En} {ops : Array Oper} {rest : List Oper} {Q : Exit → St → Prop} {tm : List (Nat × AV)} {bl : List (Nat × List AV)} {ow : List Nat} {d1 d2 : Nat} {ty1 ty2 : TypeId} {pos1 pos2 : String} {af1 af2 : Array Edge}
theorem wslstr {t s u n T T' len : Nat} {x : Operand} {lo : Operand} {k : IntKind} {i : Int} {cs : List AV} (j : Nat) (l : List Int) [ha : ArOk E.P t T len 1] (hs : E.P.underlying s = some (.slice T')) (hT : E.P.underlying T' = some (.int .u8)) (ht : E.P.underlying u = some .string)
    (hx : ev tm x = .ptr n 0) (hlo : ev tm lo = .v (.int k i)) (hj : i = j) (hjl : Nat.blt j len = true) (hll : j + l.length = len) (hb : lookB bl n = some cs) (hcs : dropO j cs = some (l.map fun c => .v (.int .u8 c))) (h1d : Nat.blt d1 E.nt = true) (h2d : Nat.blt d2 E.nt = true)
    (hk : WL E ops rest Q ⟨(d2, vs l) :: (d1, .top) :: tm, bl, ow⟩) :
    WL E ops (⟨some d1, .slice t x (some lo) none none, ty1, pos1, af1, none⟩ :: ⟨some d2, .convert s u (.tmp d1), ty2, pos2, af2, none⟩ :: rest) Q ⟨tm, bl, ow⟩ := by
  intro g a w hi
  unfold wpListIn
  rw [show Region.wanted ⟨some d1, .slice t x (some lo) none none, ty1, pos1, af1, none⟩ (yielded ops a.tmps) = true by simp [Region.wanted]]
  refine wpIn_of_wp (fun _ h => by cases h) ?_
  have h1 := rep_ev hi.tm x
  have h2 := rep_ev hi.tm lo
  rw [hx] at h1; rw [hlo] at h2
  simp only [rep] at h1 h2
  obtain ⟨b, m1, h1⟩ := h1
  subst hj
  have hlt : j < len := Nat.le_of_ble_eq_true hjl
  have hsz : (sizeOf T).run E.P w = .ok 1 w := by
    have := ha.size
    cases hq : E.P.info? T with
    | none => simp [hq] at this
    | some i => simp [hq] at this; simp [sizeOf, typeInfo, hq, this]
  have hrun : (execOp a.eval ⟨some d1, .slice t x (some lo) none none, ty1, pos1, af1, none⟩).run E.P w = .ok (.value (.slice (some ⟨b, j, none⟩) (len - j) (len - j))) w := by
    have hne : ¬ len = j := by omega
    simp [execOp, h1, h2, Instr.sliceAt, Instr.sliceBounds, Instr.sliceBound, Instr.sureAddr, asIntOf, run_underlying ha.und, hsz, addr_add, hne, show j ≤ len by omega]
  unfold Oper.wp
  rw [hrun]
  simp only [Oper.upon]
  have i1 := hi.app (d := some d1) (v := .top) (y := .slice (some ⟨b, j, none⟩) (len - j) (len - j)) (nb := []) (no := []) (fun k hk => by cases hk; exact Nat.le_of_ble_eq_true h1d) (Goes.refl g w) (by simpa using hi.mem) (by simp only [rep])
  unfold wpListIn
  rw [show Region.wanted ⟨some d2, .convert s u (.tmp d1), ty2, pos2, af2, none⟩ (yielded ops (a.put (some d1) (.slice (some ⟨b, j, none⟩) (len - j) (len - j))).tmps) = true by simp [Region.wanted]]
  refine wpIn_of_wp (fun _ h => by cases h) ?_
  have hd1 : d1 < a.tmps.size := by rw [hi.sz]; exact Nat.le_of_ble_eq_true h1d
  have hev : (a.put (some d1) (.slice (some ⟨b, j, none⟩) (len - j) (len - j))).eval (.tmp d1) = .slice (some ⟨b, j, none⟩) (len - j) (len - j) := by
    simp [Act.eval, Act.put, hd1]
  obtain ⟨b', arr, e1, e2, e3, e4⟩ := hi.mem.blk n cs (lookB_mem hb)
  have : b' = b := by rw [m1] at e1; exact (Option.some.inj e1).symm
  subst this
  have hdr := reps_drop (k := j) e3
  rw [dropO_eq hcs] at hdr
  have hconv := run_convert_bytes_arg (P := E.P) w s T' hs hT b' j (len - j) (len - j) l (by omega) (fun i hi => by
    have hx : (l.map fun c => AV.v (.int .u8 c))[i]? = some (.v (.int .u8 (l.getD i 0))) := by
      have : i < l.length := by omega
      simp [this]
    obtain ⟨y, hy, hr⟩ := reps_get hdr hx
    simp only [rep] at hr
    rw [cell_of_heap e2]
    rw [List.getElem?_drop] at hy
    rw [← hr]
    simpa using hy) u ht
  have hrun2 : (execOp (a.put (some d1) (.slice (some ⟨b', j, none⟩) (len - j) (len - j))).eval ⟨some d2, .convert s u (.tmp d1), ty2, pos2, af2, none⟩).run E.P w = .ok (.value (.string (strOfNums l))) w := by
    simp only [execOp, hev, Sem.run_bind, hconv, Result.andThen_ok, Sem.run_pure]
  unfold Oper.wp
  rw [hrun2]
  simp only [Oper.upon]
  have i2 := i1.app (d := some d2) (v := vs l) (y := .string (strOfNums l)) (nb := []) (no := []) (fun k hk => by cases hk; exact Nat.le_of_ble_eq_true h2d) (Goes.refl g w) (by simpa [St.app] using hi.mem) (by simp only [rep])
  exact hk g _ w (by simpa [St.app] using i2)
end
end Go.Eng
