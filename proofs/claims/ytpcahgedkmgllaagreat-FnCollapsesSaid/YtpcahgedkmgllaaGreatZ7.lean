/- My walking engine, part 7: abstract values of Go, and the rules of a walk over them. No program in sight. -/
import Derived.Test.YtpcahgedkmgllaaGreatZ5
namespace Go.Eng
open Go Go.Conc

class ArOk (P : Program) (t : Nat) (T len e : outParam Nat) : Prop where
  und : P.underlying t = some (.array len T)
  size : (P.info? T).map (·.size) = some e
section
variable {E : En} {bl : List (Nat × List AV)} {tm : List (Nat × AV)} {d : Option Tmp} {ty : TypeId} {pos : String} {af : Array Edge} {gd : Option (Nat × Bool)}
theorem q_indexAr {t : Nat} {x ix : Operand} {n o T len e : Nat} {k : IntKind} {i : Int} (j : Nat) [ha : ArOk E.P t T len e] (hx : ev tm x = .ptr n o) (hi : ev tm ix = .v (.int k i)) (hj : i = j) (hl : Nat.blt j len = true) : QV E bl tm ⟨d, .indexAddr t x ix, ty, pos, af, gd⟩ (.ptr n (o + j * e)) [] [] :=
  QV_pure fun g w ρ hop => by
    have h1 := hop x (by simp [Op.operands])
    have h2 := hop ix (by simp [Op.operands])
    rw [hx] at h1; rw [hi] at h2
    simp only [rep] at h1 h2
    obtain ⟨b, m1, h1⟩ := h1
    subst hj
    have hlt : j < len := Nat.le_of_ble_eq_true hl
    have hsz : (sizeOf T).run E.P w = .ok e w := by
      have := ha.size
      cases hq : E.P.info? T with
      | none => simp [hq] at this
      | some i => simp [hq] at this; simp [sizeOf, typeInfo, hq, this]
    refine ⟨.pointer (some ⟨b, o + j * e, none⟩), ?_, evR_of ?_, by simp only [rep]; exact ⟨b, m1, rfl⟩⟩
    · simp [execOp, h1, h2, Instr.indexAt, Instr.sureAddr, asIntOf, run_underlying ha.und, hsz, addr_add, hlt]
    · simp [execOp, h1, h2, Instr.indexAt, Instr.sureAddr, asIntOf, run_underlying ha.und, addr_add, hlt]
end
end Go.Eng

namespace Go.Eng
open Go Go.Conc
section
variable {E : En} {bl : List (Nat × List AV)} {tm : List (Nat × AV)} {d : Option Tmp} {ty : TypeId} {pos : String} {af : Array Edge} {gd : Option (Nat × Bool)}
theorem q_buildAr {t T len e : Nat} {ps : Array (Nat × Operand)} {zc out : List AV} [ha : ArOk E.P t T len e] [hz : ZcOk E.P t zc] (h : buildO (fun i => some (i * e, e)) tm zc ps.toList = some out) : QV E bl tm ⟨d, .build t ps, ty, pos, af, gd⟩ (.agg out) [] [] :=
  QV_pure fun g w ρ hop => by
    obtain ⟨zv, h1, rfl⟩ := hz.ok
    obtain ⟨cs, k1, k2⟩ := fill_abuild (g := g) (w := w) (pl := fun i => some (i * e, e)) _ (ps.toList.map fun p => (p.1, ρ p.2)) _ zv.cells out (by simp [List.map_map, Function.comp_def])
      (reps_parts ps.toList fun x hx => hop x (by simpa [Op.operands] using hx)) (reps_lits _) (buildO_eq h)
    refine ⟨.agg cs, ?_, evR_of (by simp only [execOp]; exact qt_bind (qt_build _ _) (fun _ => qt_pure _) _ _ _), by simp only [rep]; exact ⟨cs, rfl, k2⟩⟩
    have e1 : (ps.map fun x => (x.1, ρ x.2)).toList = ps.toList.map fun p => (p.1, ρ p.2) := by simp
    have k1' : Instr.fill (fun i => some (i * e, e)) zv.cells (ps.map fun x => (x.1, ρ x.2)).toList = some cs := by
      rw [e1]; exact k1
    have hsz : (sizeOf T).run E.P w = .ok e w := by
      have := ha.size
      cases hq : E.P.info? T with
      | none => simp [hq] at this
      | some i => simp [hq] at this; simp [sizeOf, typeInfo, hq, this]
    simp only [execOp, Instr.build, Sem.run_bind, h1.zero w, run_underlying ha.und, Result.andThen_ok, hsz, k1', Sem.run_pure]
end
end Go.Eng
