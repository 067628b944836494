/- My walking engine, part 8: abstract values of Go, and the rules of a walk over them. No program in sight. -/
import Derived.Test.YtkaffcdjhbaifaaGreatZ4
namespace Go.Eng
open Go
section
variable {E : En} {bl : List (Nat × List AV)} {tm : List (Nat × AV)} {d : Option Tmp} {ty : TypeId} {pos : String} {af : Array Edge} {gd : Option (Nat × Bool)}
theorem q_buildAr {t T len e : Nat} {ps : Array (Nat × Operand)} {zc out : List AV} [ha : ArOk E.P t T len e] [hz : ZcOk E.P t zc] (h : buildO (fun i => some (i * e, e)) tm zc ps.toList = some out) : QV E bl tm ⟨d, .build t ps, ty, pos, af, gd⟩ (.agg out) [] [] :=
  QV_pure fun g w ρ hop => by
    obtain ⟨zv, h1, rfl⟩ := hz.ok
    obtain ⟨cs, k1, k2⟩ := fill_abuild (g := g) (w := w) (pl := fun i => some (i * e, e)) _ (ps.toList.map fun p => (p.1, ρ p.2)) _ zv.cells out (by simp [List.map_map, Function.comp_def])
      (reps_parts ps.toList fun x hx => hop x (by simpa [Op.operands] using hx)) (reps_lits _) (buildO_eq h)
    refine ⟨.agg cs, ?_, by simp only [rep]; exact ⟨cs, rfl, k2⟩⟩
    have e1 : (ps.map fun x => (x.1, ρ x.2)).toList = ps.toList.map fun p => (p.1, ρ p.2) := by simp
    have k1' : Instr.fill (fun i => some (i * e, e)) zv.cells (ps.map fun x => (x.1, ρ x.2)).toList = some cs := by
      rw [e1]; exact k1
    have hsz : (sizeOf T).run E.P w = .ok e w := by
      have := ha.size
      cases hq : E.P.info? T with
      | none => simp [hq] at this
      | some i => simp [hq] at this; simp [sizeOf, typeInfo, hq, this]
    simp only [execOp, Instr.build, Sem.run_bind, h1.zero w, run_underlying ha.und, Result.andThen_ok, hsz, k1', Sem.run_pure]
end
end Go.Eng
