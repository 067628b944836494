/- A struct of two structs of two numbers, held against one that reads the same. -/
import Derived.Test.YtkadjimnamcjbaaEQ
namespace Go.Eng
open Go

section
variable {E : En} {bl : List (Nat × List AV)} {tm : List (Nat × AV)} {d : Option Tmp} {ty : TypeId} {pos : String} {af : Array Edge} {gd : Option (Nat × Bool)}
theorem four_of {g : Gh} {w : World} {a b c e : Int} {xs : Array Value} (h : reps g w [.v (.int .i64 a), .v (.int .i64 b), .v (.int .i64 c), .v (.int .i64 e)] xs.toList) : xs = #[.int .i64 a, .int .i64 b, .int .i64 c, .int .i64 e] := by
  simp only [reps, rep] at h
  obtain ⟨_, _, e1, rfl, _, _, rfl, rfl, _, _, rfl, rfl, _, _, rfl, rfl, rfl⟩ := h
  cases xs
  simp_all
theorem QV_eqJ {xT yT p : TypeId} {x y : Operand} {a b c e : Int} {f0 f1 : Field} (hu : E.P.underlying xT = some (.struct #[f0, f1])) (n0 : f0.name ≠ "_") (n1 : f1.name ≠ "_") (t0 : f0.type = p) (t1 : f1.type = p) (o0 : f0.offset = 0) (o1 : f1.offset = 2) [ht : TyOk E.P p true 2] [hf : FlatOk E.P p [true, true]]
    (s1 : E.P.stoodInHeld xT = false) (s2 : E.P.eqGuardType E.P.depth xT = false) (hx : ev tm x = .agg [.v (.int .i64 a), .v (.int .i64 b), .v (.int .i64 c), .v (.int .i64 e)]) (hy : ev tm y = .agg [.v (.int .i64 a), .v (.int .i64 b), .v (.int .i64 c), .v (.int .i64 e)]) :
    QV E bl tm ⟨d, .binOp .eql xT x y yT, ty, pos, af, gd⟩ (.v (.bool true)) [] [] :=
  QV_pure fun g w ρ hop => by
    have h1 := hop x (by simp [Op.operands])
    have h2 := hop y (by simp [Op.operands])
    rw [hx] at h1; rw [hy] at h2
    rw [rep] at h1 h2
    obtain ⟨xs, e1, h1⟩ := h1
    obtain ⟨ys, e2, h2⟩ := h2
    have := four_of h1
    subst this
    have := four_of h2
    subst this
    obtain ⟨fs, k1, k2, k3, k4⟩ := hf.ok
    have hp : E.P.underlying p = some (.struct (E.P.fieldsOf p)) := by rw [fieldsOf_eq k1]; exact k1
    have hu' : E.P.underlying xT = some (.struct (E.P.fieldsOf xT)) := by rw [fieldsOf_eq hu]; exact hu
    have one : ∀ u v : Int, (Op.equalIn 9999 p (.agg #[.int .i64 u, .int .i64 v]) (.agg #[.int .i64 u, .int .i64 v])).run E.P w = .ok true w := fun u v => by
      have hrun := run_flat (P := E.P) (w := w) (d := 9997) (g := g) (xs := #[.int .i64 u, .int .i64 v]) (ys := #[.int .i64 u, .int .i64 v]) (cs := [.v (.int .i64 u), .v (.int .i64 v)]) (ds := [.v (.int .i64 u), .v (.int .i64 v)]) (r := true) k4 (by simp [reps, rep]) (by simp [reps, rep]) (by simp [eqvO])
      rw [run_equalIn_agg w 9998 p _ _ hp k2, fieldsOf_eq k1, hrun]
    have hJ : (Op.eqFields 9999 #[.int .i64 a, .int .i64 b, .int .i64 c, .int .i64 e] #[.int .i64 a, .int .i64 b, .int .i64 c, .int .i64 e] [f0, f1]).run E.P w = .ok true w := by
      simp [Op.eqFields, n0, n1, part, t0, t1, ht.ag, ht.sz, o0, o1, one]
    refine ⟨.bool true, ?_, by simp only [rep]⟩
    simp only [execOp, e1, e2, Sem.run_bind, run_eqGuard_agg w .eql xT x y _ _ s2, Result.andThen_ok, run_eql_struct, run_equalIn_agg w 9999 xT _ _ hu' s1, fieldsOf_eq hu, hJ, Sem.run_pure]
end
end Go.Eng
