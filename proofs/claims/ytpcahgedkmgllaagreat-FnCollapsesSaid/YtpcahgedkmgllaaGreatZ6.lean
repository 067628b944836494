/- My walking engine, part 6: abstract values of Go, and the rules of a walk over them. No program in sight. -/
import Derived.Test.YtpcahgedkmgllaaGreatZ5
import Derived.Laws.StructEq
namespace Go.Eng
open Go Go.Conc

inductive FlatF (P : Program) : Nat → List Field → List Bool → Prop where
  | nil {i : Nat} : FlatF P i [] []
  | int {i : Nat} {f : Field} {fs : List Field} {ks : List Bool} {k : IntKind} (h1 : f.name ≠ "_") (h2 : f.offset = i) (h3 : TyOk P f.type false 1) (h4 : P.underlying f.type = some (.int k)) (hs : FlatF P (i + 1) fs ks) : FlatF P i (f :: fs) (true :: ks)
  | bool {i : Nat} {f : Field} {fs : List Field} {ks : List Bool} (h1 : f.name ≠ "_") (h2 : f.offset = i) (h3 : TyOk P f.type false 1) (h4 : P.underlying f.type = some .bool) (hs : FlatF P (i + 1) fs ks) : FlatF P i (f :: fs) (false :: ks)
class FlatOk (P : Program) (t : Nat) (ks : outParam (List Bool)) : Prop where
  ok : ∃ fs, P.underlying t = some (.struct fs) ∧ P.stoodInHeld t = false ∧ P.eqGuardType P.depth t = false ∧ FlatF P 0 fs.toList ks
theorem fieldsOf_eq {P : Program} {t : Nat} {fs : Array Field} (h : P.underlying t = some (.struct fs)) : P.fieldsOf t = fs := by
  simp only [Program.fieldsOf, h]
def eqvO : List Bool → List AV → List AV → Option Bool
  | [], _, _ => some true
  | true :: ks, .v (.int .i64 a) :: xs, .v (.int .i64 b) :: ys => match eqvO ks xs ys with | some r => some (a == b && r) | none => none
  | false :: ks, .v (.bool a) :: xs, .v (.bool b) :: ys => match eqvO ks xs ys with | some r => some (a == b && r) | none => none
  | _, _, _ => none
theorem run_flat {P : Program} {w : World} {d : Nat} {g : Gh} {xs ys : Array Value} : ∀ {i : Nat} {fs : List Field} {ks : List Bool} {cs ds : List AV} {r : Bool}, FlatF P i fs ks → reps g w cs (xs.toList.drop i) → reps g w ds (ys.toList.drop i) → eqvO ks cs ds = some r →
    (Op.eqFields (d + 1) xs ys fs).run P w = .ok r w
  | i, [], [], cs, ds, r, h, _, _, hr => by
    simp only [eqvO, Option.some.injEq] at hr
    subst hr
    simp [Op.eqFields]
  | i, f :: fs, true :: ks, cs, ds, r, h, h1, h2, hr => by
    cases h with
    | int k1 k2 k3 k4 k5 =>
      match cs, ds, hr with
      | .v (.int .i64 a) :: cs, .v (.int .i64 b) :: ds, hr =>
        simp only [eqvO] at hr
        split at hr
        · rename_i r' hr'
          cases hr
          simp only [reps, rep] at h1 h2
          obtain ⟨y, zs, e1, rfl, h1⟩ := h1
          obtain ⟨y', zs', e2, rfl, h2⟩ := h2
          have hx : xs[f.offset]? = some (.int .i64 a) := by rw [k2]; have := congrArg (·[0]?) e1; simpa using this
          have hy : ys[f.offset]? = some (.int .i64 b) := by rw [k2]; have := congrArg (·[0]?) e2; simpa using this
          have d1 : xs.toList.drop (i + 1) = zs := by rw [← List.drop_drop, e1]; rfl
          have d2 : ys.toList.drop (i + 1) = zs' := by rw [← List.drop_drop, e2]; rfl
          have ih := run_flat (w := w) (d := d) k5 (by rw [d1]; exact h1) (by rw [d2]; exact h2) hr'
          simp only [Op.eqFields, if_pos k1, Sem.run_bind, part, k3.ag, Result.andThen_ok, hx, hy]
          simp only [Bool.false_eq_true, if_false, Sem.run_pure, Result.andThen_ok, run_equalIn_int (w := w) (d := d) f.type .i64 _ a b k4]
          cases hab : (a == b)
          · simp
          · simpa using ih
        · cases hr
  | i, f :: fs, false :: ks, cs, ds, r, h, h1, h2, hr => by
    cases h with
    | bool k1 k2 k3 k4 k5 =>
      match cs, ds, hr with
      | .v (.bool a) :: cs, .v (.bool b) :: ds, hr =>
        simp only [eqvO] at hr
        split at hr
        · rename_i r' hr'
          cases hr
          simp only [reps, rep] at h1 h2
          obtain ⟨y, zs, e1, rfl, h1⟩ := h1
          obtain ⟨y', zs', e2, rfl, h2⟩ := h2
          have hx : xs[f.offset]? = some (.bool a) := by rw [k2]; have := congrArg (·[0]?) e1; simpa using this
          have hy : ys[f.offset]? = some (.bool b) := by rw [k2]; have := congrArg (·[0]?) e2; simpa using this
          have d1 : xs.toList.drop (i + 1) = zs := by rw [← List.drop_drop, e1]; rfl
          have d2 : ys.toList.drop (i + 1) = zs' := by rw [← List.drop_drop, e2]; rfl
          have ih := run_flat (w := w) (d := d) k5 (by rw [d1]; exact h1) (by rw [d2]; exact h2) hr'
          simp only [Op.eqFields, if_pos k1, Sem.run_bind, part, k3.ag, Result.andThen_ok, hx, hy]
          simp only [Bool.false_eq_true, if_false, Sem.run_pure, Result.andThen_ok, run_equalIn_bool' (w := w) (d := d) f.type a b k4]
          cases hab : (a == b)
          · simp
          · simpa using ih
        · cases hr
theorem qt_program : Qt program := fun _ _ _ => rfl
theorem qt_isAgg (t : TypeId) : Qt (isAgg t) := by
  unfold isAgg
  repeat' (first | exact qt_pure _ | exact qt_program | exact qt_underlying _ | exact qt_typeInfo _ | refine qt_bind ?_ (fun _ => ?_) | split)
theorem qt_part (t : TypeId) (cs : Array Value) (o : Nat) : Qt (part t cs o) := by
  unfold part
  repeat' (first | exact qt_pure _ | exact qt_stuck _ | exact qt_isAgg _ | exact qt_typeInfo _ | exact qt_sizeOf _ | refine qt_bind ?_ (fun _ => ?_) | split)
theorem ev_equalIn_struct {P : Program} (w : World) (es : Array Event) (d : Nat) (t : TypeId) (xs ys : Array Value) (ht : P.underlying t = some (.struct (P.fieldsOf t))) (hp : P.stoodInHeld t = false) :
    (Op.equalIn (d + 1) t (.agg xs) (.agg ys)).events P w es = (Op.eqFields d xs ys (P.fieldsOf t).toList).events P w es := by
  simp only [Op.equalIn, Sem.events_bind, run_underlying ht, Result.evThen_ok, events_underlying, run_program, events_program, hp, Bool.false_eq_true, if_false]
  rw [← Array.forIn_toList]
  generalize (P.fieldsOf t).toList = fs
  clear ht
  induction fs generalizing w es with
  | nil => simp [Op.eqFields]
  | cons f fs ih =>
    simp only [List.forIn_cons, Op.eqFields]
    by_cases hf : f.name ≠ "_"
    · simp only [hf, ne_eq, not_false_eq_true, if_true, Sem.events_bind, Sem.run_bind, qt_part _ _ _ P]
      generalize (part f.type xs f.offset).run P w = r1
      cases r1 with
      | ok a w1 =>
        simp only [Result.andThen_ok, Result.evThen_ok]
        generalize (part f.type ys f.offset).run P w1 = r2
        cases r2 with
        | ok b w2 =>
          simp only [Result.andThen_ok, Result.evThen_ok]
          generalize (Op.equalIn d f.type a b).run P w2 = r3
          cases r3 with
          | ok r w3 =>
            cases r
            · simp
            · simpa using ih w3 _
          | halt x w3 => simp [Result.andThen, Result.evThen]
        | halt x w2 => simp [Result.andThen, Result.evThen]
      | halt x w1 => simp [Result.andThen, Result.evThen]
    · simp only [hf, if_false]
      simpa using ih w es
theorem ev_flat {P : Program} {w : World} {d : Nat} {g : Gh} {xs ys : Array Value} {es : Array Event} : ∀ {i : Nat} {fs : List Field} {ks : List Bool} {cs ds : List AV} {r : Bool}, FlatF P i fs ks → reps g w cs (xs.toList.drop i) → reps g w ds (ys.toList.drop i) → eqvO ks cs ds = some r →
    (Op.eqFields (d + 1) xs ys fs).events P w es = es
  | i, [], [], cs, ds, r, h, _, _, hr => by
    simp [Op.eqFields]
  | i, f :: fs, true :: ks, cs, ds, r, h, h1, h2, hr => by
    cases h with
    | int k1 k2 k3 k4 k5 =>
      match cs, ds, hr with
      | .v (.int .i64 a) :: cs, .v (.int .i64 b) :: ds, hr =>
        simp only [eqvO] at hr
        split at hr
        · rename_i r' hr'
          cases hr
          simp only [reps, rep] at h1 h2
          obtain ⟨y, zs, e1, rfl, h1⟩ := h1
          obtain ⟨y', zs', e2, rfl, h2⟩ := h2
          have hx : xs[f.offset]? = some (.int .i64 a) := by rw [k2]; have := congrArg (·[0]?) e1; simpa using this
          have hy : ys[f.offset]? = some (.int .i64 b) := by rw [k2]; have := congrArg (·[0]?) e2; simpa using this
          have d1 : xs.toList.drop (i + 1) = zs := by rw [← List.drop_drop, e1]; rfl
          have d2 : ys.toList.drop (i + 1) = zs' := by rw [← List.drop_drop, e2]; rfl
          have ih := ev_flat (w := w) (d := d) (es := es) k5 (by rw [d1]; exact h1) (by rw [d2]; exact h2) hr'
          have he : (Op.equalIn (d + 1) f.type (.int .i64 a) (.int .i64 b)).events P w es = es := by simp [Op.equalIn, run_underlying k4]
          simp only [Op.eqFields, if_pos k1, Sem.events_bind, Sem.run_bind, part, k3.ag, Result.andThen_ok, Result.evThen_ok, hx, hy]
          simp only [Bool.false_eq_true, if_false, Sem.run_pure, Sem.events_pure, Result.evThen_ok, run_equalIn_int (w := w) (d := d) f.type .i64 _ a b k4]
          cases hab : (a == b)
          · simp [he]
          · simpa [he] using ih
        · cases hr
  | i, f :: fs, false :: ks, cs, ds, r, h, h1, h2, hr => by
    cases h with
    | bool k1 k2 k3 k4 k5 =>
      match cs, ds, hr with
      | .v (.bool a) :: cs, .v (.bool b) :: ds, hr =>
        simp only [eqvO] at hr
        split at hr
        · rename_i r' hr'
          cases hr
          simp only [reps, rep] at h1 h2
          obtain ⟨y, zs, e1, rfl, h1⟩ := h1
          obtain ⟨y', zs', e2, rfl, h2⟩ := h2
          have hx : xs[f.offset]? = some (.bool a) := by rw [k2]; have := congrArg (·[0]?) e1; simpa using this
          have hy : ys[f.offset]? = some (.bool b) := by rw [k2]; have := congrArg (·[0]?) e2; simpa using this
          have d1 : xs.toList.drop (i + 1) = zs := by rw [← List.drop_drop, e1]; rfl
          have d2 : ys.toList.drop (i + 1) = zs' := by rw [← List.drop_drop, e2]; rfl
          have ih := ev_flat (w := w) (d := d) (es := es) k5 (by rw [d1]; exact h1) (by rw [d2]; exact h2) hr'
          have he : (Op.equalIn (d + 1) f.type (.bool a) (.bool b)).events P w es = es := by simp [Op.equalIn, run_underlying k4]
          simp only [Op.eqFields, if_pos k1, Sem.events_bind, Sem.run_bind, part, k3.ag, Result.andThen_ok, Result.evThen_ok, hx, hy]
          simp only [Bool.false_eq_true, if_false, Sem.run_pure, Sem.events_pure, Result.evThen_ok, run_equalIn_bool' (w := w) (d := d) f.type a b k4]
          cases hab : (a == b)
          · simp [he]
          · simpa [he] using ih
        · cases hr
theorem ev_eqA {P : Program} {w : World} {ρ : Operand → Value} {xT yT : TypeId} {x y : Operand} {xs ys : Array Value} {op : BinOp} {d : Option Tmp} {ty : TypeId} {pos : String} {af : Array Edge} {gd : Option (Nat × Bool)} (f1 : P.underlying xT = some (.struct (P.fieldsOf xT))) (f2 : P.stoodInHeld xT = false) (f3 : P.eqGuardType P.depth xT = false) (e1 : ρ x = .agg xs) (e2 : ρ y = .agg ys)
    (h : (Op.eqFields 9999 xs ys (P.fieldsOf xT).toList).events P w #[] = #[]) (hop : op = .eql ∨ op = .neq) : (execOp ρ ⟨d, .binOp op xT x y yT, ty, pos, af, gd⟩).events P w #[] = #[] := by
  have hg : (eqGuard op xT x y (.agg xs) (.agg ys)).events P w #[] = #[] := by
    rcases hop with rfl | rfl <;> simp [eqGuard, run_program, f3]
  have hb : (binOp op xT (.agg xs) (.agg ys)).events P w #[] = #[] := by
    have := ev_equalIn_struct (P := P) w #[] 9999 xT xs ys f1 f2
    rw [h] at this
    rcases hop with rfl | rfl <;> simp only [binOp, Op.equal, Op.maxDepth, Sem.events_bind, this] <;> (try cases (Op.equalIn 10000 xT (.agg xs) (.agg ys)).run P w) <;> rfl
  simp only [execOp, e1, e2, Sem.events_bind, run_eqGuard_agg w op xT x y xs ys f3, Result.evThen_ok, hg, hb]
  cases (do eqGuard op xT x y (.agg xs) (.agg ys); binOp op xT (.agg xs) (.agg ys) : Sem Value).run P w <;> rfl
section
variable {E : En} {bl : List (Nat × List AV)} {tm : List (Nat × AV)} {d : Option Tmp} {ty : TypeId} {pos : String} {af : Array Edge} {gd : Option (Nat × Bool)}
theorem QV_eqA {xT yT : TypeId} {x y : Operand} {ks : List Bool} {cs ds : List AV} {r : Bool} [hf : FlatOk E.P xT ks] (hx : ev tm x = .agg cs) (hy : ev tm y = .agg ds) (hr : eqvO ks cs ds = some r) : QV E bl tm ⟨d, .binOp .eql xT x y yT, ty, pos, af, gd⟩ (.v (.bool r)) [] [] :=
  QV_pure fun g w ρ hop => by
    have h1 := hop x (by simp [Op.operands])
    have h2 := hop y (by simp [Op.operands])
    rw [hx] at h1; rw [hy] at h2
    simp only [rep] at h1 h2
    obtain ⟨xs, e1, h1⟩ := h1
    obtain ⟨ys, e2, h2⟩ := h2
    obtain ⟨fs, f1, f2, f3, f4⟩ := hf.ok
    have f1' : E.P.underlying xT = some (.struct (E.P.fieldsOf xT)) := by rw [fieldsOf_eq f1]; exact f1
    have hrun := run_flat (P := E.P) (w := w) (d := 9998) f4 (by simpa using h1) (by simpa using h2) hr
    have hev := ev_flat (P := E.P) (w := w) (d := 9998) (es := #[]) f4 (by simpa using h1) (by simpa using h2) hr
    refine ⟨.bool r, ?_, evR_of (ev_eqA f1' f2 f3 e1 e2 (fieldsOf_eq f1 ▸ hev) (.inl rfl)), by simp only [rep]⟩
    simp only [execOp, e1, e2, Sem.run_bind, run_eqGuard_agg w .eql xT x y xs ys f3, Result.andThen_ok, run_eql_struct, run_equalIn_agg w 9999 xT xs ys f1' f2, fieldsOf_eq f1, hrun, Sem.run_pure]
end
end Go.Eng
