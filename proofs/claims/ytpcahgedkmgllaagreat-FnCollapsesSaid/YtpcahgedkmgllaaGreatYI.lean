/- What the seat's types are: cells, fields, zeros; which functions have bodies. -/
import Derived.Test.YtpcahgedkmgllaaGreatZ5
import Derived.Test.YtpcahgedkmgllaaGreatRows
namespace Go.Proofs.YtpcahgedkmgllaaGreat
open Go.Eng

theorem slInfo {P : Program} {T : Nat} {z : Value} {e by_ : Nat} (h : (P.info? T).map (fun i => (i.zero, i.size, i.bytes)) = some (some z, e, by_)) (hz : z.cells.size = e) :
    ∃ i z, P.info? T = some i ∧ i.zero = some z ∧ i.size = e ∧ i.bytes = by_ ∧ z.cells.size = e := by
  cases hi : P.info? T with
  | none => rw [hi] at h; simp at h
  | some i =>
    rw [hi] at h
    simp only [Option.map_some, Option.some.injEq, Prod.mk.injEq] at h
    exact ⟨i, z, rfl, h.1, h.2.1, h.2.2, hz⟩
instance ty3 : TyOk Tryz.prog 3 false 1 := ⟨fun _ => by kernel_rfl, fun _ => by kernel_rfl⟩
instance ze3 : ZeroOk Tryz.prog 3 (.int .i64 0) := ⟨fun _ => by kernel_rfl⟩
instance ty4 : TyOk Tryz.prog 4 false 1 := ⟨fun _ => by kernel_rfl, fun _ => by kernel_rfl⟩
instance ze4 : ZeroOk Tryz.prog 4 (.bool false) := ⟨fun _ => by kernel_rfl⟩
instance ty5 : TyOk Tryz.prog 5 false 1 := ⟨fun _ => by kernel_rfl, fun _ => by kernel_rfl⟩
instance ze5 : ZeroOk Tryz.prog 5 (.int .u8 0) := ⟨fun _ => by kernel_rfl⟩
instance ty22 : TyOk Tryz.prog 22 false 1 := ⟨fun _ => by kernel_rfl, fun _ => by kernel_rfl⟩
instance ze22 : ZeroOk Tryz.prog 22 (.slice none 0 0) := ⟨fun _ => by kernel_rfl⟩
instance ty24 : TyOk Tryz.prog 24 false 1 := ⟨fun _ => by kernel_rfl, fun _ => by kernel_rfl⟩
instance ze24 : ZeroOk Tryz.prog 24 (.slice none 0 0) := ⟨fun _ => by kernel_rfl⟩
instance ty26 : TyOk Tryz.prog 26 true 1 := ⟨fun _ => by kernel_rfl, fun _ => by kernel_rfl⟩
instance ze26 : ZeroOk Tryz.prog 26 (.agg #[.slice none 0 0]) := ⟨fun _ => by kernel_rfl⟩
instance ty27 : TyOk Tryz.prog 27 false 1 := ⟨fun _ => by kernel_rfl, fun _ => by kernel_rfl⟩
instance ze27 : ZeroOk Tryz.prog 27 (.slice none 0 0) := ⟨fun _ => by kernel_rfl⟩
instance ty31 : TyOk Tryz.prog 31 false 1 := ⟨fun _ => by kernel_rfl, fun _ => by kernel_rfl⟩
instance ze31 : ZeroOk Tryz.prog 31 (.slice none 0 0) := ⟨fun _ => by kernel_rfl⟩
instance ty33 : TyOk Tryz.prog 33 true 2 := ⟨fun _ => by kernel_rfl, fun _ => by kernel_rfl⟩
instance ze33 : ZeroOk Tryz.prog 33 (.agg #[.slice none 0 0, .slice none 0 0]) := ⟨fun _ => by kernel_rfl⟩
instance ty36 : TyOk Tryz.prog 36 false 1 := ⟨fun _ => by kernel_rfl, fun _ => by kernel_rfl⟩
instance ze36 : ZeroOk Tryz.prog 36 (.slice none 0 0) := ⟨fun _ => by kernel_rfl⟩
instance ty46 : TyOk Tryz.prog 46 true 3 := ⟨fun _ => by kernel_rfl, fun _ => by kernel_rfl⟩
instance ze46 : ZeroOk Tryz.prog 46 (.agg #[.int .i64 0, .int .i64 0, .int .i64 0]) := ⟨fun _ => by kernel_rfl⟩
instance ty49 : TyOk Tryz.prog 49 false 1 := ⟨fun _ => by kernel_rfl, fun _ => by kernel_rfl⟩
instance ze49 : ZeroOk Tryz.prog 49 (.slice none 0 0) := ⟨fun _ => by kernel_rfl⟩
instance ty52 : TyOk Tryz.prog 52 false 1 := ⟨fun _ => by kernel_rfl, fun _ => by kernel_rfl⟩
instance ze52 : ZeroOk Tryz.prog 52 (.slice none 0 0) := ⟨fun _ => by kernel_rfl⟩
instance ty67 : TyOk Tryz.prog 67 true 2 := ⟨fun _ => by kernel_rfl, fun _ => by kernel_rfl⟩
instance ze67 : ZeroOk Tryz.prog 67 (.agg #[.int .i64 0, .int .i64 0]) := ⟨fun _ => by kernel_rfl⟩
instance ty69 : TyOk Tryz.prog 69 true 4 := ⟨fun _ => by kernel_rfl, fun _ => by kernel_rfl⟩
instance ze69 : ZeroOk Tryz.prog 69 (.agg #[.int .i64 0, .int .i64 0, .int .i64 0, .int .i64 0]) := ⟨fun _ => by kernel_rfl⟩
instance ty70 : TyOk Tryz.prog 70 false 1 := ⟨fun _ => by kernel_rfl, fun _ => by kernel_rfl⟩
instance ze70 : ZeroOk Tryz.prog 70 (.slice none 0 0) := ⟨fun _ => by kernel_rfl⟩
instance ty72 : TyOk Tryz.prog 72 true 1 := ⟨fun _ => by kernel_rfl, fun _ => by kernel_rfl⟩
instance ze72 : ZeroOk Tryz.prog 72 (.agg #[.slice none 0 0]) := ⟨fun _ => by kernel_rfl⟩
instance ty78 : TyOk Tryz.prog 78 true 2 := ⟨fun _ => by kernel_rfl, fun _ => by kernel_rfl⟩
instance ze78 : ZeroOk Tryz.prog 78 (.agg #[.int .i64 0, .int .i64 0]) := ⟨fun _ => by kernel_rfl⟩
instance ty80 : TyOk Tryz.prog 80 true 4 := ⟨fun _ => by kernel_rfl, fun _ => by kernel_rfl⟩
instance ze80 : ZeroOk Tryz.prog 80 (.agg #[.int .i64 0, .int .i64 0, .int .i64 0, .int .i64 0]) := ⟨fun _ => by kernel_rfl⟩
instance ty91 : TyOk Tryz.prog 91 false 1 := ⟨fun _ => by kernel_rfl, fun _ => by kernel_rfl⟩
instance ze91 : ZeroOk Tryz.prog 91 (.slice none 0 0) := ⟨fun _ => by kernel_rfl⟩
instance ty96 : TyOk Tryz.prog 96 false 1 := ⟨fun _ => by kernel_rfl, fun _ => by kernel_rfl⟩
instance ze96 : ZeroOk Tryz.prog 96 (.int .u64 0) := ⟨fun _ => by kernel_rfl⟩
instance ty105 : TyOk Tryz.prog 105 true 4 := ⟨fun _ => by kernel_rfl, fun _ => by kernel_rfl⟩
instance ze105 : ZeroOk Tryz.prog 105 (.agg #[.int .i64 0, .int .i64 0, .int .i64 0, .int .i64 0]) := ⟨fun _ => by kernel_rfl⟩
instance zc3 : ZcOk Tryz.prog 3 [.v (.int .i64 0)] := ⟨_, ze3, rfl⟩
instance zc4 : ZcOk Tryz.prog 4 [.v (.bool false)] := ⟨_, ze4, rfl⟩
instance zc5 : ZcOk Tryz.prog 5 [.v (.int .u8 0)] := ⟨_, ze5, rfl⟩
instance zc22 : ZcOk Tryz.prog 22 [.v (.slice none 0 0)] := ⟨_, ze22, rfl⟩
instance zc24 : ZcOk Tryz.prog 24 [.v (.slice none 0 0)] := ⟨_, ze24, rfl⟩
instance fl26_0 : FldOk Tryz.prog 26 0 0 false 1 := ⟨⟨_, _, Tryz.underlying26, rfl, rfl, ty24⟩, by decide⟩
instance zc26 : ZcOk Tryz.prog 26 [.v (.slice none 0 0)] := ⟨_, ze26, rfl⟩
instance bl26 : BldOk Tryz.prog 26 [.slice none 0 0] [(0, 1)] := ⟨_, _, ze26.zero, rfl, Tryz.underlying26, fun _ => by kernel_rfl⟩
instance zc27 : ZcOk Tryz.prog 27 [.v (.slice none 0 0)] := ⟨_, ze27, rfl⟩
instance zc31 : ZcOk Tryz.prog 31 [.v (.slice none 0 0)] := ⟨_, ze31, rfl⟩
instance fl33_0 : FldOk Tryz.prog 33 0 0 false 1 := ⟨⟨_, _, Tryz.underlying33, rfl, rfl, ty31⟩, by decide⟩
instance fl33_1 : FldOk Tryz.prog 33 1 1 false 1 := ⟨⟨_, _, Tryz.underlying33, rfl, rfl, ty31⟩, by decide⟩
instance zc33 : ZcOk Tryz.prog 33 [.v (.slice none 0 0), .v (.slice none 0 0)] := ⟨_, ze33, rfl⟩
instance bl33 : BldOk Tryz.prog 33 [.slice none 0 0, .slice none 0 0] [(0, 1), (1, 1)] := ⟨_, _, ze33.zero, rfl, Tryz.underlying33, fun _ => by kernel_rfl⟩
instance zc36 : ZcOk Tryz.prog 36 [.v (.slice none 0 0)] := ⟨_, ze36, rfl⟩
instance fl46_0 : FldOk Tryz.prog 46 0 0 false 1 := ⟨⟨_, _, Tryz.underlying46, rfl, rfl, ty3⟩, by decide⟩
instance fl46_1 : FldOk Tryz.prog 46 1 1 false 1 := ⟨⟨_, _, Tryz.underlying46, rfl, rfl, ty3⟩, by decide⟩
instance fl46_2 : FldOk Tryz.prog 46 2 2 false 1 := ⟨⟨_, _, Tryz.underlying46, rfl, rfl, ty3⟩, by decide⟩
instance zc46 : ZcOk Tryz.prog 46 [.v (.int .i64 0), .v (.int .i64 0), .v (.int .i64 0)] := ⟨_, ze46, rfl⟩
instance bl46 : BldOk Tryz.prog 46 [.int .i64 0, .int .i64 0, .int .i64 0] [(0, 1), (1, 1), (2, 1)] := ⟨_, _, ze46.zero, rfl, Tryz.underlying46, fun _ => by kernel_rfl⟩
instance zc49 : ZcOk Tryz.prog 49 [.v (.slice none 0 0)] := ⟨_, ze49, rfl⟩
instance zc52 : ZcOk Tryz.prog 52 [.v (.slice none 0 0)] := ⟨_, ze52, rfl⟩
instance fl67_0 : FldOk Tryz.prog 67 0 0 false 1 := ⟨⟨_, _, Tryz.underlying67, rfl, rfl, ty3⟩, by decide⟩
instance fl67_1 : FldOk Tryz.prog 67 1 1 false 1 := ⟨⟨_, _, Tryz.underlying67, rfl, rfl, ty3⟩, by decide⟩
instance zc67 : ZcOk Tryz.prog 67 [.v (.int .i64 0), .v (.int .i64 0)] := ⟨_, ze67, rfl⟩
instance bl67 : BldOk Tryz.prog 67 [.int .i64 0, .int .i64 0] [(0, 1), (1, 1)] := ⟨_, _, ze67.zero, rfl, Tryz.underlying67, fun _ => by kernel_rfl⟩
instance fl69_0 : FldOk Tryz.prog 69 0 0 true 2 := ⟨⟨_, _, Tryz.underlying69, rfl, rfl, ty67⟩, by decide⟩
instance fl69_1 : FldOk Tryz.prog 69 1 2 true 2 := ⟨⟨_, _, Tryz.underlying69, rfl, rfl, ty67⟩, by decide⟩
instance zc69 : ZcOk Tryz.prog 69 [.v (.int .i64 0), .v (.int .i64 0), .v (.int .i64 0), .v (.int .i64 0)] := ⟨_, ze69, rfl⟩
instance bl69 : BldOk Tryz.prog 69 [.int .i64 0, .int .i64 0, .int .i64 0, .int .i64 0] [(0, 2), (2, 2)] := ⟨_, _, ze69.zero, rfl, Tryz.underlying69, fun _ => by kernel_rfl⟩
instance zc70 : ZcOk Tryz.prog 70 [.v (.slice none 0 0)] := ⟨_, ze70, rfl⟩
instance fl72_0 : FldOk Tryz.prog 72 0 0 false 1 := ⟨⟨_, _, Tryz.underlying72, rfl, rfl, ty70⟩, by decide⟩
instance zc72 : ZcOk Tryz.prog 72 [.v (.slice none 0 0)] := ⟨_, ze72, rfl⟩
instance bl72 : BldOk Tryz.prog 72 [.slice none 0 0] [(0, 1)] := ⟨_, _, ze72.zero, rfl, Tryz.underlying72, fun _ => by kernel_rfl⟩
instance fl78_0 : FldOk Tryz.prog 78 0 0 false 1 := ⟨⟨_, _, Tryz.underlying78, rfl, rfl, ty3⟩, by decide⟩
instance fl78_1 : FldOk Tryz.prog 78 1 1 false 1 := ⟨⟨_, _, Tryz.underlying78, rfl, rfl, ty3⟩, by decide⟩
instance zc78 : ZcOk Tryz.prog 78 [.v (.int .i64 0), .v (.int .i64 0)] := ⟨_, ze78, rfl⟩
instance bl78 : BldOk Tryz.prog 78 [.int .i64 0, .int .i64 0] [(0, 1), (1, 1)] := ⟨_, _, ze78.zero, rfl, Tryz.underlying78, fun _ => by kernel_rfl⟩
instance fl80_0 : FldOk Tryz.prog 80 0 0 false 1 := ⟨⟨_, _, Tryz.underlying80, rfl, rfl, ty3⟩, by decide⟩
instance fl80_1 : FldOk Tryz.prog 80 1 1 false 1 := ⟨⟨_, _, Tryz.underlying80, rfl, rfl, ty3⟩, by decide⟩
instance fl80_2 : FldOk Tryz.prog 80 2 2 false 1 := ⟨⟨_, _, Tryz.underlying80, rfl, rfl, ty3⟩, by decide⟩
instance fl80_3 : FldOk Tryz.prog 80 3 3 false 1 := ⟨⟨_, _, Tryz.underlying80, rfl, rfl, ty3⟩, by decide⟩
instance zc80 : ZcOk Tryz.prog 80 [.v (.int .i64 0), .v (.int .i64 0), .v (.int .i64 0), .v (.int .i64 0)] := ⟨_, ze80, rfl⟩
instance bl80 : BldOk Tryz.prog 80 [.int .i64 0, .int .i64 0, .int .i64 0, .int .i64 0] [(0, 1), (1, 1), (2, 1), (3, 1)] := ⟨_, _, ze80.zero, rfl, Tryz.underlying80, fun _ => by kernel_rfl⟩
instance zc91 : ZcOk Tryz.prog 91 [.v (.slice none 0 0)] := ⟨_, ze91, rfl⟩
instance zc96 : ZcOk Tryz.prog 96 [.v (.int .u64 0)] := ⟨_, ze96, rfl⟩
instance fl105_0 : FldOk Tryz.prog 105 0 0 false 1 := ⟨⟨_, _, Tryz.underlying105, rfl, rfl, ty3⟩, by decide⟩
instance fl105_1 : FldOk Tryz.prog 105 1 1 false 1 := ⟨⟨_, _, Tryz.underlying105, rfl, rfl, ty3⟩, by decide⟩
instance fl105_2 : FldOk Tryz.prog 105 2 2 false 1 := ⟨⟨_, _, Tryz.underlying105, rfl, rfl, ty3⟩, by decide⟩
instance fl105_3 : FldOk Tryz.prog 105 3 3 false 1 := ⟨⟨_, _, Tryz.underlying105, rfl, rfl, ty3⟩, by decide⟩
instance zc105 : ZcOk Tryz.prog 105 [.v (.int .i64 0), .v (.int .i64 0), .v (.int .i64 0), .v (.int .i64 0)] := ⟨_, ze105, rfl⟩
instance bl105 : BldOk Tryz.prog 105 [.int .i64 0, .int .i64 0, .int .i64 0, .int .i64 0] [(0, 1), (1, 1), (2, 1), (3, 1)] := ⟨_, _, ze105.zero, rfl, Tryz.underlying105, fun _ => by kernel_rfl⟩
theorem in22 : (Tryz.prog.info? 5).map (fun i => (i.zero, i.size, i.bytes)) = some (some (.int .u8 0), 1, 1) := by kernel_rfl
instance sl22 : SlOk Tryz.prog 22 5 1 1 := ⟨Tryz.underlying22, slInfo in22 rfl, by decide⟩
instance zs22 : ZSlOk Tryz.prog 22 5 1 1 [.int .u8 0] := ⟨sl22, _, ze5.zero, rfl⟩
theorem in24 : (Tryz.prog.info? 69).map (fun i => (i.zero, i.size, i.bytes)) = some (some (.agg #[.int .i64 0, .int .i64 0, .int .i64 0, .int .i64 0]), 4, 32) := by kernel_rfl
instance sl24 : SlOk Tryz.prog 24 69 4 32 := ⟨Tryz.underlying24, slInfo in24 rfl, by decide⟩
instance zs24 : ZSlOk Tryz.prog 24 69 4 32 [.int .i64 0, .int .i64 0, .int .i64 0, .int .i64 0] := ⟨sl24, _, ze69.zero, rfl⟩
theorem in27 : (Tryz.prog.info? 46).map (fun i => (i.zero, i.size, i.bytes)) = some (some (.agg #[.int .i64 0, .int .i64 0, .int .i64 0]), 3, 24) := by kernel_rfl
instance sl27 : SlOk Tryz.prog 27 46 3 24 := ⟨Tryz.underlying27, slInfo in27 rfl, by decide⟩
instance zs27 : ZSlOk Tryz.prog 27 46 3 24 [.int .i64 0, .int .i64 0, .int .i64 0] := ⟨sl27, _, ze46.zero, rfl⟩
theorem in31 : (Tryz.prog.info? 3).map (fun i => (i.zero, i.size, i.bytes)) = some (some (.int .i64 0), 1, 8) := by kernel_rfl
instance sl31 : SlOk Tryz.prog 31 3 1 8 := ⟨Tryz.underlying31, slInfo in31 rfl, by decide⟩
instance zs31 : ZSlOk Tryz.prog 31 3 1 8 [.int .i64 0] := ⟨sl31, _, ze3.zero, rfl⟩
theorem in36 : (Tryz.prog.info? 80).map (fun i => (i.zero, i.size, i.bytes)) = some (some (.agg #[.int .i64 0, .int .i64 0, .int .i64 0, .int .i64 0]), 4, 32) := by kernel_rfl
instance sl36 : SlOk Tryz.prog 36 80 4 32 := ⟨Tryz.underlying36, slInfo in36 rfl, by decide⟩
instance zs36 : ZSlOk Tryz.prog 36 80 4 32 [.int .i64 0, .int .i64 0, .int .i64 0, .int .i64 0] := ⟨sl36, _, ze80.zero, rfl⟩
theorem in49 : (Tryz.prog.info? 105).map (fun i => (i.zero, i.size, i.bytes)) = some (some (.agg #[.int .i64 0, .int .i64 0, .int .i64 0, .int .i64 0]), 4, 32) := by kernel_rfl
instance sl49 : SlOk Tryz.prog 49 105 4 32 := ⟨Tryz.underlying49, slInfo in49 rfl, by decide⟩
instance zs49 : ZSlOk Tryz.prog 49 105 4 32 [.int .i64 0, .int .i64 0, .int .i64 0, .int .i64 0] := ⟨sl49, _, ze105.zero, rfl⟩
theorem in52 : (Tryz.prog.info? 78).map (fun i => (i.zero, i.size, i.bytes)) = some (some (.agg #[.int .i64 0, .int .i64 0]), 2, 16) := by kernel_rfl
instance sl52 : SlOk Tryz.prog 52 78 2 16 := ⟨Tryz.underlying52, slInfo in52 rfl, by decide⟩
instance zs52 : ZSlOk Tryz.prog 52 78 2 16 [.int .i64 0, .int .i64 0] := ⟨sl52, _, ze78.zero, rfl⟩
theorem in70 : (Tryz.prog.info? 67).map (fun i => (i.zero, i.size, i.bytes)) = some (some (.agg #[.int .i64 0, .int .i64 0]), 2, 16) := by kernel_rfl
instance sl70 : SlOk Tryz.prog 70 67 2 16 := ⟨Tryz.underlying70, slInfo in70 rfl, by decide⟩
instance zs70 : ZSlOk Tryz.prog 70 67 2 16 [.int .i64 0, .int .i64 0] := ⟨sl70, _, ze67.zero, rfl⟩
theorem in91 : (Tryz.prog.info? 49).map (fun i => (i.zero, i.size, i.bytes)) = some (some (.slice none 0 0), 1, 24) := by kernel_rfl
instance sl91 : SlOk Tryz.prog 91 49 1 24 := ⟨Tryz.underlying91, slInfo in91 rfl, by decide⟩
instance zs91 : ZSlOk Tryz.prog 91 49 1 24 [.slice none 0 0] := ⟨sl91, _, ze49.zero, rfl⟩
instance fn3 : FnOk Tryz.prog 3 := ⟨Tryz.f3, Tryz.func3, by kernel_rfl, by kernel_rfl⟩
instance fn4 : FnOk Tryz.prog 4 := ⟨Tryz.f4, Tryz.func4, by kernel_rfl, by kernel_rfl⟩
instance fn5 : FnOk Tryz.prog 5 := ⟨Tryz.f5, Tryz.func5, by kernel_rfl, by kernel_rfl⟩
instance fn6 : FnOk Tryz.prog 6 := ⟨Tryz.f6, Tryz.func6, by kernel_rfl, by kernel_rfl⟩
instance fn7 : FnOk Tryz.prog 7 := ⟨Tryz.f7, Tryz.func7, by kernel_rfl, by kernel_rfl⟩
instance fn8 : FnOk Tryz.prog 8 := ⟨Tryz.f8, Tryz.func8, by kernel_rfl, by kernel_rfl⟩
instance fn9 : FnOk Tryz.prog 9 := ⟨Tryz.f9, Tryz.func9, by kernel_rfl, by kernel_rfl⟩
instance fn10 : FnOk Tryz.prog 10 := ⟨Tryz.f10, Tryz.func10, by kernel_rfl, by kernel_rfl⟩
instance fn11 : FnOk Tryz.prog 11 := ⟨Tryz.f11, Tryz.func11, by kernel_rfl, by kernel_rfl⟩
instance fn12 : FnOk Tryz.prog 12 := ⟨Tryz.f12, Tryz.func12, by kernel_rfl, by kernel_rfl⟩
instance fn13 : FnOk Tryz.prog 13 := ⟨Tryz.f13, Tryz.func13, by kernel_rfl, by kernel_rfl⟩
instance fn14 : FnOk Tryz.prog 14 := ⟨Tryz.f14, Tryz.func14, by kernel_rfl, by kernel_rfl⟩
instance fn15 : FnOk Tryz.prog 15 := ⟨Tryz.f15, Tryz.func15, by kernel_rfl, by kernel_rfl⟩
instance fn16 : FnOk Tryz.prog 16 := ⟨Tryz.f16, Tryz.func16, by kernel_rfl, by kernel_rfl⟩
instance fn17 : FnOk Tryz.prog 17 := ⟨Tryz.f17, Tryz.func17, by kernel_rfl, by kernel_rfl⟩
instance fn18 : FnOk Tryz.prog 18 := ⟨Tryz.f18, Tryz.func18, by kernel_rfl, by kernel_rfl⟩
instance fn19 : FnOk Tryz.prog 19 := ⟨Tryz.f19, Tryz.func19, by kernel_rfl, by kernel_rfl⟩
instance fn20 : FnOk Tryz.prog 20 := ⟨Tryz.f20, Tryz.func20, by kernel_rfl, by kernel_rfl⟩
instance fn21 : FnOk Tryz.prog 21 := ⟨Tryz.f21, Tryz.func21, by kernel_rfl, by kernel_rfl⟩
instance fn22 : FnOk Tryz.prog 22 := ⟨Tryz.f22, Tryz.func22, by kernel_rfl, by kernel_rfl⟩
instance fn23 : FnOk Tryz.prog 23 := ⟨Tryz.f23, Tryz.func23, by kernel_rfl, by kernel_rfl⟩
instance fn24 : FnOk Tryz.prog 24 := ⟨Tryz.f24, Tryz.func24, by kernel_rfl, by kernel_rfl⟩
instance fn25 : FnOk Tryz.prog 25 := ⟨Tryz.f25, Tryz.func25, by kernel_rfl, by kernel_rfl⟩
instance fn26 : FnOk Tryz.prog 26 := ⟨Tryz.f26, Tryz.func26, by kernel_rfl, by kernel_rfl⟩
instance fn27 : FnOk Tryz.prog 27 := ⟨Tryz.f27, Tryz.func27, by kernel_rfl, by kernel_rfl⟩
instance fn28 : FnOk Tryz.prog 28 := ⟨Tryz.f28, Tryz.func28, by kernel_rfl, by kernel_rfl⟩
instance fn29 : FnOk Tryz.prog 29 := ⟨Tryz.f29, Tryz.func29, by kernel_rfl, by kernel_rfl⟩
instance fn30 : FnOk Tryz.prog 30 := ⟨Tryz.f30, Tryz.func30, by kernel_rfl, by kernel_rfl⟩
instance fn31 : FnOk Tryz.prog 31 := ⟨Tryz.f31, Tryz.func31, by kernel_rfl, by kernel_rfl⟩
instance fn32 : FnOk Tryz.prog 32 := ⟨Tryz.f32, Tryz.func32, by kernel_rfl, by kernel_rfl⟩
instance fn33 : FnOk Tryz.prog 33 := ⟨Tryz.f33, Tryz.func33, by kernel_rfl, by kernel_rfl⟩
instance fn34 : FnOk Tryz.prog 34 := ⟨Tryz.f34, Tryz.func34, by kernel_rfl, by kernel_rfl⟩
instance fn35 : FnOk Tryz.prog 35 := ⟨Tryz.f35, Tryz.func35, by kernel_rfl, by kernel_rfl⟩
instance fn36 : FnOk Tryz.prog 36 := ⟨Tryz.f36, Tryz.func36, by kernel_rfl, by kernel_rfl⟩
instance fn37 : FnOk Tryz.prog 37 := ⟨Tryz.f37, Tryz.func37, by kernel_rfl, by kernel_rfl⟩
instance fn38 : FnOk Tryz.prog 38 := ⟨Tryz.f38, Tryz.func38, by kernel_rfl, by kernel_rfl⟩
instance fn39 : FnOk Tryz.prog 39 := ⟨Tryz.f39, Tryz.func39, by kernel_rfl, by kernel_rfl⟩
instance fn40 : FnOk Tryz.prog 40 := ⟨Tryz.f40, Tryz.func40, by kernel_rfl, by kernel_rfl⟩
instance fn41 : FnOk Tryz.prog 41 := ⟨Tryz.f41, Tryz.func41, by kernel_rfl, by kernel_rfl⟩
instance fn42 : FnOk Tryz.prog 42 := ⟨Tryz.f42, Tryz.func42, by kernel_rfl, by kernel_rfl⟩
instance fn43 : FnOk Tryz.prog 43 := ⟨Tryz.f43, Tryz.func43, by kernel_rfl, by kernel_rfl⟩
instance fn44 : FnOk Tryz.prog 44 := ⟨Tryz.f44, Tryz.func44, by kernel_rfl, by kernel_rfl⟩
instance fn45 : FnOk Tryz.prog 45 := ⟨Tryz.f45, Tryz.func45, by kernel_rfl, by kernel_rfl⟩
instance fn46 : FnOk Tryz.prog 46 := ⟨Tryz.f46, Tryz.func46, by kernel_rfl, by kernel_rfl⟩
instance fn47 : FnOk Tryz.prog 47 := ⟨Tryz.f47, Tryz.func47, by kernel_rfl, by kernel_rfl⟩
instance fn51 : FnOk Tryz.prog 51 := ⟨Tryz.f51, Tryz.func51, by kernel_rfl, by kernel_rfl⟩
instance fn53 : FnOk Tryz.prog 53 := ⟨Tryz.f53, Tryz.func53, by kernel_rfl, by kernel_rfl⟩
instance fn54 : FnOk Tryz.prog 54 := ⟨Tryz.f54, Tryz.func54, by kernel_rfl, by kernel_rfl⟩
instance fn55 : FnOk Tryz.prog 55 := ⟨Tryz.f55, Tryz.func55, by kernel_rfl, by kernel_rfl⟩
instance fn56 : FnOk Tryz.prog 56 := ⟨Tryz.f56, Tryz.func56, by kernel_rfl, by kernel_rfl⟩
instance fn57 : FnOk Tryz.prog 57 := ⟨Tryz.f57, Tryz.func57, by kernel_rfl, by kernel_rfl⟩
instance fn58 : FnOk Tryz.prog 58 := ⟨Tryz.f58, Tryz.func58, by kernel_rfl, by kernel_rfl⟩
instance fn59 : FnOk Tryz.prog 59 := ⟨Tryz.f59, Tryz.func59, by kernel_rfl, by kernel_rfl⟩
instance fn60 : FnOk Tryz.prog 60 := ⟨Tryz.f60, Tryz.func60, by kernel_rfl, by kernel_rfl⟩
instance fn61 : FnOk Tryz.prog 61 := ⟨Tryz.f61, Tryz.func61, by kernel_rfl, by kernel_rfl⟩
instance fn62 : FnOk Tryz.prog 62 := ⟨Tryz.f62, Tryz.func62, by kernel_rfl, by kernel_rfl⟩
instance fn63 : FnOk Tryz.prog 63 := ⟨Tryz.f63, Tryz.func63, by kernel_rfl, by kernel_rfl⟩
instance fn77 : FnOk Tryz.prog 77 := ⟨Tryz.f77, Tryz.func77, by kernel_rfl, by kernel_rfl⟩
instance fn78 : FnOk Tryz.prog 78 := ⟨Tryz.f78, Tryz.func78, by kernel_rfl, by kernel_rfl⟩
instance fn84 : FnOk Tryz.prog 84 := ⟨Tryz.f84, Tryz.func84, by kernel_rfl, by kernel_rfl⟩
instance fn85 : FnOk Tryz.prog 85 := ⟨Tryz.f85, Tryz.func85, by kernel_rfl, by kernel_rfl⟩
instance fn86 : FnOk Tryz.prog 86 := ⟨Tryz.f86, Tryz.func86, by kernel_rfl, by kernel_rfl⟩
instance fn87 : FnOk Tryz.prog 87 := ⟨Tryz.f87, Tryz.func87, by kernel_rfl, by kernel_rfl⟩
instance fn88 : FnOk Tryz.prog 88 := ⟨Tryz.f88, Tryz.func88, by kernel_rfl, by kernel_rfl⟩
instance fn89 : FnOk Tryz.prog 89 := ⟨Tryz.f89, Tryz.func89, by kernel_rfl, by kernel_rfl⟩
instance fn90 : FnOk Tryz.prog 90 := ⟨Tryz.f90, Tryz.func90, by kernel_rfl, by kernel_rfl⟩
instance fn91 : FnOk Tryz.prog 91 := ⟨Tryz.f91, Tryz.func91, by kernel_rfl, by kernel_rfl⟩
instance fn92 : FnOk Tryz.prog 92 := ⟨Tryz.f92, Tryz.func92, by kernel_rfl, by kernel_rfl⟩
instance fn97 : FnOk Tryz.prog 97 := ⟨Tryz.f97, Tryz.func97, by kernel_rfl, by kernel_rfl⟩
instance fn98 : FnOk Tryz.prog 98 := ⟨Tryz.f98, Tryz.func98, by kernel_rfl, by kernel_rfl⟩
instance fn99 : FnOk Tryz.prog 99 := ⟨Tryz.f99, Tryz.func99, by kernel_rfl, by kernel_rfl⟩
instance fn100 : FnOk Tryz.prog 100 := ⟨Tryz.f100, Tryz.func100, by kernel_rfl, by kernel_rfl⟩
instance fn102 : FnOk Tryz.prog 102 := ⟨Tryz.f102, Tryz.func102, by kernel_rfl, by kernel_rfl⟩
instance fn103 : FnOk Tryz.prog 103 := ⟨Tryz.f103, Tryz.func103, by kernel_rfl, by kernel_rfl⟩
instance fn104 : FnOk Tryz.prog 104 := ⟨Tryz.f104, Tryz.func104, by kernel_rfl, by kernel_rfl⟩
instance fn105 : FnOk Tryz.prog 105 := ⟨Tryz.f105, Tryz.func105, by kernel_rfl, by kernel_rfl⟩
section
variable {E : En} {bl : List (Nat × List AV)} {tm : List (Nat × AV)} {d : Option Tmp} {ty : TypeId} {pos : String} {af : Array Edge} {gd : Option (Nat × Bool)} {op : Op} {v : AV}
theorem qv9 (h : QV E bl tm ⟨d, op, ty, pos, af, gd⟩ v [] [] := by first | exact qv0 | exact QV_beq Tryz.underlying4 rfl rfl | exact QV_bne Tryz.underlying4 rfl rfl | exact qv1) : QV E bl tm ⟨d, op, ty, pos, af, gd⟩ v [] [] := h
end
end Go.Proofs.YtpcahgedkmgllaaGreat
