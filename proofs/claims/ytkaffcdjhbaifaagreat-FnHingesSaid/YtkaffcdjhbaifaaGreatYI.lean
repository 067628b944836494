/- What the seat's types are: cells, fields, zeros; which functions have bodies. -/
import Derived.Test.YtkaffcdjhbaifaaGreatZ5
import Derived.Test.YtkaffcdjhbaifaaGreatRows
namespace Go.Proofs.YtkaffcdjhbaifaaGreat
open Go.Eng

theorem slInfo {P : Program} {T : Nat} {z : Value} {e by_ : Nat} (h : (P.info? T).map (fun i => (i.zero, i.size, i.bytes)) = some (some z, e, by_)) (hz : z.cells.size = e) :
    ∃ i z, P.info? T = some i ∧ i.zero = some z ∧ i.size = e ∧ i.bytes = by_ ∧ z.cells.size = e := by
  cases hi : P.info? T with
  | none => rw [hi] at h; simp at h
  | some i =>
    rw [hi] at h
    simp only [Option.map_some, Option.some.injEq, Prod.mk.injEq] at h
    exact ⟨i, z, rfl, h.1, h.2.1, h.2.2, hz⟩
instance ty3 : TyOk Tryz.prog 3 false 1 := ⟨fun _ => by kernel_rfl, fun _ => by kernel_rfl⟩
instance ze3 : ZeroOk Tryz.prog 3 (.int .i64 0) := ⟨fun _ => by kernel_rfl⟩
instance ty4 : TyOk Tryz.prog 4 false 1 := ⟨fun _ => by kernel_rfl, fun _ => by kernel_rfl⟩
instance ze4 : ZeroOk Tryz.prog 4 (.bool false) := ⟨fun _ => by kernel_rfl⟩
instance ty5 : TyOk Tryz.prog 5 false 1 := ⟨fun _ => by kernel_rfl, fun _ => by kernel_rfl⟩
instance ze5 : ZeroOk Tryz.prog 5 (.int .u8 0) := ⟨fun _ => by kernel_rfl⟩
instance ty22 : TyOk Tryz.prog 22 false 1 := ⟨fun _ => by kernel_rfl, fun _ => by kernel_rfl⟩
instance ze22 : ZeroOk Tryz.prog 22 (.slice none 0 0) := ⟨fun _ => by kernel_rfl⟩
instance ty24 : TyOk Tryz.prog 24 false 1 := ⟨fun _ => by kernel_rfl, fun _ => by kernel_rfl⟩
instance ze24 : ZeroOk Tryz.prog 24 (.slice none 0 0) := ⟨fun _ => by kernel_rfl⟩
instance ty26 : TyOk Tryz.prog 26 true 1 := ⟨fun _ => by kernel_rfl, fun _ => by kernel_rfl⟩
instance ze26 : ZeroOk Tryz.prog 26 (.agg #[.slice none 0 0]) := ⟨fun _ => by kernel_rfl⟩
instance ty27 : TyOk Tryz.prog 27 false 1 := ⟨fun _ => by kernel_rfl, fun _ => by kernel_rfl⟩
instance ze27 : ZeroOk Tryz.prog 27 (.slice none 0 0) := ⟨fun _ => by kernel_rfl⟩
instance ty30 : TyOk Tryz.prog 30 false 1 := ⟨fun _ => by kernel_rfl, fun _ => by kernel_rfl⟩
instance ze30 : ZeroOk Tryz.prog 30 (.slice none 0 0) := ⟨fun _ => by kernel_rfl⟩
instance ty32 : TyOk Tryz.prog 32 true 2 := ⟨fun _ => by kernel_rfl, fun _ => by kernel_rfl⟩
instance ze32 : ZeroOk Tryz.prog 32 (.agg #[.slice none 0 0, .slice none 0 0]) := ⟨fun _ => by kernel_rfl⟩
instance ty36 : TyOk Tryz.prog 36 false 1 := ⟨fun _ => by kernel_rfl, fun _ => by kernel_rfl⟩
instance ze36 : ZeroOk Tryz.prog 36 (.slice none 0 0) := ⟨fun _ => by kernel_rfl⟩
instance ty41 : TyOk Tryz.prog 41 true 2 := ⟨fun _ => by kernel_rfl, fun _ => by kernel_rfl⟩
instance ze41 : ZeroOk Tryz.prog 41 (.agg #[.int .i64 0, .bool false]) := ⟨fun _ => by kernel_rfl⟩
instance ty44 : TyOk Tryz.prog 44 false 1 := ⟨fun _ => by kernel_rfl, fun _ => by kernel_rfl⟩
instance ze44 : ZeroOk Tryz.prog 44 (.slice none 0 0) := ⟨fun _ => by kernel_rfl⟩
instance ty54 : TyOk Tryz.prog 54 true 3 := ⟨fun _ => by kernel_rfl, fun _ => by kernel_rfl⟩
instance ze54 : ZeroOk Tryz.prog 54 (.agg #[.int .i64 0, .int .i64 0, .int .i64 0]) := ⟨fun _ => by kernel_rfl⟩
instance ty57 : TyOk Tryz.prog 57 false 1 := ⟨fun _ => by kernel_rfl, fun _ => by kernel_rfl⟩
instance ze57 : ZeroOk Tryz.prog 57 (.slice none 0 0) := ⟨fun _ => by kernel_rfl⟩
instance ty61 : TyOk Tryz.prog 61 true 3 := ⟨fun _ => by kernel_rfl, fun _ => by kernel_rfl⟩
instance ze61 : ZeroOk Tryz.prog 61 (.agg #[.int .i64 0, .int .i64 0, .int .i64 0]) := ⟨fun _ => by kernel_rfl⟩
instance ty67 : TyOk Tryz.prog 67 false 1 := ⟨fun _ => by kernel_rfl, fun _ => by kernel_rfl⟩
instance ze67 : ZeroOk Tryz.prog 67 (.slice none 0 0) := ⟨fun _ => by kernel_rfl⟩
instance ty80 : TyOk Tryz.prog 80 true 2 := ⟨fun _ => by kernel_rfl, fun _ => by kernel_rfl⟩
instance ze80 : ZeroOk Tryz.prog 80 (.agg #[.int .i64 0, .int .i64 0]) := ⟨fun _ => by kernel_rfl⟩
instance ty82 : TyOk Tryz.prog 82 true 4 := ⟨fun _ => by kernel_rfl, fun _ => by kernel_rfl⟩
instance ze82 : ZeroOk Tryz.prog 82 (.agg #[.int .i64 0, .int .i64 0, .int .i64 0, .int .i64 0]) := ⟨fun _ => by kernel_rfl⟩
instance ty86 : TyOk Tryz.prog 86 false 1 := ⟨fun _ => by kernel_rfl, fun _ => by kernel_rfl⟩
instance ze86 : ZeroOk Tryz.prog 86 (.slice none 0 0) := ⟨fun _ => by kernel_rfl⟩
instance ty88 : TyOk Tryz.prog 88 true 1 := ⟨fun _ => by kernel_rfl, fun _ => by kernel_rfl⟩
instance ze88 : ZeroOk Tryz.prog 88 (.agg #[.slice none 0 0]) := ⟨fun _ => by kernel_rfl⟩
instance ty96 : TyOk Tryz.prog 96 true 4 := ⟨fun _ => by kernel_rfl, fun _ => by kernel_rfl⟩
instance ze96 : ZeroOk Tryz.prog 96 (.agg #[.int .i64 0, .int .i64 0, .int .i64 0, .int .i64 0]) := ⟨fun _ => by kernel_rfl⟩
instance ty101 : TyOk Tryz.prog 101 true 2 := ⟨fun _ => by kernel_rfl, fun _ => by kernel_rfl⟩
instance ze101 : ZeroOk Tryz.prog 101 (.agg #[.int .i64 0, .int .i64 0]) := ⟨fun _ => by kernel_rfl⟩
instance ty105 : TyOk Tryz.prog 105 false 1 := ⟨fun _ => by kernel_rfl, fun _ => by kernel_rfl⟩
instance ze105 : ZeroOk Tryz.prog 105 (.int .u64 0) := ⟨fun _ => by kernel_rfl⟩
instance ty123 : TyOk Tryz.prog 123 true 4 := ⟨fun _ => by kernel_rfl, fun _ => by kernel_rfl⟩
instance ze123 : ZeroOk Tryz.prog 123 (.agg #[.int .i64 0, .int .i64 0, .int .i64 0, .int .i64 0]) := ⟨fun _ => by kernel_rfl⟩
instance zc3 : ZcOk Tryz.prog 3 [.v (.int .i64 0)] := ⟨_, ze3, rfl⟩
instance zc4 : ZcOk Tryz.prog 4 [.v (.bool false)] := ⟨_, ze4, rfl⟩
instance zc5 : ZcOk Tryz.prog 5 [.v (.int .u8 0)] := ⟨_, ze5, rfl⟩
instance zc22 : ZcOk Tryz.prog 22 [.v (.slice none 0 0)] := ⟨_, ze22, rfl⟩
instance zc24 : ZcOk Tryz.prog 24 [.v (.slice none 0 0)] := ⟨_, ze24, rfl⟩
instance fl26_0 : FldOk Tryz.prog 26 0 0 false 1 := ⟨⟨_, _, Tryz.underlying26, rfl, rfl, ty24⟩, by decide⟩
instance zc26 : ZcOk Tryz.prog 26 [.v (.slice none 0 0)] := ⟨_, ze26, rfl⟩
instance bl26 : BldOk Tryz.prog 26 [.slice none 0 0] [(0, 1)] := ⟨_, _, ze26.zero, rfl, Tryz.underlying26, fun _ => by kernel_rfl⟩
instance zc27 : ZcOk Tryz.prog 27 [.v (.slice none 0 0)] := ⟨_, ze27, rfl⟩
instance zc30 : ZcOk Tryz.prog 30 [.v (.slice none 0 0)] := ⟨_, ze30, rfl⟩
instance fl32_0 : FldOk Tryz.prog 32 0 0 false 1 := ⟨⟨_, _, Tryz.underlying32, rfl, rfl, ty30⟩, by decide⟩
instance fl32_1 : FldOk Tryz.prog 32 1 1 false 1 := ⟨⟨_, _, Tryz.underlying32, rfl, rfl, ty30⟩, by decide⟩
instance zc32 : ZcOk Tryz.prog 32 [.v (.slice none 0 0), .v (.slice none 0 0)] := ⟨_, ze32, rfl⟩
instance bl32 : BldOk Tryz.prog 32 [.slice none 0 0, .slice none 0 0] [(0, 1), (1, 1)] := ⟨_, _, ze32.zero, rfl, Tryz.underlying32, fun _ => by kernel_rfl⟩
instance zc36 : ZcOk Tryz.prog 36 [.v (.slice none 0 0)] := ⟨_, ze36, rfl⟩
instance fl41_0 : FldOk Tryz.prog 41 0 0 false 1 := ⟨⟨_, _, Tryz.underlying41, rfl, rfl, ty3⟩, by decide⟩
instance fl41_1 : FldOk Tryz.prog 41 1 1 false 1 := ⟨⟨_, _, Tryz.underlying41, rfl, rfl, ty4⟩, by decide⟩
instance zc41 : ZcOk Tryz.prog 41 [.v (.int .i64 0), .v (.bool false)] := ⟨_, ze41, rfl⟩
instance bl41 : BldOk Tryz.prog 41 [.int .i64 0, .bool false] [(0, 1), (1, 1)] := ⟨_, _, ze41.zero, rfl, Tryz.underlying41, fun _ => by kernel_rfl⟩
instance zc44 : ZcOk Tryz.prog 44 [.v (.slice none 0 0)] := ⟨_, ze44, rfl⟩
instance fl54_0 : FldOk Tryz.prog 54 0 0 false 1 := ⟨⟨_, _, Tryz.underlying54, rfl, rfl, ty3⟩, by decide⟩
instance fl54_1 : FldOk Tryz.prog 54 1 1 false 1 := ⟨⟨_, _, Tryz.underlying54, rfl, rfl, ty3⟩, by decide⟩
instance fl54_2 : FldOk Tryz.prog 54 2 2 false 1 := ⟨⟨_, _, Tryz.underlying54, rfl, rfl, ty3⟩, by decide⟩
instance zc54 : ZcOk Tryz.prog 54 [.v (.int .i64 0), .v (.int .i64 0), .v (.int .i64 0)] := ⟨_, ze54, rfl⟩
instance bl54 : BldOk Tryz.prog 54 [.int .i64 0, .int .i64 0, .int .i64 0] [(0, 1), (1, 1), (2, 1)] := ⟨_, _, ze54.zero, rfl, Tryz.underlying54, fun _ => by kernel_rfl⟩
instance zc57 : ZcOk Tryz.prog 57 [.v (.slice none 0 0)] := ⟨_, ze57, rfl⟩
instance fl61_0 : FldOk Tryz.prog 61 0 0 false 1 := ⟨⟨_, _, Tryz.underlying61, rfl, rfl, ty3⟩, by decide⟩
instance fl61_1 : FldOk Tryz.prog 61 1 1 false 1 := ⟨⟨_, _, Tryz.underlying61, rfl, rfl, ty3⟩, by decide⟩
instance fl61_2 : FldOk Tryz.prog 61 2 2 false 1 := ⟨⟨_, _, Tryz.underlying61, rfl, rfl, ty3⟩, by decide⟩
instance zc61 : ZcOk Tryz.prog 61 [.v (.int .i64 0), .v (.int .i64 0), .v (.int .i64 0)] := ⟨_, ze61, rfl⟩
instance bl61 : BldOk Tryz.prog 61 [.int .i64 0, .int .i64 0, .int .i64 0] [(0, 1), (1, 1), (2, 1)] := ⟨_, _, ze61.zero, rfl, Tryz.underlying61, fun _ => by kernel_rfl⟩
instance zc67 : ZcOk Tryz.prog 67 [.v (.slice none 0 0)] := ⟨_, ze67, rfl⟩
instance fl80_0 : FldOk Tryz.prog 80 0 0 false 1 := ⟨⟨_, _, Tryz.underlying80, rfl, rfl, ty3⟩, by decide⟩
instance fl80_1 : FldOk Tryz.prog 80 1 1 false 1 := ⟨⟨_, _, Tryz.underlying80, rfl, rfl, ty3⟩, by decide⟩
instance zc80 : ZcOk Tryz.prog 80 [.v (.int .i64 0), .v (.int .i64 0)] := ⟨_, ze80, rfl⟩
instance bl80 : BldOk Tryz.prog 80 [.int .i64 0, .int .i64 0] [(0, 1), (1, 1)] := ⟨_, _, ze80.zero, rfl, Tryz.underlying80, fun _ => by kernel_rfl⟩
instance fl82_0 : FldOk Tryz.prog 82 0 0 true 2 := ⟨⟨_, _, Tryz.underlying82, rfl, rfl, ty80⟩, by decide⟩
instance fl82_1 : FldOk Tryz.prog 82 1 2 true 2 := ⟨⟨_, _, Tryz.underlying82, rfl, rfl, ty80⟩, by decide⟩
instance zc82 : ZcOk Tryz.prog 82 [.v (.int .i64 0), .v (.int .i64 0), .v (.int .i64 0), .v (.int .i64 0)] := ⟨_, ze82, rfl⟩
instance bl82 : BldOk Tryz.prog 82 [.int .i64 0, .int .i64 0, .int .i64 0, .int .i64 0] [(0, 2), (2, 2)] := ⟨_, _, ze82.zero, rfl, Tryz.underlying82, fun _ => by kernel_rfl⟩
instance zc86 : ZcOk Tryz.prog 86 [.v (.slice none 0 0)] := ⟨_, ze86, rfl⟩
instance fl88_0 : FldOk Tryz.prog 88 0 0 false 1 := ⟨⟨_, _, Tryz.underlying88, rfl, rfl, ty86⟩, by decide⟩
instance zc88 : ZcOk Tryz.prog 88 [.v (.slice none 0 0)] := ⟨_, ze88, rfl⟩
instance bl88 : BldOk Tryz.prog 88 [.slice none 0 0] [(0, 1)] := ⟨_, _, ze88.zero, rfl, Tryz.underlying88, fun _ => by kernel_rfl⟩
instance fl96_0 : FldOk Tryz.prog 96 0 0 false 1 := ⟨⟨_, _, Tryz.underlying96, rfl, rfl, ty3⟩, by decide⟩
instance fl96_1 : FldOk Tryz.prog 96 1 1 false 1 := ⟨⟨_, _, Tryz.underlying96, rfl, rfl, ty3⟩, by decide⟩
instance fl96_2 : FldOk Tryz.prog 96 2 2 false 1 := ⟨⟨_, _, Tryz.underlying96, rfl, rfl, ty3⟩, by decide⟩
instance fl96_3 : FldOk Tryz.prog 96 3 3 false 1 := ⟨⟨_, _, Tryz.underlying96, rfl, rfl, ty3⟩, by decide⟩
instance zc96 : ZcOk Tryz.prog 96 [.v (.int .i64 0), .v (.int .i64 0), .v (.int .i64 0), .v (.int .i64 0)] := ⟨_, ze96, rfl⟩
instance bl96 : BldOk Tryz.prog 96 [.int .i64 0, .int .i64 0, .int .i64 0, .int .i64 0] [(0, 1), (1, 1), (2, 1), (3, 1)] := ⟨_, _, ze96.zero, rfl, Tryz.underlying96, fun _ => by kernel_rfl⟩
instance fl101_0 : FldOk Tryz.prog 101 0 0 false 1 := ⟨⟨_, _, Tryz.underlying101, rfl, rfl, ty3⟩, by decide⟩
instance fl101_1 : FldOk Tryz.prog 101 1 1 false 1 := ⟨⟨_, _, Tryz.underlying101, rfl, rfl, ty3⟩, by decide⟩
instance zc101 : ZcOk Tryz.prog 101 [.v (.int .i64 0), .v (.int .i64 0)] := ⟨_, ze101, rfl⟩
instance bl101 : BldOk Tryz.prog 101 [.int .i64 0, .int .i64 0] [(0, 1), (1, 1)] := ⟨_, _, ze101.zero, rfl, Tryz.underlying101, fun _ => by kernel_rfl⟩
instance zc105 : ZcOk Tryz.prog 105 [.v (.int .u64 0)] := ⟨_, ze105, rfl⟩
instance fl123_0 : FldOk Tryz.prog 123 0 0 false 1 := ⟨⟨_, _, Tryz.underlying123, rfl, rfl, ty3⟩, by decide⟩
instance fl123_1 : FldOk Tryz.prog 123 1 1 false 1 := ⟨⟨_, _, Tryz.underlying123, rfl, rfl, ty3⟩, by decide⟩
instance fl123_2 : FldOk Tryz.prog 123 2 2 false 1 := ⟨⟨_, _, Tryz.underlying123, rfl, rfl, ty3⟩, by decide⟩
instance fl123_3 : FldOk Tryz.prog 123 3 3 false 1 := ⟨⟨_, _, Tryz.underlying123, rfl, rfl, ty3⟩, by decide⟩
instance zc123 : ZcOk Tryz.prog 123 [.v (.int .i64 0), .v (.int .i64 0), .v (.int .i64 0), .v (.int .i64 0)] := ⟨_, ze123, rfl⟩
instance bl123 : BldOk Tryz.prog 123 [.int .i64 0, .int .i64 0, .int .i64 0, .int .i64 0] [(0, 1), (1, 1), (2, 1), (3, 1)] := ⟨_, _, ze123.zero, rfl, Tryz.underlying123, fun _ => by kernel_rfl⟩
theorem in22 : (Tryz.prog.info? 5).map (fun i => (i.zero, i.size, i.bytes)) = some (some (.int .u8 0), 1, 1) := by kernel_rfl
instance sl22 : SlOk Tryz.prog 22 5 1 1 := ⟨Tryz.underlying22, slInfo in22 rfl, by decide⟩
instance zs22 : ZSlOk Tryz.prog 22 5 1 1 [.int .u8 0] := ⟨sl22, _, ze5.zero, rfl⟩
theorem in24 : (Tryz.prog.info? 82).map (fun i => (i.zero, i.size, i.bytes)) = some (some (.agg #[.int .i64 0, .int .i64 0, .int .i64 0, .int .i64 0]), 4, 32) := by kernel_rfl
instance sl24 : SlOk Tryz.prog 24 82 4 32 := ⟨Tryz.underlying24, slInfo in24 rfl, by decide⟩
instance zs24 : ZSlOk Tryz.prog 24 82 4 32 [.int .i64 0, .int .i64 0, .int .i64 0, .int .i64 0] := ⟨sl24, _, ze82.zero, rfl⟩
theorem in27 : (Tryz.prog.info? 54).map (fun i => (i.zero, i.size, i.bytes)) = some (some (.agg #[.int .i64 0, .int .i64 0, .int .i64 0]), 3, 24) := by kernel_rfl
instance sl27 : SlOk Tryz.prog 27 54 3 24 := ⟨Tryz.underlying27, slInfo in27 rfl, by decide⟩
instance zs27 : ZSlOk Tryz.prog 27 54 3 24 [.int .i64 0, .int .i64 0, .int .i64 0] := ⟨sl27, _, ze54.zero, rfl⟩
theorem in30 : (Tryz.prog.info? 3).map (fun i => (i.zero, i.size, i.bytes)) = some (some (.int .i64 0), 1, 8) := by kernel_rfl
instance sl30 : SlOk Tryz.prog 30 3 1 8 := ⟨Tryz.underlying30, slInfo in30 rfl, by decide⟩
instance zs30 : ZSlOk Tryz.prog 30 3 1 8 [.int .i64 0] := ⟨sl30, _, ze3.zero, rfl⟩
theorem in36 : (Tryz.prog.info? 41).map (fun i => (i.zero, i.size, i.bytes)) = some (some (.agg #[.int .i64 0, .bool false]), 2, 16) := by kernel_rfl
instance sl36 : SlOk Tryz.prog 36 41 2 16 := ⟨Tryz.underlying36, slInfo in36 rfl, by decide⟩
instance zs36 : ZSlOk Tryz.prog 36 41 2 16 [.int .i64 0, .bool false] := ⟨sl36, _, ze41.zero, rfl⟩
theorem in44 : (Tryz.prog.info? 96).map (fun i => (i.zero, i.size, i.bytes)) = some (some (.agg #[.int .i64 0, .int .i64 0, .int .i64 0, .int .i64 0]), 4, 32) := by kernel_rfl
instance sl44 : SlOk Tryz.prog 44 96 4 32 := ⟨Tryz.underlying44, slInfo in44 rfl, by decide⟩
instance zs44 : ZSlOk Tryz.prog 44 96 4 32 [.int .i64 0, .int .i64 0, .int .i64 0, .int .i64 0] := ⟨sl44, _, ze96.zero, rfl⟩
theorem in57 : (Tryz.prog.info? 123).map (fun i => (i.zero, i.size, i.bytes)) = some (some (.agg #[.int .i64 0, .int .i64 0, .int .i64 0, .int .i64 0]), 4, 32) := by kernel_rfl
instance sl57 : SlOk Tryz.prog 57 123 4 32 := ⟨Tryz.underlying57, slInfo in57 rfl, by decide⟩
instance zs57 : ZSlOk Tryz.prog 57 123 4 32 [.int .i64 0, .int .i64 0, .int .i64 0, .int .i64 0] := ⟨sl57, _, ze123.zero, rfl⟩
theorem in67 : (Tryz.prog.info? 101).map (fun i => (i.zero, i.size, i.bytes)) = some (some (.agg #[.int .i64 0, .int .i64 0]), 2, 16) := by kernel_rfl
instance sl67 : SlOk Tryz.prog 67 101 2 16 := ⟨Tryz.underlying67, slInfo in67 rfl, by decide⟩
instance zs67 : ZSlOk Tryz.prog 67 101 2 16 [.int .i64 0, .int .i64 0] := ⟨sl67, _, ze101.zero, rfl⟩
theorem in86 : (Tryz.prog.info? 80).map (fun i => (i.zero, i.size, i.bytes)) = some (some (.agg #[.int .i64 0, .int .i64 0]), 2, 16) := by kernel_rfl
instance sl86 : SlOk Tryz.prog 86 80 2 16 := ⟨Tryz.underlying86, slInfo in86 rfl, by decide⟩
instance zs86 : ZSlOk Tryz.prog 86 80 2 16 [.int .i64 0, .int .i64 0] := ⟨sl86, _, ze80.zero, rfl⟩
instance fn3 : FnOk Tryz.prog 3 := ⟨Tryz.f3, Tryz.func3, by kernel_rfl, by kernel_rfl⟩
instance fn4 : FnOk Tryz.prog 4 := ⟨Tryz.f4, Tryz.func4, by kernel_rfl, by kernel_rfl⟩
instance fn5 : FnOk Tryz.prog 5 := ⟨Tryz.f5, Tryz.func5, by kernel_rfl, by kernel_rfl⟩
instance fn6 : FnOk Tryz.prog 6 := ⟨Tryz.f6, Tryz.func6, by kernel_rfl, by kernel_rfl⟩
instance fn7 : FnOk Tryz.prog 7 := ⟨Tryz.f7, Tryz.func7, by kernel_rfl, by kernel_rfl⟩
instance fn8 : FnOk Tryz.prog 8 := ⟨Tryz.f8, Tryz.func8, by kernel_rfl, by kernel_rfl⟩
instance fn9 : FnOk Tryz.prog 9 := ⟨Tryz.f9, Tryz.func9, by kernel_rfl, by kernel_rfl⟩
instance fn10 : FnOk Tryz.prog 10 := ⟨Tryz.f10, Tryz.func10, by kernel_rfl, by kernel_rfl⟩
instance fn11 : FnOk Tryz.prog 11 := ⟨Tryz.f11, Tryz.func11, by kernel_rfl, by kernel_rfl⟩
instance fn12 : FnOk Tryz.prog 12 := ⟨Tryz.f12, Tryz.func12, by kernel_rfl, by kernel_rfl⟩
instance fn13 : FnOk Tryz.prog 13 := ⟨Tryz.f13, Tryz.func13, by kernel_rfl, by kernel_rfl⟩
instance fn14 : FnOk Tryz.prog 14 := ⟨Tryz.f14, Tryz.func14, by kernel_rfl, by kernel_rfl⟩
instance fn15 : FnOk Tryz.prog 15 := ⟨Tryz.f15, Tryz.func15, by kernel_rfl, by kernel_rfl⟩
instance fn16 : FnOk Tryz.prog 16 := ⟨Tryz.f16, Tryz.func16, by kernel_rfl, by kernel_rfl⟩
instance fn17 : FnOk Tryz.prog 17 := ⟨Tryz.f17, Tryz.func17, by kernel_rfl, by kernel_rfl⟩
instance fn18 : FnOk Tryz.prog 18 := ⟨Tryz.f18, Tryz.func18, by kernel_rfl, by kernel_rfl⟩
instance fn19 : FnOk Tryz.prog 19 := ⟨Tryz.f19, Tryz.func19, by kernel_rfl, by kernel_rfl⟩
instance fn20 : FnOk Tryz.prog 20 := ⟨Tryz.f20, Tryz.func20, by kernel_rfl, by kernel_rfl⟩
instance fn21 : FnOk Tryz.prog 21 := ⟨Tryz.f21, Tryz.func21, by kernel_rfl, by kernel_rfl⟩
instance fn22 : FnOk Tryz.prog 22 := ⟨Tryz.f22, Tryz.func22, by kernel_rfl, by kernel_rfl⟩
instance fn23 : FnOk Tryz.prog 23 := ⟨Tryz.f23, Tryz.func23, by kernel_rfl, by kernel_rfl⟩
instance fn24 : FnOk Tryz.prog 24 := ⟨Tryz.f24, Tryz.func24, by kernel_rfl, by kernel_rfl⟩
instance fn25 : FnOk Tryz.prog 25 := ⟨Tryz.f25, Tryz.func25, by kernel_rfl, by kernel_rfl⟩
instance fn26 : FnOk Tryz.prog 26 := ⟨Tryz.f26, Tryz.func26, by kernel_rfl, by kernel_rfl⟩
instance fn27 : FnOk Tryz.prog 27 := ⟨Tryz.f27, Tryz.func27, by kernel_rfl, by kernel_rfl⟩
instance fn28 : FnOk Tryz.prog 28 := ⟨Tryz.f28, Tryz.func28, by kernel_rfl, by kernel_rfl⟩
instance fn29 : FnOk Tryz.prog 29 := ⟨Tryz.f29, Tryz.func29, by kernel_rfl, by kernel_rfl⟩
instance fn30 : FnOk Tryz.prog 30 := ⟨Tryz.f30, Tryz.func30, by kernel_rfl, by kernel_rfl⟩
instance fn31 : FnOk Tryz.prog 31 := ⟨Tryz.f31, Tryz.func31, by kernel_rfl, by kernel_rfl⟩
instance fn32 : FnOk Tryz.prog 32 := ⟨Tryz.f32, Tryz.func32, by kernel_rfl, by kernel_rfl⟩
instance fn34 : FnOk Tryz.prog 34 := ⟨Tryz.f34, Tryz.func34, by kernel_rfl, by kernel_rfl⟩
instance fn35 : FnOk Tryz.prog 35 := ⟨Tryz.f35, Tryz.func35, by kernel_rfl, by kernel_rfl⟩
instance fn36 : FnOk Tryz.prog 36 := ⟨Tryz.f36, Tryz.func36, by kernel_rfl, by kernel_rfl⟩
instance fn37 : FnOk Tryz.prog 37 := ⟨Tryz.f37, Tryz.func37, by kernel_rfl, by kernel_rfl⟩
instance fn38 : FnOk Tryz.prog 38 := ⟨Tryz.f38, Tryz.func38, by kernel_rfl, by kernel_rfl⟩
instance fn39 : FnOk Tryz.prog 39 := ⟨Tryz.f39, Tryz.func39, by kernel_rfl, by kernel_rfl⟩
instance fn40 : FnOk Tryz.prog 40 := ⟨Tryz.f40, Tryz.func40, by kernel_rfl, by kernel_rfl⟩
instance fn41 : FnOk Tryz.prog 41 := ⟨Tryz.f41, Tryz.func41, by kernel_rfl, by kernel_rfl⟩
instance fn42 : FnOk Tryz.prog 42 := ⟨Tryz.f42, Tryz.func42, by kernel_rfl, by kernel_rfl⟩
instance fn43 : FnOk Tryz.prog 43 := ⟨Tryz.f43, Tryz.func43, by kernel_rfl, by kernel_rfl⟩
instance fn44 : FnOk Tryz.prog 44 := ⟨Tryz.f44, Tryz.func44, by kernel_rfl, by kernel_rfl⟩
instance fn45 : FnOk Tryz.prog 45 := ⟨Tryz.f45, Tryz.func45, by kernel_rfl, by kernel_rfl⟩
instance fn46 : FnOk Tryz.prog 46 := ⟨Tryz.f46, Tryz.func46, by kernel_rfl, by kernel_rfl⟩
instance fn47 : FnOk Tryz.prog 47 := ⟨Tryz.f47, Tryz.func47, by kernel_rfl, by kernel_rfl⟩
instance fn48 : FnOk Tryz.prog 48 := ⟨Tryz.f48, Tryz.func48, by kernel_rfl, by kernel_rfl⟩
instance fn49 : FnOk Tryz.prog 49 := ⟨Tryz.f49, Tryz.func49, by kernel_rfl, by kernel_rfl⟩
instance fn50 : FnOk Tryz.prog 50 := ⟨Tryz.f50, Tryz.func50, by kernel_rfl, by kernel_rfl⟩
instance fn54 : FnOk Tryz.prog 54 := ⟨Tryz.f54, Tryz.func54, by kernel_rfl, by kernel_rfl⟩
instance fn55 : FnOk Tryz.prog 55 := ⟨Tryz.f55, Tryz.func55, by kernel_rfl, by kernel_rfl⟩
instance fn56 : FnOk Tryz.prog 56 := ⟨Tryz.f56, Tryz.func56, by kernel_rfl, by kernel_rfl⟩
instance fn57 : FnOk Tryz.prog 57 := ⟨Tryz.f57, Tryz.func57, by kernel_rfl, by kernel_rfl⟩
instance fn58 : FnOk Tryz.prog 58 := ⟨Tryz.f58, Tryz.func58, by kernel_rfl, by kernel_rfl⟩
instance fn59 : FnOk Tryz.prog 59 := ⟨Tryz.f59, Tryz.func59, by kernel_rfl, by kernel_rfl⟩
instance fn60 : FnOk Tryz.prog 60 := ⟨Tryz.f60, Tryz.func60, by kernel_rfl, by kernel_rfl⟩
instance fn61 : FnOk Tryz.prog 61 := ⟨Tryz.f61, Tryz.func61, by kernel_rfl, by kernel_rfl⟩
instance fn62 : FnOk Tryz.prog 62 := ⟨Tryz.f62, Tryz.func62, by kernel_rfl, by kernel_rfl⟩
instance fn63 : FnOk Tryz.prog 63 := ⟨Tryz.f63, Tryz.func63, by kernel_rfl, by kernel_rfl⟩
instance fn64 : FnOk Tryz.prog 64 := ⟨Tryz.f64, Tryz.func64, by kernel_rfl, by kernel_rfl⟩
instance fn65 : FnOk Tryz.prog 65 := ⟨Tryz.f65, Tryz.func65, by kernel_rfl, by kernel_rfl⟩
instance fn66 : FnOk Tryz.prog 66 := ⟨Tryz.f66, Tryz.func66, by kernel_rfl, by kernel_rfl⟩
instance fn67 : FnOk Tryz.prog 67 := ⟨Tryz.f67, Tryz.func67, by kernel_rfl, by kernel_rfl⟩
instance fn68 : FnOk Tryz.prog 68 := ⟨Tryz.f68, Tryz.func68, by kernel_rfl, by kernel_rfl⟩
instance fn69 : FnOk Tryz.prog 69 := ⟨Tryz.f69, Tryz.func69, by kernel_rfl, by kernel_rfl⟩
instance fn70 : FnOk Tryz.prog 70 := ⟨Tryz.f70, Tryz.func70, by kernel_rfl, by kernel_rfl⟩
instance fn73 : FnOk Tryz.prog 73 := ⟨Tryz.f73, Tryz.func73, by kernel_rfl, by kernel_rfl⟩
instance fn74 : FnOk Tryz.prog 74 := ⟨Tryz.f74, Tryz.func74, by kernel_rfl, by kernel_rfl⟩
instance fn75 : FnOk Tryz.prog 75 := ⟨Tryz.f75, Tryz.func75, by kernel_rfl, by kernel_rfl⟩
instance fn76 : FnOk Tryz.prog 76 := ⟨Tryz.f76, Tryz.func76, by kernel_rfl, by kernel_rfl⟩
instance fn77 : FnOk Tryz.prog 77 := ⟨Tryz.f77, Tryz.func77, by kernel_rfl, by kernel_rfl⟩
instance fn78 : FnOk Tryz.prog 78 := ⟨Tryz.f78, Tryz.func78, by kernel_rfl, by kernel_rfl⟩
instance fn79 : FnOk Tryz.prog 79 := ⟨Tryz.f79, Tryz.func79, by kernel_rfl, by kernel_rfl⟩
instance fn80 : FnOk Tryz.prog 80 := ⟨Tryz.f80, Tryz.func80, by kernel_rfl, by kernel_rfl⟩
instance fn81 : FnOk Tryz.prog 81 := ⟨Tryz.f81, Tryz.func81, by kernel_rfl, by kernel_rfl⟩
instance fn82 : FnOk Tryz.prog 82 := ⟨Tryz.f82, Tryz.func82, by kernel_rfl, by kernel_rfl⟩
instance fn83 : FnOk Tryz.prog 83 := ⟨Tryz.f83, Tryz.func83, by kernel_rfl, by kernel_rfl⟩
instance fn84 : FnOk Tryz.prog 84 := ⟨Tryz.f84, Tryz.func84, by kernel_rfl, by kernel_rfl⟩
instance fn85 : FnOk Tryz.prog 85 := ⟨Tryz.f85, Tryz.func85, by kernel_rfl, by kernel_rfl⟩
instance fn86 : FnOk Tryz.prog 86 := ⟨Tryz.f86, Tryz.func86, by kernel_rfl, by kernel_rfl⟩
instance fn87 : FnOk Tryz.prog 87 := ⟨Tryz.f87, Tryz.func87, by kernel_rfl, by kernel_rfl⟩
instance fn88 : FnOk Tryz.prog 88 := ⟨Tryz.f88, Tryz.func88, by kernel_rfl, by kernel_rfl⟩
instance fn91 : FnOk Tryz.prog 91 := ⟨Tryz.f91, Tryz.func91, by kernel_rfl, by kernel_rfl⟩
instance fn92 : FnOk Tryz.prog 92 := ⟨Tryz.f92, Tryz.func92, by kernel_rfl, by kernel_rfl⟩
instance fn93 : FnOk Tryz.prog 93 := ⟨Tryz.f93, Tryz.func93, by kernel_rfl, by kernel_rfl⟩
instance fn94 : FnOk Tryz.prog 94 := ⟨Tryz.f94, Tryz.func94, by kernel_rfl, by kernel_rfl⟩
instance fn95 : FnOk Tryz.prog 95 := ⟨Tryz.f95, Tryz.func95, by kernel_rfl, by kernel_rfl⟩
instance fn96 : FnOk Tryz.prog 96 := ⟨Tryz.f96, Tryz.func96, by kernel_rfl, by kernel_rfl⟩
instance fn97 : FnOk Tryz.prog 97 := ⟨Tryz.f97, Tryz.func97, by kernel_rfl, by kernel_rfl⟩
instance fn98 : FnOk Tryz.prog 98 := ⟨Tryz.f98, Tryz.func98, by kernel_rfl, by kernel_rfl⟩
instance fn99 : FnOk Tryz.prog 99 := ⟨Tryz.f99, Tryz.func99, by kernel_rfl, by kernel_rfl⟩
instance fn100 : FnOk Tryz.prog 100 := ⟨Tryz.f100, Tryz.func100, by kernel_rfl, by kernel_rfl⟩
instance fn101 : FnOk Tryz.prog 101 := ⟨Tryz.f101, Tryz.func101, by kernel_rfl, by kernel_rfl⟩
instance fn102 : FnOk Tryz.prog 102 := ⟨Tryz.f102, Tryz.func102, by kernel_rfl, by kernel_rfl⟩
section
variable {E : En} {bl : List (Nat × List AV)} {tm : List (Nat × AV)} {d : Option Tmp} {ty : TypeId} {pos : String} {af : Array Edge} {gd : Option (Nat × Bool)} {op : Op} {v : AV}
theorem qv9 (h : QV E bl tm ⟨d, op, ty, pos, af, gd⟩ v [] [] := by first | exact qv0 | exact QV_beq Tryz.underlying4 rfl rfl | exact QV_bne Tryz.underlying4 rfl rfl | exact qv1) : QV E bl tm ⟨d, op, ty, pos, af, gd⟩ v [] [] := h
end
end Go.Proofs.YtkaffcdjhbaifaaGreat
