/- What the seat's types are: cells, fields, zeros; which functions have bodies. -/
import Derived.Test.YtkieepmkcaipaaaGreatZ5
import Derived.Test.YtkieepmkcaipaaaGreatRows
namespace Go.Proofs.YtkieepmkcaipaaaGreat
open Go.Eng

theorem slInfo {P : Program} {T : Nat} {z : Value} {e by_ : Nat} (h : (P.info? T).map (fun i => (i.zero, i.size, i.bytes)) = some (some z, e, by_)) (hz : z.cells.size = e) :
    ∃ i z, P.info? T = some i ∧ i.zero = some z ∧ i.size = e ∧ i.bytes = by_ ∧ z.cells.size = e := by
  cases hi : P.info? T with
  | none => rw [hi] at h; simp at h
  | some i =>
    rw [hi] at h
    simp only [Option.map_some, Option.some.injEq, Prod.mk.injEq] at h
    exact ⟨i, z, rfl, h.1, h.2.1, h.2.2, hz⟩
instance ty3 : TyOk Tryz.prog 3 false 1 := ⟨fun _ => by kernel_rfl, fun _ => by kernel_rfl⟩
instance ze3 : ZeroOk Tryz.prog 3 (.int .i64 0) := ⟨fun _ => by kernel_rfl⟩
instance ty4 : TyOk Tryz.prog 4 false 1 := ⟨fun _ => by kernel_rfl, fun _ => by kernel_rfl⟩
instance ze4 : ZeroOk Tryz.prog 4 (.bool false) := ⟨fun _ => by kernel_rfl⟩
instance ty5 : TyOk Tryz.prog 5 false 1 := ⟨fun _ => by kernel_rfl, fun _ => by kernel_rfl⟩
instance ze5 : ZeroOk Tryz.prog 5 (.int .u8 0) := ⟨fun _ => by kernel_rfl⟩
instance ty22 : TyOk Tryz.prog 22 false 1 := ⟨fun _ => by kernel_rfl, fun _ => by kernel_rfl⟩
instance ze22 : ZeroOk Tryz.prog 22 (.slice none 0 0) := ⟨fun _ => by kernel_rfl⟩
instance ty24 : TyOk Tryz.prog 24 false 1 := ⟨fun _ => by kernel_rfl, fun _ => by kernel_rfl⟩
instance ze24 : ZeroOk Tryz.prog 24 (.slice none 0 0) := ⟨fun _ => by kernel_rfl⟩
instance ty26 : TyOk Tryz.prog 26 true 1 := ⟨fun _ => by kernel_rfl, fun _ => by kernel_rfl⟩
instance ze26 : ZeroOk Tryz.prog 26 (.agg #[.slice none 0 0]) := ⟨fun _ => by kernel_rfl⟩
instance ty27 : TyOk Tryz.prog 27 false 1 := ⟨fun _ => by kernel_rfl, fun _ => by kernel_rfl⟩
instance ze27 : ZeroOk Tryz.prog 27 (.slice none 0 0) := ⟨fun _ => by kernel_rfl⟩
instance ty31 : TyOk Tryz.prog 31 false 1 := ⟨fun _ => by kernel_rfl, fun _ => by kernel_rfl⟩
instance ze31 : ZeroOk Tryz.prog 31 (.slice none 0 0) := ⟨fun _ => by kernel_rfl⟩
instance ty33 : TyOk Tryz.prog 33 true 2 := ⟨fun _ => by kernel_rfl, fun _ => by kernel_rfl⟩
instance ze33 : ZeroOk Tryz.prog 33 (.agg #[.slice none 0 0, .slice none 0 0]) := ⟨fun _ => by kernel_rfl⟩
instance ty36 : TyOk Tryz.prog 36 false 1 := ⟨fun _ => by kernel_rfl, fun _ => by kernel_rfl⟩
instance ze36 : ZeroOk Tryz.prog 36 (.slice none 0 0) := ⟨fun _ => by kernel_rfl⟩
instance ty48 : TyOk Tryz.prog 48 false 1 := ⟨fun _ => by kernel_rfl, fun _ => by kernel_rfl⟩
instance ze48 : ZeroOk Tryz.prog 48 (.slice none 0 0) := ⟨fun _ => by kernel_rfl⟩
instance ty50 : TyOk Tryz.prog 50 true 1 := ⟨fun _ => by kernel_rfl, fun _ => by kernel_rfl⟩
instance ze50 : ZeroOk Tryz.prog 50 (.agg #[.slice none 0 0]) := ⟨fun _ => by kernel_rfl⟩
instance ty51 : TyOk Tryz.prog 51 false 1 := ⟨fun _ => by kernel_rfl, fun _ => by kernel_rfl⟩
instance ze51 : ZeroOk Tryz.prog 51 (.slice none 0 0) := ⟨fun _ => by kernel_rfl⟩
instance ty60 : TyOk Tryz.prog 60 true 4 := ⟨fun _ => by kernel_rfl, fun _ => by kernel_rfl⟩
instance ze60 : ZeroOk Tryz.prog 60 (.agg #[.int .i64 0, .int .i64 0, .int .i64 0, .int .i64 0]) := ⟨fun _ => by kernel_rfl⟩
instance ty65 : TyOk Tryz.prog 65 false 1 := ⟨fun _ => by kernel_rfl, fun _ => by kernel_rfl⟩
instance ze65 : ZeroOk Tryz.prog 65 (.slice none 0 0) := ⟨fun _ => by kernel_rfl⟩
instance ty77 : TyOk Tryz.prog 77 true 2 := ⟨fun _ => by kernel_rfl, fun _ => by kernel_rfl⟩
instance ze77 : ZeroOk Tryz.prog 77 (.agg #[.int .i64 0, .int .i64 0]) := ⟨fun _ => by kernel_rfl⟩
instance ty79 : TyOk Tryz.prog 79 true 4 := ⟨fun _ => by kernel_rfl, fun _ => by kernel_rfl⟩
instance ze79 : ZeroOk Tryz.prog 79 (.agg #[.int .i64 0, .int .i64 0, .int .i64 0, .int .i64 0]) := ⟨fun _ => by kernel_rfl⟩
instance ty91 : TyOk Tryz.prog 91 true 3 := ⟨fun _ => by kernel_rfl, fun _ => by kernel_rfl⟩
instance ze91 : ZeroOk Tryz.prog 91 (.agg #[.int .i64 0, .int .i64 0, .int .i64 0]) := ⟨fun _ => by kernel_rfl⟩
instance ty95 : TyOk Tryz.prog 95 false 1 := ⟨fun _ => by kernel_rfl, fun _ => by kernel_rfl⟩
instance ze95 : ZeroOk Tryz.prog 95 (.slice none 0 0) := ⟨fun _ => by kernel_rfl⟩
instance ty109 : TyOk Tryz.prog 109 true 3 := ⟨fun _ => by kernel_rfl, fun _ => by kernel_rfl⟩
instance ze109 : ZeroOk Tryz.prog 109 (.agg #[.int .i64 0, .int .i64 0, .int .i64 0]) := ⟨fun _ => by kernel_rfl⟩
instance ty122 : TyOk Tryz.prog 122 true 2 := ⟨fun _ => by kernel_rfl, fun _ => by kernel_rfl⟩
instance ze122 : ZeroOk Tryz.prog 122 (.agg #[.int .i64 0, .int .i64 0]) := ⟨fun _ => by kernel_rfl⟩
instance ty129 : TyOk Tryz.prog 129 true 4 := ⟨fun _ => by kernel_rfl, fun _ => by kernel_rfl⟩
instance ze129 : ZeroOk Tryz.prog 129 (.agg #[.int .i64 0, .int .i64 0, .int .i64 0, .int .i64 0]) := ⟨fun _ => by kernel_rfl⟩
instance ty138 : TyOk Tryz.prog 138 false 1 := ⟨fun _ => by kernel_rfl, fun _ => by kernel_rfl⟩
instance ze138 : ZeroOk Tryz.prog 138 (.slice none 0 0) := ⟨fun _ => by kernel_rfl⟩
instance ty140 : TyOk Tryz.prog 140 true 1 := ⟨fun _ => by kernel_rfl, fun _ => by kernel_rfl⟩
instance ze140 : ZeroOk Tryz.prog 140 (.agg #[.slice none 0 0]) := ⟨fun _ => by kernel_rfl⟩
instance ty152 : TyOk Tryz.prog 152 true 2 := ⟨fun _ => by kernel_rfl, fun _ => by kernel_rfl⟩
instance ze152 : ZeroOk Tryz.prog 152 (.agg #[.int .i64 0, .int .i64 0]) := ⟨fun _ => by kernel_rfl⟩
instance ty154 : TyOk Tryz.prog 154 true 4 := ⟨fun _ => by kernel_rfl, fun _ => by kernel_rfl⟩
instance ze154 : ZeroOk Tryz.prog 154 (.agg #[.int .i64 0, .int .i64 0, .int .i64 0, .int .i64 0]) := ⟨fun _ => by kernel_rfl⟩
instance ty159 : TyOk Tryz.prog 159 false 1 := ⟨fun _ => by kernel_rfl, fun _ => by kernel_rfl⟩
instance ze159 : ZeroOk Tryz.prog 159 (.slice none 0 0) := ⟨fun _ => by kernel_rfl⟩
instance ty164 : TyOk Tryz.prog 164 false 1 := ⟨fun _ => by kernel_rfl, fun _ => by kernel_rfl⟩
instance ze164 : ZeroOk Tryz.prog 164 (.int .u64 0) := ⟨fun _ => by kernel_rfl⟩
instance zc3 : ZcOk Tryz.prog 3 [.v (.int .i64 0)] := ⟨_, ze3, rfl⟩
instance zc4 : ZcOk Tryz.prog 4 [.v (.bool false)] := ⟨_, ze4, rfl⟩
instance zc5 : ZcOk Tryz.prog 5 [.v (.int .u8 0)] := ⟨_, ze5, rfl⟩
instance zc22 : ZcOk Tryz.prog 22 [.v (.slice none 0 0)] := ⟨_, ze22, rfl⟩
instance zc24 : ZcOk Tryz.prog 24 [.v (.slice none 0 0)] := ⟨_, ze24, rfl⟩
instance fl26_0 : FldOk Tryz.prog 26 0 0 false 1 := ⟨⟨_, _, Tryz.underlying26, rfl, rfl, ty24⟩, by decide⟩
instance zc26 : ZcOk Tryz.prog 26 [.v (.slice none 0 0)] := ⟨_, ze26, rfl⟩
instance bl26 : BldOk Tryz.prog 26 [.slice none 0 0] [(0, 1)] := ⟨_, _, ze26.zero, rfl, Tryz.underlying26, fun _ => by kernel_rfl⟩
instance zc27 : ZcOk Tryz.prog 27 [.v (.slice none 0 0)] := ⟨_, ze27, rfl⟩
instance zc31 : ZcOk Tryz.prog 31 [.v (.slice none 0 0)] := ⟨_, ze31, rfl⟩
instance fl33_0 : FldOk Tryz.prog 33 0 0 false 1 := ⟨⟨_, _, Tryz.underlying33, rfl, rfl, ty31⟩, by decide⟩
instance fl33_1 : FldOk Tryz.prog 33 1 1 false 1 := ⟨⟨_, _, Tryz.underlying33, rfl, rfl, ty31⟩, by decide⟩
instance zc33 : ZcOk Tryz.prog 33 [.v (.slice none 0 0), .v (.slice none 0 0)] := ⟨_, ze33, rfl⟩
instance bl33 : BldOk Tryz.prog 33 [.slice none 0 0, .slice none 0 0] [(0, 1), (1, 1)] := ⟨_, _, ze33.zero, rfl, Tryz.underlying33, fun _ => by kernel_rfl⟩
instance zc36 : ZcOk Tryz.prog 36 [.v (.slice none 0 0)] := ⟨_, ze36, rfl⟩
instance zc48 : ZcOk Tryz.prog 48 [.v (.slice none 0 0)] := ⟨_, ze48, rfl⟩
instance fl50_0 : FldOk Tryz.prog 50 0 0 false 1 := ⟨⟨_, _, Tryz.underlying50, rfl, rfl, ty48⟩, by decide⟩
instance zc50 : ZcOk Tryz.prog 50 [.v (.slice none 0 0)] := ⟨_, ze50, rfl⟩
instance bl50 : BldOk Tryz.prog 50 [.slice none 0 0] [(0, 1)] := ⟨_, _, ze50.zero, rfl, Tryz.underlying50, fun _ => by kernel_rfl⟩
instance zc51 : ZcOk Tryz.prog 51 [.v (.slice none 0 0)] := ⟨_, ze51, rfl⟩
instance fl60_0 : FldOk Tryz.prog 60 0 0 false 1 := ⟨⟨_, _, Tryz.underlying60, rfl, rfl, ty3⟩, by decide⟩
instance fl60_1 : FldOk Tryz.prog 60 1 1 false 1 := ⟨⟨_, _, Tryz.underlying60, rfl, rfl, ty3⟩, by decide⟩
instance fl60_2 : FldOk Tryz.prog 60 2 2 false 1 := ⟨⟨_, _, Tryz.underlying60, rfl, rfl, ty3⟩, by decide⟩
instance fl60_3 : FldOk Tryz.prog 60 3 3 false 1 := ⟨⟨_, _, Tryz.underlying60, rfl, rfl, ty3⟩, by decide⟩
instance zc60 : ZcOk Tryz.prog 60 [.v (.int .i64 0), .v (.int .i64 0), .v (.int .i64 0), .v (.int .i64 0)] := ⟨_, ze60, rfl⟩
instance bl60 : BldOk Tryz.prog 60 [.int .i64 0, .int .i64 0, .int .i64 0, .int .i64 0] [(0, 1), (1, 1), (2, 1), (3, 1)] := ⟨_, _, ze60.zero, rfl, Tryz.underlying60, fun _ => by kernel_rfl⟩
instance zc65 : ZcOk Tryz.prog 65 [.v (.slice none 0 0)] := ⟨_, ze65, rfl⟩
instance fl77_0 : FldOk Tryz.prog 77 0 0 false 1 := ⟨⟨_, _, Tryz.underlying77, rfl, rfl, ty3⟩, by decide⟩
instance fl77_1 : FldOk Tryz.prog 77 1 1 false 1 := ⟨⟨_, _, Tryz.underlying77, rfl, rfl, ty3⟩, by decide⟩
instance zc77 : ZcOk Tryz.prog 77 [.v (.int .i64 0), .v (.int .i64 0)] := ⟨_, ze77, rfl⟩
instance bl77 : BldOk Tryz.prog 77 [.int .i64 0, .int .i64 0] [(0, 1), (1, 1)] := ⟨_, _, ze77.zero, rfl, Tryz.underlying77, fun _ => by kernel_rfl⟩
instance fl79_0 : FldOk Tryz.prog 79 0 0 true 2 := ⟨⟨_, _, Tryz.underlying79, rfl, rfl, ty77⟩, by decide⟩
instance fl79_1 : FldOk Tryz.prog 79 1 2 true 2 := ⟨⟨_, _, Tryz.underlying79, rfl, rfl, ty77⟩, by decide⟩
instance zc79 : ZcOk Tryz.prog 79 [.v (.int .i64 0), .v (.int .i64 0), .v (.int .i64 0), .v (.int .i64 0)] := ⟨_, ze79, rfl⟩
instance bl79 : BldOk Tryz.prog 79 [.int .i64 0, .int .i64 0, .int .i64 0, .int .i64 0] [(0, 2), (2, 2)] := ⟨_, _, ze79.zero, rfl, Tryz.underlying79, fun _ => by kernel_rfl⟩
instance fl91_0 : FldOk Tryz.prog 91 0 0 false 1 := ⟨⟨_, _, Tryz.underlying91, rfl, rfl, ty3⟩, by decide⟩
instance fl91_1 : FldOk Tryz.prog 91 1 1 false 1 := ⟨⟨_, _, Tryz.underlying91, rfl, rfl, ty3⟩, by decide⟩
instance fl91_2 : FldOk Tryz.prog 91 2 2 false 1 := ⟨⟨_, _, Tryz.underlying91, rfl, rfl, ty3⟩, by decide⟩
instance zc91 : ZcOk Tryz.prog 91 [.v (.int .i64 0), .v (.int .i64 0), .v (.int .i64 0)] := ⟨_, ze91, rfl⟩
instance bl91 : BldOk Tryz.prog 91 [.int .i64 0, .int .i64 0, .int .i64 0] [(0, 1), (1, 1), (2, 1)] := ⟨_, _, ze91.zero, rfl, Tryz.underlying91, fun _ => by kernel_rfl⟩
instance zc95 : ZcOk Tryz.prog 95 [.v (.slice none 0 0)] := ⟨_, ze95, rfl⟩
instance fl109_0 : FldOk Tryz.prog 109 0 0 false 1 := ⟨⟨_, _, Tryz.underlying109, rfl, rfl, ty3⟩, by decide⟩
instance fl109_1 : FldOk Tryz.prog 109 1 1 false 1 := ⟨⟨_, _, Tryz.underlying109, rfl, rfl, ty3⟩, by decide⟩
instance fl109_2 : FldOk Tryz.prog 109 2 2 false 1 := ⟨⟨_, _, Tryz.underlying109, rfl, rfl, ty3⟩, by decide⟩
instance zc109 : ZcOk Tryz.prog 109 [.v (.int .i64 0), .v (.int .i64 0), .v (.int .i64 0)] := ⟨_, ze109, rfl⟩
instance bl109 : BldOk Tryz.prog 109 [.int .i64 0, .int .i64 0, .int .i64 0] [(0, 1), (1, 1), (2, 1)] := ⟨_, _, ze109.zero, rfl, Tryz.underlying109, fun _ => by kernel_rfl⟩
instance fl122_0 : FldOk Tryz.prog 122 0 0 false 1 := ⟨⟨_, _, Tryz.underlying122, rfl, rfl, ty3⟩, by decide⟩
instance fl122_1 : FldOk Tryz.prog 122 1 1 false 1 := ⟨⟨_, _, Tryz.underlying122, rfl, rfl, ty3⟩, by decide⟩
instance zc122 : ZcOk Tryz.prog 122 [.v (.int .i64 0), .v (.int .i64 0)] := ⟨_, ze122, rfl⟩
instance bl122 : BldOk Tryz.prog 122 [.int .i64 0, .int .i64 0] [(0, 1), (1, 1)] := ⟨_, _, ze122.zero, rfl, Tryz.underlying122, fun _ => by kernel_rfl⟩
instance fl129_0 : FldOk Tryz.prog 129 0 0 false 1 := ⟨⟨_, _, Tryz.underlying129, rfl, rfl, ty3⟩, by decide⟩
instance fl129_1 : FldOk Tryz.prog 129 1 1 false 1 := ⟨⟨_, _, Tryz.underlying129, rfl, rfl, ty3⟩, by decide⟩
instance fl129_2 : FldOk Tryz.prog 129 2 2 false 1 := ⟨⟨_, _, Tryz.underlying129, rfl, rfl, ty3⟩, by decide⟩
instance fl129_3 : FldOk Tryz.prog 129 3 3 false 1 := ⟨⟨_, _, Tryz.underlying129, rfl, rfl, ty3⟩, by decide⟩
instance zc129 : ZcOk Tryz.prog 129 [.v (.int .i64 0), .v (.int .i64 0), .v (.int .i64 0), .v (.int .i64 0)] := ⟨_, ze129, rfl⟩
instance bl129 : BldOk Tryz.prog 129 [.int .i64 0, .int .i64 0, .int .i64 0, .int .i64 0] [(0, 1), (1, 1), (2, 1), (3, 1)] := ⟨_, _, ze129.zero, rfl, Tryz.underlying129, fun _ => by kernel_rfl⟩
instance zc138 : ZcOk Tryz.prog 138 [.v (.slice none 0 0)] := ⟨_, ze138, rfl⟩
instance fl140_0 : FldOk Tryz.prog 140 0 0 false 1 := ⟨⟨_, _, Tryz.underlying140, rfl, rfl, ty138⟩, by decide⟩
instance zc140 : ZcOk Tryz.prog 140 [.v (.slice none 0 0)] := ⟨_, ze140, rfl⟩
instance bl140 : BldOk Tryz.prog 140 [.slice none 0 0] [(0, 1)] := ⟨_, _, ze140.zero, rfl, Tryz.underlying140, fun _ => by kernel_rfl⟩
instance fl152_0 : FldOk Tryz.prog 152 0 0 false 1 := ⟨⟨_, _, Tryz.underlying152, rfl, rfl, ty3⟩, by decide⟩
instance fl152_1 : FldOk Tryz.prog 152 1 1 false 1 := ⟨⟨_, _, Tryz.underlying152, rfl, rfl, ty3⟩, by decide⟩
instance zc152 : ZcOk Tryz.prog 152 [.v (.int .i64 0), .v (.int .i64 0)] := ⟨_, ze152, rfl⟩
instance bl152 : BldOk Tryz.prog 152 [.int .i64 0, .int .i64 0] [(0, 1), (1, 1)] := ⟨_, _, ze152.zero, rfl, Tryz.underlying152, fun _ => by kernel_rfl⟩
instance fl154_0 : FldOk Tryz.prog 154 0 0 true 2 := ⟨⟨_, _, Tryz.underlying154, rfl, rfl, ty152⟩, by decide⟩
instance fl154_1 : FldOk Tryz.prog 154 1 2 true 2 := ⟨⟨_, _, Tryz.underlying154, rfl, rfl, ty152⟩, by decide⟩
instance zc154 : ZcOk Tryz.prog 154 [.v (.int .i64 0), .v (.int .i64 0), .v (.int .i64 0), .v (.int .i64 0)] := ⟨_, ze154, rfl⟩
instance bl154 : BldOk Tryz.prog 154 [.int .i64 0, .int .i64 0, .int .i64 0, .int .i64 0] [(0, 2), (2, 2)] := ⟨_, _, ze154.zero, rfl, Tryz.underlying154, fun _ => by kernel_rfl⟩
instance zc159 : ZcOk Tryz.prog 159 [.v (.slice none 0 0)] := ⟨_, ze159, rfl⟩
instance zc164 : ZcOk Tryz.prog 164 [.v (.int .u64 0)] := ⟨_, ze164, rfl⟩
theorem in22 : (Tryz.prog.info? 5).map (fun i => (i.zero, i.size, i.bytes)) = some (some (.int .u8 0), 1, 1) := by kernel_rfl
instance sl22 : SlOk Tryz.prog 22 5 1 1 := ⟨Tryz.underlying22, slInfo in22 rfl, by decide⟩
instance zs22 : ZSlOk Tryz.prog 22 5 1 1 [.int .u8 0] := ⟨sl22, _, ze5.zero, rfl⟩
theorem in24 : (Tryz.prog.info? 79).map (fun i => (i.zero, i.size, i.bytes)) = some (some (.agg #[.int .i64 0, .int .i64 0, .int .i64 0, .int .i64 0]), 4, 32) := by kernel_rfl
instance sl24 : SlOk Tryz.prog 24 79 4 32 := ⟨Tryz.underlying24, slInfo in24 rfl, by decide⟩
instance zs24 : ZSlOk Tryz.prog 24 79 4 32 [.int .i64 0, .int .i64 0, .int .i64 0, .int .i64 0] := ⟨sl24, _, ze79.zero, rfl⟩
theorem in27 : (Tryz.prog.info? 91).map (fun i => (i.zero, i.size, i.bytes)) = some (some (.agg #[.int .i64 0, .int .i64 0, .int .i64 0]), 3, 24) := by kernel_rfl
instance sl27 : SlOk Tryz.prog 27 91 3 24 := ⟨Tryz.underlying27, slInfo in27 rfl, by decide⟩
instance zs27 : ZSlOk Tryz.prog 27 91 3 24 [.int .i64 0, .int .i64 0, .int .i64 0] := ⟨sl27, _, ze91.zero, rfl⟩
theorem in31 : (Tryz.prog.info? 3).map (fun i => (i.zero, i.size, i.bytes)) = some (some (.int .i64 0), 1, 8) := by kernel_rfl
instance sl31 : SlOk Tryz.prog 31 3 1 8 := ⟨Tryz.underlying31, slInfo in31 rfl, by decide⟩
instance zs31 : ZSlOk Tryz.prog 31 3 1 8 [.int .i64 0] := ⟨sl31, _, ze3.zero, rfl⟩
theorem in36 : (Tryz.prog.info? 129).map (fun i => (i.zero, i.size, i.bytes)) = some (some (.agg #[.int .i64 0, .int .i64 0, .int .i64 0, .int .i64 0]), 4, 32) := by kernel_rfl
instance sl36 : SlOk Tryz.prog 36 129 4 32 := ⟨Tryz.underlying36, slInfo in36 rfl, by decide⟩
instance zs36 : ZSlOk Tryz.prog 36 129 4 32 [.int .i64 0, .int .i64 0, .int .i64 0, .int .i64 0] := ⟨sl36, _, ze129.zero, rfl⟩
theorem in48 : (Tryz.prog.info? 154).map (fun i => (i.zero, i.size, i.bytes)) = some (some (.agg #[.int .i64 0, .int .i64 0, .int .i64 0, .int .i64 0]), 4, 32) := by kernel_rfl
instance sl48 : SlOk Tryz.prog 48 154 4 32 := ⟨Tryz.underlying48, slInfo in48 rfl, by decide⟩
instance zs48 : ZSlOk Tryz.prog 48 154 4 32 [.int .i64 0, .int .i64 0, .int .i64 0, .int .i64 0] := ⟨sl48, _, ze154.zero, rfl⟩
theorem in51 : (Tryz.prog.info? 109).map (fun i => (i.zero, i.size, i.bytes)) = some (some (.agg #[.int .i64 0, .int .i64 0, .int .i64 0]), 3, 24) := by kernel_rfl
instance sl51 : SlOk Tryz.prog 51 109 3 24 := ⟨Tryz.underlying51, slInfo in51 rfl, by decide⟩
instance zs51 : ZSlOk Tryz.prog 51 109 3 24 [.int .i64 0, .int .i64 0, .int .i64 0] := ⟨sl51, _, ze109.zero, rfl⟩
theorem in65 : (Tryz.prog.info? 60).map (fun i => (i.zero, i.size, i.bytes)) = some (some (.agg #[.int .i64 0, .int .i64 0, .int .i64 0, .int .i64 0]), 4, 32) := by kernel_rfl
instance sl65 : SlOk Tryz.prog 65 60 4 32 := ⟨Tryz.underlying65, slInfo in65 rfl, by decide⟩
instance zs65 : ZSlOk Tryz.prog 65 60 4 32 [.int .i64 0, .int .i64 0, .int .i64 0, .int .i64 0] := ⟨sl65, _, ze60.zero, rfl⟩
theorem in95 : (Tryz.prog.info? 122).map (fun i => (i.zero, i.size, i.bytes)) = some (some (.agg #[.int .i64 0, .int .i64 0]), 2, 16) := by kernel_rfl
instance sl95 : SlOk Tryz.prog 95 122 2 16 := ⟨Tryz.underlying95, slInfo in95 rfl, by decide⟩
instance zs95 : ZSlOk Tryz.prog 95 122 2 16 [.int .i64 0, .int .i64 0] := ⟨sl95, _, ze122.zero, rfl⟩
theorem in138 : (Tryz.prog.info? 77).map (fun i => (i.zero, i.size, i.bytes)) = some (some (.agg #[.int .i64 0, .int .i64 0]), 2, 16) := by kernel_rfl
instance sl138 : SlOk Tryz.prog 138 77 2 16 := ⟨Tryz.underlying138, slInfo in138 rfl, by decide⟩
instance zs138 : ZSlOk Tryz.prog 138 77 2 16 [.int .i64 0, .int .i64 0] := ⟨sl138, _, ze77.zero, rfl⟩
theorem in159 : (Tryz.prog.info? 65).map (fun i => (i.zero, i.size, i.bytes)) = some (some (.slice none 0 0), 1, 24) := by kernel_rfl
instance sl159 : SlOk Tryz.prog 159 65 1 24 := ⟨Tryz.underlying159, slInfo in159 rfl, by decide⟩
instance zs159 : ZSlOk Tryz.prog 159 65 1 24 [.slice none 0 0] := ⟨sl159, _, ze65.zero, rfl⟩
instance fn3 : FnOk Tryz.prog 3 := ⟨Tryz.f3, Tryz.func3, by kernel_rfl, by kernel_rfl⟩
instance fn4 : FnOk Tryz.prog 4 := ⟨Tryz.f4, Tryz.func4, by kernel_rfl, by kernel_rfl⟩
instance fn9 : FnOk Tryz.prog 9 := ⟨Tryz.f9, Tryz.func9, by kernel_rfl, by kernel_rfl⟩
instance fn14 : FnOk Tryz.prog 14 := ⟨Tryz.f14, Tryz.func14, by kernel_rfl, by kernel_rfl⟩
instance fn15 : FnOk Tryz.prog 15 := ⟨Tryz.f15, Tryz.func15, by kernel_rfl, by kernel_rfl⟩
instance fn17 : FnOk Tryz.prog 17 := ⟨Tryz.f17, Tryz.func17, by kernel_rfl, by kernel_rfl⟩
instance fn18 : FnOk Tryz.prog 18 := ⟨Tryz.f18, Tryz.func18, by kernel_rfl, by kernel_rfl⟩
instance fn20 : FnOk Tryz.prog 20 := ⟨Tryz.f20, Tryz.func20, by kernel_rfl, by kernel_rfl⟩
instance fn22 : FnOk Tryz.prog 22 := ⟨Tryz.f22, Tryz.func22, by kernel_rfl, by kernel_rfl⟩
instance fn24 : FnOk Tryz.prog 24 := ⟨Tryz.f24, Tryz.func24, by kernel_rfl, by kernel_rfl⟩
instance fn25 : FnOk Tryz.prog 25 := ⟨Tryz.f25, Tryz.func25, by kernel_rfl, by kernel_rfl⟩
instance fn26 : FnOk Tryz.prog 26 := ⟨Tryz.f26, Tryz.func26, by kernel_rfl, by kernel_rfl⟩
instance fn27 : FnOk Tryz.prog 27 := ⟨Tryz.f27, Tryz.func27, by kernel_rfl, by kernel_rfl⟩
instance fn28 : FnOk Tryz.prog 28 := ⟨Tryz.f28, Tryz.func28, by kernel_rfl, by kernel_rfl⟩
instance fn29 : FnOk Tryz.prog 29 := ⟨Tryz.f29, Tryz.func29, by kernel_rfl, by kernel_rfl⟩
instance fn30 : FnOk Tryz.prog 30 := ⟨Tryz.f30, Tryz.func30, by kernel_rfl, by kernel_rfl⟩
instance fn31 : FnOk Tryz.prog 31 := ⟨Tryz.f31, Tryz.func31, by kernel_rfl, by kernel_rfl⟩
instance fn41 : FnOk Tryz.prog 41 := ⟨Tryz.f41, Tryz.func41, by kernel_rfl, by kernel_rfl⟩
instance fn42 : FnOk Tryz.prog 42 := ⟨Tryz.f42, Tryz.func42, by kernel_rfl, by kernel_rfl⟩
instance fn43 : FnOk Tryz.prog 43 := ⟨Tryz.f43, Tryz.func43, by kernel_rfl, by kernel_rfl⟩
instance fn44 : FnOk Tryz.prog 44 := ⟨Tryz.f44, Tryz.func44, by kernel_rfl, by kernel_rfl⟩
instance fn45 : FnOk Tryz.prog 45 := ⟨Tryz.f45, Tryz.func45, by kernel_rfl, by kernel_rfl⟩
instance fn46 : FnOk Tryz.prog 46 := ⟨Tryz.f46, Tryz.func46, by kernel_rfl, by kernel_rfl⟩
instance fn52 : FnOk Tryz.prog 52 := ⟨Tryz.f52, Tryz.func52, by kernel_rfl, by kernel_rfl⟩
instance fn53 : FnOk Tryz.prog 53 := ⟨Tryz.f53, Tryz.func53, by kernel_rfl, by kernel_rfl⟩
instance fn54 : FnOk Tryz.prog 54 := ⟨Tryz.f54, Tryz.func54, by kernel_rfl, by kernel_rfl⟩
instance fn55 : FnOk Tryz.prog 55 := ⟨Tryz.f55, Tryz.func55, by kernel_rfl, by kernel_rfl⟩
instance fn56 : FnOk Tryz.prog 56 := ⟨Tryz.f56, Tryz.func56, by kernel_rfl, by kernel_rfl⟩
instance fn57 : FnOk Tryz.prog 57 := ⟨Tryz.f57, Tryz.func57, by kernel_rfl, by kernel_rfl⟩
instance fn58 : FnOk Tryz.prog 58 := ⟨Tryz.f58, Tryz.func58, by kernel_rfl, by kernel_rfl⟩
instance fn59 : FnOk Tryz.prog 59 := ⟨Tryz.f59, Tryz.func59, by kernel_rfl, by kernel_rfl⟩
instance fn60 : FnOk Tryz.prog 60 := ⟨Tryz.f60, Tryz.func60, by kernel_rfl, by kernel_rfl⟩
instance fn61 : FnOk Tryz.prog 61 := ⟨Tryz.f61, Tryz.func61, by kernel_rfl, by kernel_rfl⟩
instance fn62 : FnOk Tryz.prog 62 := ⟨Tryz.f62, Tryz.func62, by kernel_rfl, by kernel_rfl⟩
instance fn63 : FnOk Tryz.prog 63 := ⟨Tryz.f63, Tryz.func63, by kernel_rfl, by kernel_rfl⟩
instance fn64 : FnOk Tryz.prog 64 := ⟨Tryz.f64, Tryz.func64, by kernel_rfl, by kernel_rfl⟩
instance fn65 : FnOk Tryz.prog 65 := ⟨Tryz.f65, Tryz.func65, by kernel_rfl, by kernel_rfl⟩
instance fn66 : FnOk Tryz.prog 66 := ⟨Tryz.f66, Tryz.func66, by kernel_rfl, by kernel_rfl⟩
instance fn67 : FnOk Tryz.prog 67 := ⟨Tryz.f67, Tryz.func67, by kernel_rfl, by kernel_rfl⟩
instance fn70 : FnOk Tryz.prog 70 := ⟨Tryz.f70, Tryz.func70, by kernel_rfl, by kernel_rfl⟩
instance fn71 : FnOk Tryz.prog 71 := ⟨Tryz.f71, Tryz.func71, by kernel_rfl, by kernel_rfl⟩
instance fn72 : FnOk Tryz.prog 72 := ⟨Tryz.f72, Tryz.func72, by kernel_rfl, by kernel_rfl⟩
instance fn73 : FnOk Tryz.prog 73 := ⟨Tryz.f73, Tryz.func73, by kernel_rfl, by kernel_rfl⟩
instance fn74 : FnOk Tryz.prog 74 := ⟨Tryz.f74, Tryz.func74, by kernel_rfl, by kernel_rfl⟩
instance fn77 : FnOk Tryz.prog 77 := ⟨Tryz.f77, Tryz.func77, by kernel_rfl, by kernel_rfl⟩
instance fn78 : FnOk Tryz.prog 78 := ⟨Tryz.f78, Tryz.func78, by kernel_rfl, by kernel_rfl⟩
instance fn79 : FnOk Tryz.prog 79 := ⟨Tryz.f79, Tryz.func79, by kernel_rfl, by kernel_rfl⟩
instance fn80 : FnOk Tryz.prog 80 := ⟨Tryz.f80, Tryz.func80, by kernel_rfl, by kernel_rfl⟩
instance fn81 : FnOk Tryz.prog 81 := ⟨Tryz.f81, Tryz.func81, by kernel_rfl, by kernel_rfl⟩
instance fn82 : FnOk Tryz.prog 82 := ⟨Tryz.f82, Tryz.func82, by kernel_rfl, by kernel_rfl⟩
instance fn88 : FnOk Tryz.prog 88 := ⟨Tryz.f88, Tryz.func88, by kernel_rfl, by kernel_rfl⟩
instance fn89 : FnOk Tryz.prog 89 := ⟨Tryz.f89, Tryz.func89, by kernel_rfl, by kernel_rfl⟩
instance fn90 : FnOk Tryz.prog 90 := ⟨Tryz.f90, Tryz.func90, by kernel_rfl, by kernel_rfl⟩
instance fn91 : FnOk Tryz.prog 91 := ⟨Tryz.f91, Tryz.func91, by kernel_rfl, by kernel_rfl⟩
instance fn92 : FnOk Tryz.prog 92 := ⟨Tryz.f92, Tryz.func92, by kernel_rfl, by kernel_rfl⟩
instance fn93 : FnOk Tryz.prog 93 := ⟨Tryz.f93, Tryz.func93, by kernel_rfl, by kernel_rfl⟩
instance fn94 : FnOk Tryz.prog 94 := ⟨Tryz.f94, Tryz.func94, by kernel_rfl, by kernel_rfl⟩
instance fn95 : FnOk Tryz.prog 95 := ⟨Tryz.f95, Tryz.func95, by kernel_rfl, by kernel_rfl⟩
instance fn96 : FnOk Tryz.prog 96 := ⟨Tryz.f96, Tryz.func96, by kernel_rfl, by kernel_rfl⟩
instance fn98 : FnOk Tryz.prog 98 := ⟨Tryz.f98, Tryz.func98, by kernel_rfl, by kernel_rfl⟩
instance fn99 : FnOk Tryz.prog 99 := ⟨Tryz.f99, Tryz.func99, by kernel_rfl, by kernel_rfl⟩
instance fn100 : FnOk Tryz.prog 100 := ⟨Tryz.f100, Tryz.func100, by kernel_rfl, by kernel_rfl⟩
instance fn101 : FnOk Tryz.prog 101 := ⟨Tryz.f101, Tryz.func101, by kernel_rfl, by kernel_rfl⟩
instance fn102 : FnOk Tryz.prog 102 := ⟨Tryz.f102, Tryz.func102, by kernel_rfl, by kernel_rfl⟩
instance fn103 : FnOk Tryz.prog 103 := ⟨Tryz.f103, Tryz.func103, by kernel_rfl, by kernel_rfl⟩
instance fn104 : FnOk Tryz.prog 104 := ⟨Tryz.f104, Tryz.func104, by kernel_rfl, by kernel_rfl⟩
instance fn105 : FnOk Tryz.prog 105 := ⟨Tryz.f105, Tryz.func105, by kernel_rfl, by kernel_rfl⟩
instance fn106 : FnOk Tryz.prog 106 := ⟨Tryz.f106, Tryz.func106, by kernel_rfl, by kernel_rfl⟩
instance fn107 : FnOk Tryz.prog 107 := ⟨Tryz.f107, Tryz.func107, by kernel_rfl, by kernel_rfl⟩
instance fn108 : FnOk Tryz.prog 108 := ⟨Tryz.f108, Tryz.func108, by kernel_rfl, by kernel_rfl⟩
instance fn109 : FnOk Tryz.prog 109 := ⟨Tryz.f109, Tryz.func109, by kernel_rfl, by kernel_rfl⟩
instance fn110 : FnOk Tryz.prog 110 := ⟨Tryz.f110, Tryz.func110, by kernel_rfl, by kernel_rfl⟩
instance fn111 : FnOk Tryz.prog 111 := ⟨Tryz.f111, Tryz.func111, by kernel_rfl, by kernel_rfl⟩
instance fn112 : FnOk Tryz.prog 112 := ⟨Tryz.f112, Tryz.func112, by kernel_rfl, by kernel_rfl⟩
instance fn113 : FnOk Tryz.prog 113 := ⟨Tryz.f113, Tryz.func113, by kernel_rfl, by kernel_rfl⟩
instance fn114 : FnOk Tryz.prog 114 := ⟨Tryz.f114, Tryz.func114, by kernel_rfl, by kernel_rfl⟩
instance fn115 : FnOk Tryz.prog 115 := ⟨Tryz.f115, Tryz.func115, by kernel_rfl, by kernel_rfl⟩
instance fn117 : FnOk Tryz.prog 117 := ⟨Tryz.f117, Tryz.func117, by kernel_rfl, by kernel_rfl⟩
instance fn118 : FnOk Tryz.prog 118 := ⟨Tryz.f118, Tryz.func118, by kernel_rfl, by kernel_rfl⟩
instance fn119 : FnOk Tryz.prog 119 := ⟨Tryz.f119, Tryz.func119, by kernel_rfl, by kernel_rfl⟩
instance fn120 : FnOk Tryz.prog 120 := ⟨Tryz.f120, Tryz.func120, by kernel_rfl, by kernel_rfl⟩
instance fn121 : FnOk Tryz.prog 121 := ⟨Tryz.f121, Tryz.func121, by kernel_rfl, by kernel_rfl⟩
instance fn122 : FnOk Tryz.prog 122 := ⟨Tryz.f122, Tryz.func122, by kernel_rfl, by kernel_rfl⟩
instance fn123 : FnOk Tryz.prog 123 := ⟨Tryz.f123, Tryz.func123, by kernel_rfl, by kernel_rfl⟩
instance fn124 : FnOk Tryz.prog 124 := ⟨Tryz.f124, Tryz.func124, by kernel_rfl, by kernel_rfl⟩
instance fn125 : FnOk Tryz.prog 125 := ⟨Tryz.f125, Tryz.func125, by kernel_rfl, by kernel_rfl⟩
instance fn129 : FnOk Tryz.prog 129 := ⟨Tryz.f129, Tryz.func129, by kernel_rfl, by kernel_rfl⟩
instance fn130 : FnOk Tryz.prog 130 := ⟨Tryz.f130, Tryz.func130, by kernel_rfl, by kernel_rfl⟩
instance fn133 : FnOk Tryz.prog 133 := ⟨Tryz.f133, Tryz.func133, by kernel_rfl, by kernel_rfl⟩
instance fn134 : FnOk Tryz.prog 134 := ⟨Tryz.f134, Tryz.func134, by kernel_rfl, by kernel_rfl⟩
instance fn135 : FnOk Tryz.prog 135 := ⟨Tryz.f135, Tryz.func135, by kernel_rfl, by kernel_rfl⟩
instance fn136 : FnOk Tryz.prog 136 := ⟨Tryz.f136, Tryz.func136, by kernel_rfl, by kernel_rfl⟩
instance fn137 : FnOk Tryz.prog 137 := ⟨Tryz.f137, Tryz.func137, by kernel_rfl, by kernel_rfl⟩
instance fn138 : FnOk Tryz.prog 138 := ⟨Tryz.f138, Tryz.func138, by kernel_rfl, by kernel_rfl⟩
instance fn139 : FnOk Tryz.prog 139 := ⟨Tryz.f139, Tryz.func139, by kernel_rfl, by kernel_rfl⟩
instance fn143 : FnOk Tryz.prog 143 := ⟨Tryz.f143, Tryz.func143, by kernel_rfl, by kernel_rfl⟩
instance fn145 : FnOk Tryz.prog 145 := ⟨Tryz.f145, Tryz.func145, by kernel_rfl, by kernel_rfl⟩
instance fn146 : FnOk Tryz.prog 146 := ⟨Tryz.f146, Tryz.func146, by kernel_rfl, by kernel_rfl⟩
instance fn147 : FnOk Tryz.prog 147 := ⟨Tryz.f147, Tryz.func147, by kernel_rfl, by kernel_rfl⟩
instance fn148 : FnOk Tryz.prog 148 := ⟨Tryz.f148, Tryz.func148, by kernel_rfl, by kernel_rfl⟩
instance fn149 : FnOk Tryz.prog 149 := ⟨Tryz.f149, Tryz.func149, by kernel_rfl, by kernel_rfl⟩
instance fn150 : FnOk Tryz.prog 150 := ⟨Tryz.f150, Tryz.func150, by kernel_rfl, by kernel_rfl⟩
instance fn151 : FnOk Tryz.prog 151 := ⟨Tryz.f151, Tryz.func151, by kernel_rfl, by kernel_rfl⟩
instance fn152 : FnOk Tryz.prog 152 := ⟨Tryz.f152, Tryz.func152, by kernel_rfl, by kernel_rfl⟩
instance fn153 : FnOk Tryz.prog 153 := ⟨Tryz.f153, Tryz.func153, by kernel_rfl, by kernel_rfl⟩
instance fn154 : FnOk Tryz.prog 154 := ⟨Tryz.f154, Tryz.func154, by kernel_rfl, by kernel_rfl⟩
instance fn155 : FnOk Tryz.prog 155 := ⟨Tryz.f155, Tryz.func155, by kernel_rfl, by kernel_rfl⟩
instance fn157 : FnOk Tryz.prog 157 := ⟨Tryz.f157, Tryz.func157, by kernel_rfl, by kernel_rfl⟩
instance fn158 : FnOk Tryz.prog 158 := ⟨Tryz.f158, Tryz.func158, by kernel_rfl, by kernel_rfl⟩
instance fn159 : FnOk Tryz.prog 159 := ⟨Tryz.f159, Tryz.func159, by kernel_rfl, by kernel_rfl⟩
instance fn160 : FnOk Tryz.prog 160 := ⟨Tryz.f160, Tryz.func160, by kernel_rfl, by kernel_rfl⟩
instance fn161 : FnOk Tryz.prog 161 := ⟨Tryz.f161, Tryz.func161, by kernel_rfl, by kernel_rfl⟩
instance fn163 : FnOk Tryz.prog 163 := ⟨Tryz.f163, Tryz.func163, by kernel_rfl, by kernel_rfl⟩
instance fn164 : FnOk Tryz.prog 164 := ⟨Tryz.f164, Tryz.func164, by kernel_rfl, by kernel_rfl⟩
instance fn165 : FnOk Tryz.prog 165 := ⟨Tryz.f165, Tryz.func165, by kernel_rfl, by kernel_rfl⟩
instance fn166 : FnOk Tryz.prog 166 := ⟨Tryz.f166, Tryz.func166, by kernel_rfl, by kernel_rfl⟩
instance fn180 : FnOk Tryz.prog 180 := ⟨Tryz.f180, Tryz.func180, by kernel_rfl, by kernel_rfl⟩
instance fn186 : FnOk Tryz.prog 186 := ⟨Tryz.f186, Tryz.func186, by kernel_rfl, by kernel_rfl⟩
instance fn187 : FnOk Tryz.prog 187 := ⟨Tryz.f187, Tryz.func187, by kernel_rfl, by kernel_rfl⟩
instance fn188 : FnOk Tryz.prog 188 := ⟨Tryz.f188, Tryz.func188, by kernel_rfl, by kernel_rfl⟩
instance fn189 : FnOk Tryz.prog 189 := ⟨Tryz.f189, Tryz.func189, by kernel_rfl, by kernel_rfl⟩
instance fn192 : FnOk Tryz.prog 192 := ⟨Tryz.f192, Tryz.func192, by kernel_rfl, by kernel_rfl⟩
instance fn193 : FnOk Tryz.prog 193 := ⟨Tryz.f193, Tryz.func193, by kernel_rfl, by kernel_rfl⟩
instance fn194 : FnOk Tryz.prog 194 := ⟨Tryz.f194, Tryz.func194, by kernel_rfl, by kernel_rfl⟩
instance fn195 : FnOk Tryz.prog 195 := ⟨Tryz.f195, Tryz.func195, by kernel_rfl, by kernel_rfl⟩
instance fn196 : FnOk Tryz.prog 196 := ⟨Tryz.f196, Tryz.func196, by kernel_rfl, by kernel_rfl⟩
instance fn197 : FnOk Tryz.prog 197 := ⟨Tryz.f197, Tryz.func197, by kernel_rfl, by kernel_rfl⟩
instance fn198 : FnOk Tryz.prog 198 := ⟨Tryz.f198, Tryz.func198, by kernel_rfl, by kernel_rfl⟩
instance fn199 : FnOk Tryz.prog 199 := ⟨Tryz.f199, Tryz.func199, by kernel_rfl, by kernel_rfl⟩
instance fn200 : FnOk Tryz.prog 200 := ⟨Tryz.f200, Tryz.func200, by kernel_rfl, by kernel_rfl⟩
instance fn205 : FnOk Tryz.prog 205 := ⟨Tryz.f205, Tryz.func205, by kernel_rfl, by kernel_rfl⟩
instance fn206 : FnOk Tryz.prog 206 := ⟨Tryz.f206, Tryz.func206, by kernel_rfl, by kernel_rfl⟩
instance fn209 : FnOk Tryz.prog 209 := ⟨Tryz.f209, Tryz.func209, by kernel_rfl, by kernel_rfl⟩
section
variable {E : En} {bl : List (Nat × List AV)} {tm : List (Nat × AV)} {d : Option Tmp} {ty : TypeId} {pos : String} {af : Array Edge} {gd : Option (Nat × Bool)} {op : Op} {v : AV}
theorem qv9 (h : QV E bl tm ⟨d, op, ty, pos, af, gd⟩ v [] [] := by first | exact qv0 | exact QV_beq Tryz.underlying4 rfl rfl | exact QV_bne Tryz.underlying4 rfl rfl | exact qv1) : QV E bl tm ⟨d, op, ty, pos, af, gd⟩ v [] [] := h
end
end Go.Proofs.YtkieepmkcaipaaaGreat
