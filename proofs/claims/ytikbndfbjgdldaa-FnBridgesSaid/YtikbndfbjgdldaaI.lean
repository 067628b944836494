/- What the seat's types are: cells, fields, zeros; which functions have bodies. -/
import Derived.Test.YtikbndfbjgdldaaEV
import Derived.Test.YtikbndfbjgdldaaRows
namespace Go.Proofs.Ytikbndfbjgdldaa
open Go.Eng

theorem slInfo {P : Program} {T : Nat} {z : Value} {e by_ : Nat} (h : (P.info? T).map (fun i => (i.zero, i.size, i.bytes)) = some (some z, e, by_)) (hz : z.cells.size = e) :
    ∃ i z, P.info? T = some i ∧ i.zero = some z ∧ i.size = e ∧ i.bytes = by_ ∧ z.cells.size = e := by
  cases hi : P.info? T with
  | none => rw [hi] at h; simp at h
  | some i =>
    rw [hi] at h
    simp only [Option.map_some, Option.some.injEq, Prod.mk.injEq] at h
    exact ⟨i, z, rfl, h.1, h.2.1, h.2.2, hz⟩
instance ty1 : TyOk Try.prog 1 false 1 := ⟨fun _ => by kernel_rfl, fun _ => by kernel_rfl⟩
instance ze1 : ZeroOk Try.prog 1 (.nilFunc) := ⟨fun _ => by kernel_rfl⟩
instance ty3 : TyOk Try.prog 3 false 1 := ⟨fun _ => by kernel_rfl, fun _ => by kernel_rfl⟩
instance ze3 : ZeroOk Try.prog 3 (.int .i64 0) := ⟨fun _ => by kernel_rfl⟩
instance ty4 : TyOk Try.prog 4 false 1 := ⟨fun _ => by kernel_rfl, fun _ => by kernel_rfl⟩
instance ze4 : ZeroOk Try.prog 4 (.bool false) := ⟨fun _ => by kernel_rfl⟩
instance ty5 : TyOk Try.prog 5 false 1 := ⟨fun _ => by kernel_rfl, fun _ => by kernel_rfl⟩
instance ze5 : ZeroOk Try.prog 5 (.int .u8 0) := ⟨fun _ => by kernel_rfl⟩
instance ty22 : TyOk Try.prog 22 false 1 := ⟨fun _ => by kernel_rfl, fun _ => by kernel_rfl⟩
instance ze22 : ZeroOk Try.prog 22 (.slice none 0 0) := ⟨fun _ => by kernel_rfl⟩
instance ty23 : TyOk Try.prog 23 false 1 := ⟨fun _ => by kernel_rfl, fun _ => by kernel_rfl⟩
instance ze23 : ZeroOk Try.prog 23 (.nilFunc) := ⟨fun _ => by kernel_rfl⟩
instance ty24 : TyOk Try.prog 24 false 1 := ⟨fun _ => by kernel_rfl, fun _ => by kernel_rfl⟩
instance ze24 : ZeroOk Try.prog 24 (.slice none 0 0) := ⟨fun _ => by kernel_rfl⟩
instance ty25 : TyOk Try.prog 25 false 1 := ⟨fun _ => by kernel_rfl, fun _ => by kernel_rfl⟩
instance ze25 : ZeroOk Try.prog 25 (.nilFunc) := ⟨fun _ => by kernel_rfl⟩
instance ty26 : TyOk Try.prog 26 false 1 := ⟨fun _ => by kernel_rfl, fun _ => by kernel_rfl⟩
instance ze26 : ZeroOk Try.prog 26 (.slice none 0 0) := ⟨fun _ => by kernel_rfl⟩
instance ty28 : TyOk Try.prog 28 false 1 := ⟨fun _ => by kernel_rfl, fun _ => by kernel_rfl⟩
instance ze28 : ZeroOk Try.prog 28 (.nilFunc) := ⟨fun _ => by kernel_rfl⟩
instance ty30 : TyOk Try.prog 30 true 3 := ⟨fun _ => by kernel_rfl, fun _ => by kernel_rfl⟩
instance ze30 : ZeroOk Try.prog 30 (.agg #[.int .i64 0, .int .i64 0, .int .i64 0]) := ⟨fun _ => by kernel_rfl⟩
instance ty31 : TyOk Try.prog 31 false 1 := ⟨fun _ => by kernel_rfl, fun _ => by kernel_rfl⟩
instance ze31 : ZeroOk Try.prog 31 (.nilFunc) := ⟨fun _ => by kernel_rfl⟩
instance ty32 : TyOk Try.prog 32 false 1 := ⟨fun _ => by kernel_rfl, fun _ => by kernel_rfl⟩
instance ze32 : ZeroOk Try.prog 32 (.nilFunc) := ⟨fun _ => by kernel_rfl⟩
instance ty34 : TyOk Try.prog 34 true 2 := ⟨fun _ => by kernel_rfl, fun _ => by kernel_rfl⟩
instance ze34 : ZeroOk Try.prog 34 (.agg #[.int .i64 0, .int .i64 0]) := ⟨fun _ => by kernel_rfl⟩
instance ty36 : TyOk Try.prog 36 false 1 := ⟨fun _ => by kernel_rfl, fun _ => by kernel_rfl⟩
instance ze36 : ZeroOk Try.prog 36 (.nilFunc) := ⟨fun _ => by kernel_rfl⟩
instance ty37 : TyOk Try.prog 37 false 1 := ⟨fun _ => by kernel_rfl, fun _ => by kernel_rfl⟩
instance ze37 : ZeroOk Try.prog 37 (.nilFunc) := ⟨fun _ => by kernel_rfl⟩
instance ty38 : TyOk Try.prog 38 false 1 := ⟨fun _ => by kernel_rfl, fun _ => by kernel_rfl⟩
instance ze38 : ZeroOk Try.prog 38 (.nilFunc) := ⟨fun _ => by kernel_rfl⟩
instance ty39 : TyOk Try.prog 39 false 1 := ⟨fun _ => by kernel_rfl, fun _ => by kernel_rfl⟩
instance ze39 : ZeroOk Try.prog 39 (.nilFunc) := ⟨fun _ => by kernel_rfl⟩
instance ty40 : TyOk Try.prog 40 false 1 := ⟨fun _ => by kernel_rfl, fun _ => by kernel_rfl⟩
instance ze40 : ZeroOk Try.prog 40 (.nilFunc) := ⟨fun _ => by kernel_rfl⟩
instance ty41 : TyOk Try.prog 41 false 1 := ⟨fun _ => by kernel_rfl, fun _ => by kernel_rfl⟩
instance ze41 : ZeroOk Try.prog 41 (.slice none 0 0) := ⟨fun _ => by kernel_rfl⟩
instance ty43 : TyOk Try.prog 43 true 1 := ⟨fun _ => by kernel_rfl, fun _ => by kernel_rfl⟩
instance ze43 : ZeroOk Try.prog 43 (.agg #[.slice none 0 0]) := ⟨fun _ => by kernel_rfl⟩
instance ty44 : TyOk Try.prog 44 false 1 := ⟨fun _ => by kernel_rfl, fun _ => by kernel_rfl⟩
instance ze44 : ZeroOk Try.prog 44 (.slice none 0 0) := ⟨fun _ => by kernel_rfl⟩
instance ty46 : TyOk Try.prog 46 false 1 := ⟨fun _ => by kernel_rfl, fun _ => by kernel_rfl⟩
instance ze46 : ZeroOk Try.prog 46 (.nilFunc) := ⟨fun _ => by kernel_rfl⟩
instance ty47 : TyOk Try.prog 47 false 1 := ⟨fun _ => by kernel_rfl, fun _ => by kernel_rfl⟩
instance ze47 : ZeroOk Try.prog 47 (.nilFunc) := ⟨fun _ => by kernel_rfl⟩
instance ty48 : TyOk Try.prog 48 false 1 := ⟨fun _ => by kernel_rfl, fun _ => by kernel_rfl⟩
instance ze48 : ZeroOk Try.prog 48 (.slice none 0 0) := ⟨fun _ => by kernel_rfl⟩
instance ty50 : TyOk Try.prog 50 true 1 := ⟨fun _ => by kernel_rfl, fun _ => by kernel_rfl⟩
instance ze50 : ZeroOk Try.prog 50 (.agg #[.slice none 0 0]) := ⟨fun _ => by kernel_rfl⟩
instance ty51 : TyOk Try.prog 51 false 1 := ⟨fun _ => by kernel_rfl, fun _ => by kernel_rfl⟩
instance ze51 : ZeroOk Try.prog 51 (.nilFunc) := ⟨fun _ => by kernel_rfl⟩
instance ty52 : TyOk Try.prog 52 false 1 := ⟨fun _ => by kernel_rfl, fun _ => by kernel_rfl⟩
instance ze52 : ZeroOk Try.prog 52 (.nilFunc) := ⟨fun _ => by kernel_rfl⟩
instance ty54 : TyOk Try.prog 54 true 3 := ⟨fun _ => by kernel_rfl, fun _ => by kernel_rfl⟩
instance ze54 : ZeroOk Try.prog 54 (.agg #[.int .i64 0, .int .i64 0, .int .i64 0]) := ⟨fun _ => by kernel_rfl⟩
instance ty56 : TyOk Try.prog 56 false 1 := ⟨fun _ => by kernel_rfl, fun _ => by kernel_rfl⟩
instance ze56 : ZeroOk Try.prog 56 (.nilFunc) := ⟨fun _ => by kernel_rfl⟩
instance ty57 : TyOk Try.prog 57 false 1 := ⟨fun _ => by kernel_rfl, fun _ => by kernel_rfl⟩
instance ze57 : ZeroOk Try.prog 57 (.nilFunc) := ⟨fun _ => by kernel_rfl⟩
instance ty58 : TyOk Try.prog 58 false 1 := ⟨fun _ => by kernel_rfl, fun _ => by kernel_rfl⟩
instance ze58 : ZeroOk Try.prog 58 (.nilFunc) := ⟨fun _ => by kernel_rfl⟩
instance ty59 : TyOk Try.prog 59 false 1 := ⟨fun _ => by kernel_rfl, fun _ => by kernel_rfl⟩
instance ze59 : ZeroOk Try.prog 59 (.nilFunc) := ⟨fun _ => by kernel_rfl⟩
instance ty61 : TyOk Try.prog 61 false 1 := ⟨fun _ => by kernel_rfl, fun _ => by kernel_rfl⟩
instance ze61 : ZeroOk Try.prog 61 (.nilFunc) := ⟨fun _ => by kernel_rfl⟩
instance ty62 : TyOk Try.prog 62 false 1 := ⟨fun _ => by kernel_rfl, fun _ => by kernel_rfl⟩
instance ze62 : ZeroOk Try.prog 62 (.slice none 0 0) := ⟨fun _ => by kernel_rfl⟩
instance ty64 : TyOk Try.prog 64 false 1 := ⟨fun _ => by kernel_rfl, fun _ => by kernel_rfl⟩
instance ze64 : ZeroOk Try.prog 64 (.nilFunc) := ⟨fun _ => by kernel_rfl⟩
instance ty66 : TyOk Try.prog 66 true 2 := ⟨fun _ => by kernel_rfl, fun _ => by kernel_rfl⟩
instance ze66 : ZeroOk Try.prog 66 (.agg #[.int .i64 0, .int .i64 0]) := ⟨fun _ => by kernel_rfl⟩
instance ty67 : TyOk Try.prog 67 false 1 := ⟨fun _ => by kernel_rfl, fun _ => by kernel_rfl⟩
instance ze67 : ZeroOk Try.prog 67 (.nilFunc) := ⟨fun _ => by kernel_rfl⟩
instance ty68 : TyOk Try.prog 68 false 1 := ⟨fun _ => by kernel_rfl, fun _ => by kernel_rfl⟩
instance ze68 : ZeroOk Try.prog 68 (.nilFunc) := ⟨fun _ => by kernel_rfl⟩
instance ty69 : TyOk Try.prog 69 false 1 := ⟨fun _ => by kernel_rfl, fun _ => by kernel_rfl⟩
instance ze69 : ZeroOk Try.prog 69 (.nilFunc) := ⟨fun _ => by kernel_rfl⟩
instance ty70 : TyOk Try.prog 70 false 1 := ⟨fun _ => by kernel_rfl, fun _ => by kernel_rfl⟩
instance ze70 : ZeroOk Try.prog 70 (.nilFunc) := ⟨fun _ => by kernel_rfl⟩
instance ty72 : TyOk Try.prog 72 true 3 := ⟨fun _ => by kernel_rfl, fun _ => by kernel_rfl⟩
instance ze72 : ZeroOk Try.prog 72 (.agg #[.int .i64 0, .int .i64 0, .int .i64 0]) := ⟨fun _ => by kernel_rfl⟩
instance ty73 : TyOk Try.prog 73 false 1 := ⟨fun _ => by kernel_rfl, fun _ => by kernel_rfl⟩
instance ze73 : ZeroOk Try.prog 73 (.nilFunc) := ⟨fun _ => by kernel_rfl⟩
instance ty74 : TyOk Try.prog 74 false 1 := ⟨fun _ => by kernel_rfl, fun _ => by kernel_rfl⟩
instance ze74 : ZeroOk Try.prog 74 (.nilFunc) := ⟨fun _ => by kernel_rfl⟩
instance ty75 : TyOk Try.prog 75 false 1 := ⟨fun _ => by kernel_rfl, fun _ => by kernel_rfl⟩
instance ze75 : ZeroOk Try.prog 75 (.nilFunc) := ⟨fun _ => by kernel_rfl⟩
instance ty76 : TyOk Try.prog 76 false 1 := ⟨fun _ => by kernel_rfl, fun _ => by kernel_rfl⟩
instance ze76 : ZeroOk Try.prog 76 (.nilFunc) := ⟨fun _ => by kernel_rfl⟩
instance ty77 : TyOk Try.prog 77 false 1 := ⟨fun _ => by kernel_rfl, fun _ => by kernel_rfl⟩
instance ze77 : ZeroOk Try.prog 77 (.nilFunc) := ⟨fun _ => by kernel_rfl⟩
instance ty78 : TyOk Try.prog 78 false 1 := ⟨fun _ => by kernel_rfl, fun _ => by kernel_rfl⟩
instance ze78 : ZeroOk Try.prog 78 (.nilFunc) := ⟨fun _ => by kernel_rfl⟩
instance ty80 : TyOk Try.prog 80 true 2 := ⟨fun _ => by kernel_rfl, fun _ => by kernel_rfl⟩
instance ze80 : ZeroOk Try.prog 80 (.agg #[.int .i64 0, .int .i64 0]) := ⟨fun _ => by kernel_rfl⟩
instance ty81 : TyOk Try.prog 81 false 1 := ⟨fun _ => by kernel_rfl, fun _ => by kernel_rfl⟩
instance ze81 : ZeroOk Try.prog 81 (.nilFunc) := ⟨fun _ => by kernel_rfl⟩
instance ty82 : TyOk Try.prog 82 false 1 := ⟨fun _ => by kernel_rfl, fun _ => by kernel_rfl⟩
instance ze82 : ZeroOk Try.prog 82 (.nilFunc) := ⟨fun _ => by kernel_rfl⟩
instance ty84 : TyOk Try.prog 84 false 1 := ⟨fun _ => by kernel_rfl, fun _ => by kernel_rfl⟩
instance ze84 : ZeroOk Try.prog 84 (.nilFunc) := ⟨fun _ => by kernel_rfl⟩
instance ty86 : TyOk Try.prog 86 true 2 := ⟨fun _ => by kernel_rfl, fun _ => by kernel_rfl⟩
instance ze86 : ZeroOk Try.prog 86 (.agg #[.int .i64 0, .int .i64 0]) := ⟨fun _ => by kernel_rfl⟩
instance ty88 : TyOk Try.prog 88 true 4 := ⟨fun _ => by kernel_rfl, fun _ => by kernel_rfl⟩
instance ze88 : ZeroOk Try.prog 88 (.agg #[.int .i64 0, .int .i64 0, .int .i64 0, .int .i64 0]) := ⟨fun _ => by kernel_rfl⟩
instance ty89 : TyOk Try.prog 89 false 1 := ⟨fun _ => by kernel_rfl, fun _ => by kernel_rfl⟩
instance ze89 : ZeroOk Try.prog 89 (.nilFunc) := ⟨fun _ => by kernel_rfl⟩
instance ty90 : TyOk Try.prog 90 false 1 := ⟨fun _ => by kernel_rfl, fun _ => by kernel_rfl⟩
instance ze90 : ZeroOk Try.prog 90 (.nilFunc) := ⟨fun _ => by kernel_rfl⟩
instance ty91 : TyOk Try.prog 91 false 1 := ⟨fun _ => by kernel_rfl, fun _ => by kernel_rfl⟩
instance ze91 : ZeroOk Try.prog 91 (.nilFunc) := ⟨fun _ => by kernel_rfl⟩
instance ty95 : TyOk Try.prog 95 false 1 := ⟨fun _ => by kernel_rfl, fun _ => by kernel_rfl⟩
instance ze95 : ZeroOk Try.prog 95 (.nilFunc) := ⟨fun _ => by kernel_rfl⟩
instance ty96 : TyOk Try.prog 96 false 1 := ⟨fun _ => by kernel_rfl, fun _ => by kernel_rfl⟩
instance ze96 : ZeroOk Try.prog 96 (.nilFunc) := ⟨fun _ => by kernel_rfl⟩
instance ty97 : TyOk Try.prog 97 false 1 := ⟨fun _ => by kernel_rfl, fun _ => by kernel_rfl⟩
instance ze97 : ZeroOk Try.prog 97 (.nilFunc) := ⟨fun _ => by kernel_rfl⟩
instance ty98 : TyOk Try.prog 98 false 1 := ⟨fun _ => by kernel_rfl, fun _ => by kernel_rfl⟩
instance ze98 : ZeroOk Try.prog 98 (.nilFunc) := ⟨fun _ => by kernel_rfl⟩
instance ty99 : TyOk Try.prog 99 false 1 := ⟨fun _ => by kernel_rfl, fun _ => by kernel_rfl⟩
instance ze99 : ZeroOk Try.prog 99 (.nilFunc) := ⟨fun _ => by kernel_rfl⟩
instance ty100 : TyOk Try.prog 100 false 1 := ⟨fun _ => by kernel_rfl, fun _ => by kernel_rfl⟩
instance ze100 : ZeroOk Try.prog 100 (.slice none 0 0) := ⟨fun _ => by kernel_rfl⟩
instance ty101 : TyOk Try.prog 101 false 1 := ⟨fun _ => by kernel_rfl, fun _ => by kernel_rfl⟩
instance ze101 : ZeroOk Try.prog 101 (.nilFunc) := ⟨fun _ => by kernel_rfl⟩
instance ty102 : TyOk Try.prog 102 false 1 := ⟨fun _ => by kernel_rfl, fun _ => by kernel_rfl⟩
instance ze102 : ZeroOk Try.prog 102 (.nilFunc) := ⟨fun _ => by kernel_rfl⟩
instance ty103 : TyOk Try.prog 103 false 1 := ⟨fun _ => by kernel_rfl, fun _ => by kernel_rfl⟩
instance ze103 : ZeroOk Try.prog 103 (.nilFunc) := ⟨fun _ => by kernel_rfl⟩
instance ty105 : TyOk Try.prog 105 false 1 := ⟨fun _ => by kernel_rfl, fun _ => by kernel_rfl⟩
instance ze105 : ZeroOk Try.prog 105 (.nilFunc) := ⟨fun _ => by kernel_rfl⟩
instance ty106 : TyOk Try.prog 106 false 1 := ⟨fun _ => by kernel_rfl, fun _ => by kernel_rfl⟩
instance ze106 : ZeroOk Try.prog 106 (.nilFunc) := ⟨fun _ => by kernel_rfl⟩
instance ty107 : TyOk Try.prog 107 false 1 := ⟨fun _ => by kernel_rfl, fun _ => by kernel_rfl⟩
instance ze107 : ZeroOk Try.prog 107 (.nilFunc) := ⟨fun _ => by kernel_rfl⟩
instance ty108 : TyOk Try.prog 108 false 1 := ⟨fun _ => by kernel_rfl, fun _ => by kernel_rfl⟩
instance ze108 : ZeroOk Try.prog 108 (.nilFunc) := ⟨fun _ => by kernel_rfl⟩
instance ty114 : TyOk Try.prog 114 false 1 := ⟨fun _ => by kernel_rfl, fun _ => by kernel_rfl⟩
instance ze114 : ZeroOk Try.prog 114 (.nilFunc) := ⟨fun _ => by kernel_rfl⟩
instance ty118 : TyOk Try.prog 118 false 1 := ⟨fun _ => by kernel_rfl, fun _ => by kernel_rfl⟩
instance ze118 : ZeroOk Try.prog 118 (.nilFunc) := ⟨fun _ => by kernel_rfl⟩
instance ty124 : TyOk Try.prog 124 false 1 := ⟨fun _ => by kernel_rfl, fun _ => by kernel_rfl⟩
instance ze124 : ZeroOk Try.prog 124 (.nilFunc) := ⟨fun _ => by kernel_rfl⟩
instance zc1 : ZcOk Try.prog 1 [.v (.nilFunc)] := ⟨_, ze1, rfl⟩
instance zc3 : ZcOk Try.prog 3 [.v (.int .i64 0)] := ⟨_, ze3, rfl⟩
instance zc4 : ZcOk Try.prog 4 [.v (.bool false)] := ⟨_, ze4, rfl⟩
instance zc5 : ZcOk Try.prog 5 [.v (.int .u8 0)] := ⟨_, ze5, rfl⟩
instance zc22 : ZcOk Try.prog 22 [.v (.slice none 0 0)] := ⟨_, ze22, rfl⟩
instance zc23 : ZcOk Try.prog 23 [.v (.nilFunc)] := ⟨_, ze23, rfl⟩
instance zc24 : ZcOk Try.prog 24 [.v (.slice none 0 0)] := ⟨_, ze24, rfl⟩
instance zc25 : ZcOk Try.prog 25 [.v (.nilFunc)] := ⟨_, ze25, rfl⟩
instance zc26 : ZcOk Try.prog 26 [.v (.slice none 0 0)] := ⟨_, ze26, rfl⟩
instance zc28 : ZcOk Try.prog 28 [.v (.nilFunc)] := ⟨_, ze28, rfl⟩
instance fl30_0 : FldOk Try.prog 30 0 0 false 1 := ⟨⟨_, _, Try.underlying30, rfl, rfl, ty3⟩, by decide⟩
instance fl30_1 : FldOk Try.prog 30 1 1 false 1 := ⟨⟨_, _, Try.underlying30, rfl, rfl, ty3⟩, by decide⟩
instance fl30_2 : FldOk Try.prog 30 2 2 false 1 := ⟨⟨_, _, Try.underlying30, rfl, rfl, ty3⟩, by decide⟩
instance zc30 : ZcOk Try.prog 30 [.v (.int .i64 0), .v (.int .i64 0), .v (.int .i64 0)] := ⟨_, ze30, rfl⟩
instance bl30 : BldOk Try.prog 30 [.int .i64 0, .int .i64 0, .int .i64 0] [(0, 1), (1, 1), (2, 1)] := ⟨_, _, ze30.zero, rfl, Try.underlying30, fun _ => by kernel_rfl⟩
instance zc31 : ZcOk Try.prog 31 [.v (.nilFunc)] := ⟨_, ze31, rfl⟩
instance zc32 : ZcOk Try.prog 32 [.v (.nilFunc)] := ⟨_, ze32, rfl⟩
instance fl34_0 : FldOk Try.prog 34 0 0 false 1 := ⟨⟨_, _, Try.underlying34, rfl, rfl, ty3⟩, by decide⟩
instance fl34_1 : FldOk Try.prog 34 1 1 false 1 := ⟨⟨_, _, Try.underlying34, rfl, rfl, ty3⟩, by decide⟩
instance zc34 : ZcOk Try.prog 34 [.v (.int .i64 0), .v (.int .i64 0)] := ⟨_, ze34, rfl⟩
instance bl34 : BldOk Try.prog 34 [.int .i64 0, .int .i64 0] [(0, 1), (1, 1)] := ⟨_, _, ze34.zero, rfl, Try.underlying34, fun _ => by kernel_rfl⟩
instance zc36 : ZcOk Try.prog 36 [.v (.nilFunc)] := ⟨_, ze36, rfl⟩
instance zc37 : ZcOk Try.prog 37 [.v (.nilFunc)] := ⟨_, ze37, rfl⟩
instance zc38 : ZcOk Try.prog 38 [.v (.nilFunc)] := ⟨_, ze38, rfl⟩
instance zc39 : ZcOk Try.prog 39 [.v (.nilFunc)] := ⟨_, ze39, rfl⟩
instance zc40 : ZcOk Try.prog 40 [.v (.nilFunc)] := ⟨_, ze40, rfl⟩
instance zc41 : ZcOk Try.prog 41 [.v (.slice none 0 0)] := ⟨_, ze41, rfl⟩
instance fl43_0 : FldOk Try.prog 43 0 0 false 1 := ⟨⟨_, _, Try.underlying43, rfl, rfl, ty41⟩, by decide⟩
instance zc43 : ZcOk Try.prog 43 [.v (.slice none 0 0)] := ⟨_, ze43, rfl⟩
instance bl43 : BldOk Try.prog 43 [.slice none 0 0] [(0, 1)] := ⟨_, _, ze43.zero, rfl, Try.underlying43, fun _ => by kernel_rfl⟩
instance zc44 : ZcOk Try.prog 44 [.v (.slice none 0 0)] := ⟨_, ze44, rfl⟩
instance zc46 : ZcOk Try.prog 46 [.v (.nilFunc)] := ⟨_, ze46, rfl⟩
instance zc47 : ZcOk Try.prog 47 [.v (.nilFunc)] := ⟨_, ze47, rfl⟩
instance zc48 : ZcOk Try.prog 48 [.v (.slice none 0 0)] := ⟨_, ze48, rfl⟩
instance fl50_0 : FldOk Try.prog 50 0 0 false 1 := ⟨⟨_, _, Try.underlying50, rfl, rfl, ty48⟩, by decide⟩
instance zc50 : ZcOk Try.prog 50 [.v (.slice none 0 0)] := ⟨_, ze50, rfl⟩
instance bl50 : BldOk Try.prog 50 [.slice none 0 0] [(0, 1)] := ⟨_, _, ze50.zero, rfl, Try.underlying50, fun _ => by kernel_rfl⟩
instance zc51 : ZcOk Try.prog 51 [.v (.nilFunc)] := ⟨_, ze51, rfl⟩
instance zc52 : ZcOk Try.prog 52 [.v (.nilFunc)] := ⟨_, ze52, rfl⟩
instance fl54_0 : FldOk Try.prog 54 0 0 false 1 := ⟨⟨_, _, Try.underlying54, rfl, rfl, ty3⟩, by decide⟩
instance fl54_1 : FldOk Try.prog 54 1 1 false 1 := ⟨⟨_, _, Try.underlying54, rfl, rfl, ty3⟩, by decide⟩
instance fl54_2 : FldOk Try.prog 54 2 2 false 1 := ⟨⟨_, _, Try.underlying54, rfl, rfl, ty3⟩, by decide⟩
instance zc54 : ZcOk Try.prog 54 [.v (.int .i64 0), .v (.int .i64 0), .v (.int .i64 0)] := ⟨_, ze54, rfl⟩
instance bl54 : BldOk Try.prog 54 [.int .i64 0, .int .i64 0, .int .i64 0] [(0, 1), (1, 1), (2, 1)] := ⟨_, _, ze54.zero, rfl, Try.underlying54, fun _ => by kernel_rfl⟩
instance zc56 : ZcOk Try.prog 56 [.v (.nilFunc)] := ⟨_, ze56, rfl⟩
instance zc57 : ZcOk Try.prog 57 [.v (.nilFunc)] := ⟨_, ze57, rfl⟩
instance zc58 : ZcOk Try.prog 58 [.v (.nilFunc)] := ⟨_, ze58, rfl⟩
instance zc59 : ZcOk Try.prog 59 [.v (.nilFunc)] := ⟨_, ze59, rfl⟩
instance zc61 : ZcOk Try.prog 61 [.v (.nilFunc)] := ⟨_, ze61, rfl⟩
instance zc62 : ZcOk Try.prog 62 [.v (.slice none 0 0)] := ⟨_, ze62, rfl⟩
instance zc64 : ZcOk Try.prog 64 [.v (.nilFunc)] := ⟨_, ze64, rfl⟩
instance fl66_0 : FldOk Try.prog 66 0 0 false 1 := ⟨⟨_, _, Try.underlying66, rfl, rfl, ty3⟩, by decide⟩
instance fl66_1 : FldOk Try.prog 66 1 1 false 1 := ⟨⟨_, _, Try.underlying66, rfl, rfl, ty3⟩, by decide⟩
instance zc66 : ZcOk Try.prog 66 [.v (.int .i64 0), .v (.int .i64 0)] := ⟨_, ze66, rfl⟩
instance bl66 : BldOk Try.prog 66 [.int .i64 0, .int .i64 0] [(0, 1), (1, 1)] := ⟨_, _, ze66.zero, rfl, Try.underlying66, fun _ => by kernel_rfl⟩
instance zc67 : ZcOk Try.prog 67 [.v (.nilFunc)] := ⟨_, ze67, rfl⟩
instance zc68 : ZcOk Try.prog 68 [.v (.nilFunc)] := ⟨_, ze68, rfl⟩
instance zc69 : ZcOk Try.prog 69 [.v (.nilFunc)] := ⟨_, ze69, rfl⟩
instance zc70 : ZcOk Try.prog 70 [.v (.nilFunc)] := ⟨_, ze70, rfl⟩
instance fl72_0 : FldOk Try.prog 72 0 0 false 1 := ⟨⟨_, _, Try.underlying72, rfl, rfl, ty3⟩, by decide⟩
instance fl72_1 : FldOk Try.prog 72 1 1 false 1 := ⟨⟨_, _, Try.underlying72, rfl, rfl, ty3⟩, by decide⟩
instance fl72_2 : FldOk Try.prog 72 2 2 false 1 := ⟨⟨_, _, Try.underlying72, rfl, rfl, ty3⟩, by decide⟩
instance zc72 : ZcOk Try.prog 72 [.v (.int .i64 0), .v (.int .i64 0), .v (.int .i64 0)] := ⟨_, ze72, rfl⟩
instance bl72 : BldOk Try.prog 72 [.int .i64 0, .int .i64 0, .int .i64 0] [(0, 1), (1, 1), (2, 1)] := ⟨_, _, ze72.zero, rfl, Try.underlying72, fun _ => by kernel_rfl⟩
instance zc73 : ZcOk Try.prog 73 [.v (.nilFunc)] := ⟨_, ze73, rfl⟩
instance zc74 : ZcOk Try.prog 74 [.v (.nilFunc)] := ⟨_, ze74, rfl⟩
instance zc75 : ZcOk Try.prog 75 [.v (.nilFunc)] := ⟨_, ze75, rfl⟩
instance zc76 : ZcOk Try.prog 76 [.v (.nilFunc)] := ⟨_, ze76, rfl⟩
instance zc77 : ZcOk Try.prog 77 [.v (.nilFunc)] := ⟨_, ze77, rfl⟩
instance zc78 : ZcOk Try.prog 78 [.v (.nilFunc)] := ⟨_, ze78, rfl⟩
instance fl80_0 : FldOk Try.prog 80 0 0 false 1 := ⟨⟨_, _, Try.underlying80, rfl, rfl, ty3⟩, by decide⟩
instance fl80_1 : FldOk Try.prog 80 1 1 false 1 := ⟨⟨_, _, Try.underlying80, rfl, rfl, ty3⟩, by decide⟩
instance zc80 : ZcOk Try.prog 80 [.v (.int .i64 0), .v (.int .i64 0)] := ⟨_, ze80, rfl⟩
instance bl80 : BldOk Try.prog 80 [.int .i64 0, .int .i64 0] [(0, 1), (1, 1)] := ⟨_, _, ze80.zero, rfl, Try.underlying80, fun _ => by kernel_rfl⟩
instance zc81 : ZcOk Try.prog 81 [.v (.nilFunc)] := ⟨_, ze81, rfl⟩
instance zc82 : ZcOk Try.prog 82 [.v (.nilFunc)] := ⟨_, ze82, rfl⟩
instance zc84 : ZcOk Try.prog 84 [.v (.nilFunc)] := ⟨_, ze84, rfl⟩
instance fl86_0 : FldOk Try.prog 86 0 0 false 1 := ⟨⟨_, _, Try.underlying86, rfl, rfl, ty3⟩, by decide⟩
instance fl86_1 : FldOk Try.prog 86 1 1 false 1 := ⟨⟨_, _, Try.underlying86, rfl, rfl, ty3⟩, by decide⟩
instance zc86 : ZcOk Try.prog 86 [.v (.int .i64 0), .v (.int .i64 0)] := ⟨_, ze86, rfl⟩
instance bl86 : BldOk Try.prog 86 [.int .i64 0, .int .i64 0] [(0, 1), (1, 1)] := ⟨_, _, ze86.zero, rfl, Try.underlying86, fun _ => by kernel_rfl⟩
instance fl88_0 : FldOk Try.prog 88 0 0 true 2 := ⟨⟨_, _, Try.underlying88, rfl, rfl, ty86⟩, by decide⟩
instance fl88_1 : FldOk Try.prog 88 1 2 true 2 := ⟨⟨_, _, Try.underlying88, rfl, rfl, ty86⟩, by decide⟩
instance zc88 : ZcOk Try.prog 88 [.v (.int .i64 0), .v (.int .i64 0), .v (.int .i64 0), .v (.int .i64 0)] := ⟨_, ze88, rfl⟩
instance bl88 : BldOk Try.prog 88 [.int .i64 0, .int .i64 0, .int .i64 0, .int .i64 0] [(0, 2), (2, 2)] := ⟨_, _, ze88.zero, rfl, Try.underlying88, fun _ => by kernel_rfl⟩
instance zc89 : ZcOk Try.prog 89 [.v (.nilFunc)] := ⟨_, ze89, rfl⟩
instance zc90 : ZcOk Try.prog 90 [.v (.nilFunc)] := ⟨_, ze90, rfl⟩
instance zc91 : ZcOk Try.prog 91 [.v (.nilFunc)] := ⟨_, ze91, rfl⟩
instance zc95 : ZcOk Try.prog 95 [.v (.nilFunc)] := ⟨_, ze95, rfl⟩
instance zc96 : ZcOk Try.prog 96 [.v (.nilFunc)] := ⟨_, ze96, rfl⟩
instance zc97 : ZcOk Try.prog 97 [.v (.nilFunc)] := ⟨_, ze97, rfl⟩
instance zc98 : ZcOk Try.prog 98 [.v (.nilFunc)] := ⟨_, ze98, rfl⟩
instance zc99 : ZcOk Try.prog 99 [.v (.nilFunc)] := ⟨_, ze99, rfl⟩
instance zc100 : ZcOk Try.prog 100 [.v (.slice none 0 0)] := ⟨_, ze100, rfl⟩
instance zc101 : ZcOk Try.prog 101 [.v (.nilFunc)] := ⟨_, ze101, rfl⟩
instance zc102 : ZcOk Try.prog 102 [.v (.nilFunc)] := ⟨_, ze102, rfl⟩
instance zc103 : ZcOk Try.prog 103 [.v (.nilFunc)] := ⟨_, ze103, rfl⟩
instance zc105 : ZcOk Try.prog 105 [.v (.nilFunc)] := ⟨_, ze105, rfl⟩
instance zc106 : ZcOk Try.prog 106 [.v (.nilFunc)] := ⟨_, ze106, rfl⟩
instance zc107 : ZcOk Try.prog 107 [.v (.nilFunc)] := ⟨_, ze107, rfl⟩
instance zc108 : ZcOk Try.prog 108 [.v (.nilFunc)] := ⟨_, ze108, rfl⟩
instance zc114 : ZcOk Try.prog 114 [.v (.nilFunc)] := ⟨_, ze114, rfl⟩
instance zc118 : ZcOk Try.prog 118 [.v (.nilFunc)] := ⟨_, ze118, rfl⟩
instance zc124 : ZcOk Try.prog 124 [.v (.nilFunc)] := ⟨_, ze124, rfl⟩
theorem in22 : (Try.prog.info? 5).map (fun i => (i.zero, i.size, i.bytes)) = some (some (.int .u8 0), 1, 1) := by kernel_rfl
instance sl22 : SlOk Try.prog 22 5 1 1 := ⟨Try.underlying22, slInfo in22 rfl, by decide⟩
instance zs22 : ZSlOk Try.prog 22 5 1 1 [.int .u8 0] := ⟨sl22, _, ze5.zero, rfl⟩
theorem in24 : (Try.prog.info? 30).map (fun i => (i.zero, i.size, i.bytes)) = some (some (.agg #[.int .i64 0, .int .i64 0, .int .i64 0]), 3, 24) := by kernel_rfl
instance sl24 : SlOk Try.prog 24 30 3 24 := ⟨Try.underlying24, slInfo in24 rfl, by decide⟩
instance zs24 : ZSlOk Try.prog 24 30 3 24 [.int .i64 0, .int .i64 0, .int .i64 0] := ⟨sl24, _, ze30.zero, rfl⟩
theorem in26 : (Try.prog.info? 3).map (fun i => (i.zero, i.size, i.bytes)) = some (some (.int .i64 0), 1, 8) := by kernel_rfl
instance sl26 : SlOk Try.prog 26 3 1 8 := ⟨Try.underlying26, slInfo in26 rfl, by decide⟩
instance zs26 : ZSlOk Try.prog 26 3 1 8 [.int .i64 0] := ⟨sl26, _, ze3.zero, rfl⟩
theorem in41 : (Try.prog.info? 88).map (fun i => (i.zero, i.size, i.bytes)) = some (some (.agg #[.int .i64 0, .int .i64 0, .int .i64 0, .int .i64 0]), 4, 32) := by kernel_rfl
instance sl41 : SlOk Try.prog 41 88 4 32 := ⟨Try.underlying41, slInfo in41 rfl, by decide⟩
instance zs41 : ZSlOk Try.prog 41 88 4 32 [.int .i64 0, .int .i64 0, .int .i64 0, .int .i64 0] := ⟨sl41, _, ze88.zero, rfl⟩
theorem in44 : (Try.prog.info? 54).map (fun i => (i.zero, i.size, i.bytes)) = some (some (.agg #[.int .i64 0, .int .i64 0, .int .i64 0]), 3, 24) := by kernel_rfl
instance sl44 : SlOk Try.prog 44 54 3 24 := ⟨Try.underlying44, slInfo in44 rfl, by decide⟩
instance zs44 : ZSlOk Try.prog 44 54 3 24 [.int .i64 0, .int .i64 0, .int .i64 0] := ⟨sl44, _, ze54.zero, rfl⟩
theorem in48 : (Try.prog.info? 86).map (fun i => (i.zero, i.size, i.bytes)) = some (some (.agg #[.int .i64 0, .int .i64 0]), 2, 16) := by kernel_rfl
instance sl48 : SlOk Try.prog 48 86 2 16 := ⟨Try.underlying48, slInfo in48 rfl, by decide⟩
instance zs48 : ZSlOk Try.prog 48 86 2 16 [.int .i64 0, .int .i64 0] := ⟨sl48, _, ze86.zero, rfl⟩
theorem in62 : (Try.prog.info? 66).map (fun i => (i.zero, i.size, i.bytes)) = some (some (.agg #[.int .i64 0, .int .i64 0]), 2, 16) := by kernel_rfl
instance sl62 : SlOk Try.prog 62 66 2 16 := ⟨Try.underlying62, slInfo in62 rfl, by decide⟩
instance zs62 : ZSlOk Try.prog 62 66 2 16 [.int .i64 0, .int .i64 0] := ⟨sl62, _, ze66.zero, rfl⟩
theorem in100 : (Try.prog.info? 80).map (fun i => (i.zero, i.size, i.bytes)) = some (some (.agg #[.int .i64 0, .int .i64 0]), 2, 16) := by kernel_rfl
instance sl100 : SlOk Try.prog 100 80 2 16 := ⟨Try.underlying100, slInfo in100 rfl, by decide⟩
instance zs100 : ZSlOk Try.prog 100 80 2 16 [.int .i64 0, .int .i64 0] := ⟨sl100, _, ze80.zero, rfl⟩
instance fn3 : FnOk Try.prog 3 := ⟨Try.f3, Try.func3, by kernel_rfl, by kernel_rfl⟩
instance fn4 : FnOk Try.prog 4 := ⟨Try.f4, Try.func4, by kernel_rfl, by kernel_rfl⟩
instance fn5 : FnOk Try.prog 5 := ⟨Try.f5, Try.func5, by kernel_rfl, by kernel_rfl⟩
instance fn6 : FnOk Try.prog 6 := ⟨Try.f6, Try.func6, by kernel_rfl, by kernel_rfl⟩
instance fn7 : FnOk Try.prog 7 := ⟨Try.f7, Try.func7, by kernel_rfl, by kernel_rfl⟩
instance fn8 : FnOk Try.prog 8 := ⟨Try.f8, Try.func8, by kernel_rfl, by kernel_rfl⟩
instance fn9 : FnOk Try.prog 9 := ⟨Try.f9, Try.func9, by kernel_rfl, by kernel_rfl⟩
instance fn10 : FnOk Try.prog 10 := ⟨Try.f10, Try.func10, by kernel_rfl, by kernel_rfl⟩
instance fn11 : FnOk Try.prog 11 := ⟨Try.f11, Try.func11, by kernel_rfl, by kernel_rfl⟩
instance fn12 : FnOk Try.prog 12 := ⟨Try.f12, Try.func12, by kernel_rfl, by kernel_rfl⟩
instance fn13 : FnOk Try.prog 13 := ⟨Try.f13, Try.func13, by kernel_rfl, by kernel_rfl⟩
instance fn14 : FnOk Try.prog 14 := ⟨Try.f14, Try.func14, by kernel_rfl, by kernel_rfl⟩
instance fn15 : FnOk Try.prog 15 := ⟨Try.f15, Try.func15, by kernel_rfl, by kernel_rfl⟩
instance fn16 : FnOk Try.prog 16 := ⟨Try.f16, Try.func16, by kernel_rfl, by kernel_rfl⟩
instance fn17 : FnOk Try.prog 17 := ⟨Try.f17, Try.func17, by kernel_rfl, by kernel_rfl⟩
instance fn18 : FnOk Try.prog 18 := ⟨Try.f18, Try.func18, by kernel_rfl, by kernel_rfl⟩
instance fn19 : FnOk Try.prog 19 := ⟨Try.f19, Try.func19, by kernel_rfl, by kernel_rfl⟩
instance fn20 : FnOk Try.prog 20 := ⟨Try.f20, Try.func20, by kernel_rfl, by kernel_rfl⟩
instance fn21 : FnOk Try.prog 21 := ⟨Try.f21, Try.func21, by kernel_rfl, by kernel_rfl⟩
instance fn22 : FnOk Try.prog 22 := ⟨Try.f22, Try.func22, by kernel_rfl, by kernel_rfl⟩
instance fn23 : FnOk Try.prog 23 := ⟨Try.f23, Try.func23, by kernel_rfl, by kernel_rfl⟩
instance fn24 : FnOk Try.prog 24 := ⟨Try.f24, Try.func24, by kernel_rfl, by kernel_rfl⟩
instance fn25 : FnOk Try.prog 25 := ⟨Try.f25, Try.func25, by kernel_rfl, by kernel_rfl⟩
instance fn26 : FnOk Try.prog 26 := ⟨Try.f26, Try.func26, by kernel_rfl, by kernel_rfl⟩
instance fn27 : FnOk Try.prog 27 := ⟨Try.f27, Try.func27, by kernel_rfl, by kernel_rfl⟩
instance fn28 : FnOk Try.prog 28 := ⟨Try.f28, Try.func28, by kernel_rfl, by kernel_rfl⟩
instance fn29 : FnOk Try.prog 29 := ⟨Try.f29, Try.func29, by kernel_rfl, by kernel_rfl⟩
instance fn30 : FnOk Try.prog 30 := ⟨Try.f30, Try.func30, by kernel_rfl, by kernel_rfl⟩
instance fn31 : FnOk Try.prog 31 := ⟨Try.f31, Try.func31, by kernel_rfl, by kernel_rfl⟩
instance fn32 : FnOk Try.prog 32 := ⟨Try.f32, Try.func32, by kernel_rfl, by kernel_rfl⟩
instance fn33 : FnOk Try.prog 33 := ⟨Try.f33, Try.func33, by kernel_rfl, by kernel_rfl⟩
instance fn34 : FnOk Try.prog 34 := ⟨Try.f34, Try.func34, by kernel_rfl, by kernel_rfl⟩
instance fn35 : FnOk Try.prog 35 := ⟨Try.f35, Try.func35, by kernel_rfl, by kernel_rfl⟩
instance fn36 : FnOk Try.prog 36 := ⟨Try.f36, Try.func36, by kernel_rfl, by kernel_rfl⟩
instance fn37 : FnOk Try.prog 37 := ⟨Try.f37, Try.func37, by kernel_rfl, by kernel_rfl⟩
instance fn38 : FnOk Try.prog 38 := ⟨Try.f38, Try.func38, by kernel_rfl, by kernel_rfl⟩
instance fn39 : FnOk Try.prog 39 := ⟨Try.f39, Try.func39, by kernel_rfl, by kernel_rfl⟩
instance fn40 : FnOk Try.prog 40 := ⟨Try.f40, Try.func40, by kernel_rfl, by kernel_rfl⟩
instance fn41 : FnOk Try.prog 41 := ⟨Try.f41, Try.func41, by kernel_rfl, by kernel_rfl⟩
instance fn42 : FnOk Try.prog 42 := ⟨Try.f42, Try.func42, by kernel_rfl, by kernel_rfl⟩
instance fn43 : FnOk Try.prog 43 := ⟨Try.f43, Try.func43, by kernel_rfl, by kernel_rfl⟩
instance fn44 : FnOk Try.prog 44 := ⟨Try.f44, Try.func44, by kernel_rfl, by kernel_rfl⟩
instance fn45 : FnOk Try.prog 45 := ⟨Try.f45, Try.func45, by kernel_rfl, by kernel_rfl⟩
instance fn46 : FnOk Try.prog 46 := ⟨Try.f46, Try.func46, by kernel_rfl, by kernel_rfl⟩
instance fn47 : FnOk Try.prog 47 := ⟨Try.f47, Try.func47, by kernel_rfl, by kernel_rfl⟩
instance fn48 : FnOk Try.prog 48 := ⟨Try.f48, Try.func48, by kernel_rfl, by kernel_rfl⟩
instance fn49 : FnOk Try.prog 49 := ⟨Try.f49, Try.func49, by kernel_rfl, by kernel_rfl⟩
instance fn50 : FnOk Try.prog 50 := ⟨Try.f50, Try.func50, by kernel_rfl, by kernel_rfl⟩
instance fn51 : FnOk Try.prog 51 := ⟨Try.f51, Try.func51, by kernel_rfl, by kernel_rfl⟩
instance fn52 : FnOk Try.prog 52 := ⟨Try.f52, Try.func52, by kernel_rfl, by kernel_rfl⟩
instance fn53 : FnOk Try.prog 53 := ⟨Try.f53, Try.func53, by kernel_rfl, by kernel_rfl⟩
instance fn54 : FnOk Try.prog 54 := ⟨Try.f54, Try.func54, by kernel_rfl, by kernel_rfl⟩
instance fn55 : FnOk Try.prog 55 := ⟨Try.f55, Try.func55, by kernel_rfl, by kernel_rfl⟩
instance fn56 : FnOk Try.prog 56 := ⟨Try.f56, Try.func56, by kernel_rfl, by kernel_rfl⟩
instance fn57 : FnOk Try.prog 57 := ⟨Try.f57, Try.func57, by kernel_rfl, by kernel_rfl⟩
instance fn58 : FnOk Try.prog 58 := ⟨Try.f58, Try.func58, by kernel_rfl, by kernel_rfl⟩
instance fn59 : FnOk Try.prog 59 := ⟨Try.f59, Try.func59, by kernel_rfl, by kernel_rfl⟩
instance fn60 : FnOk Try.prog 60 := ⟨Try.f60, Try.func60, by kernel_rfl, by kernel_rfl⟩
instance fn61 : FnOk Try.prog 61 := ⟨Try.f61, Try.func61, by kernel_rfl, by kernel_rfl⟩
instance fn62 : FnOk Try.prog 62 := ⟨Try.f62, Try.func62, by kernel_rfl, by kernel_rfl⟩
instance fn63 : FnOk Try.prog 63 := ⟨Try.f63, Try.func63, by kernel_rfl, by kernel_rfl⟩
instance fn64 : FnOk Try.prog 64 := ⟨Try.f64, Try.func64, by kernel_rfl, by kernel_rfl⟩
instance fn65 : FnOk Try.prog 65 := ⟨Try.f65, Try.func65, by kernel_rfl, by kernel_rfl⟩
instance fn66 : FnOk Try.prog 66 := ⟨Try.f66, Try.func66, by kernel_rfl, by kernel_rfl⟩
instance fn67 : FnOk Try.prog 67 := ⟨Try.f67, Try.func67, by kernel_rfl, by kernel_rfl⟩
instance fn68 : FnOk Try.prog 68 := ⟨Try.f68, Try.func68, by kernel_rfl, by kernel_rfl⟩
instance fn69 : FnOk Try.prog 69 := ⟨Try.f69, Try.func69, by kernel_rfl, by kernel_rfl⟩
instance fn70 : FnOk Try.prog 70 := ⟨Try.f70, Try.func70, by kernel_rfl, by kernel_rfl⟩
instance fn71 : FnOk Try.prog 71 := ⟨Try.f71, Try.func71, by kernel_rfl, by kernel_rfl⟩
end Go.Proofs.Ytikbndfbjgdldaa
