/- What the seat's types are: cells, fields, zeros; which functions have bodies. -/
import Derived.Test.YthpeabbkcimjjaaEH
import Derived.Test.YthpeabbkcimjjaaRows
namespace Go.Proofs.Ythpeabbkcimjjaa
open Go.Eng

theorem slInfo {P : Program} {T : Nat} {z : Value} {e by_ : Nat} (h : (P.info? T).map (fun i => (i.zero, i.size, i.bytes)) = some (some z, e, by_)) (hz : z.cells.size = e) :
    ∃ i z, P.info? T = some i ∧ i.zero = some z ∧ i.size = e ∧ i.bytes = by_ ∧ z.cells.size = e := by
  cases hi : P.info? T with
  | none => rw [hi] at h; simp at h
  | some i =>
    rw [hi] at h
    simp only [Option.map_some, Option.some.injEq, Prod.mk.injEq] at h
    exact ⟨i, z, rfl, h.1, h.2.1, h.2.2, hz⟩
instance ty1 : TyOk Try.prog 1 false 1 := ⟨fun _ => by kernel_rfl, fun _ => by kernel_rfl⟩
instance ze1 : ZeroOk Try.prog 1 (.nilFunc) := ⟨fun _ => by kernel_rfl⟩
instance ty3 : TyOk Try.prog 3 false 1 := ⟨fun _ => by kernel_rfl, fun _ => by kernel_rfl⟩
instance ze3 : ZeroOk Try.prog 3 (.int .i64 0) := ⟨fun _ => by kernel_rfl⟩
instance ty4 : TyOk Try.prog 4 false 1 := ⟨fun _ => by kernel_rfl, fun _ => by kernel_rfl⟩
instance ze4 : ZeroOk Try.prog 4 (.bool false) := ⟨fun _ => by kernel_rfl⟩
instance ty5 : TyOk Try.prog 5 false 1 := ⟨fun _ => by kernel_rfl, fun _ => by kernel_rfl⟩
instance ze5 : ZeroOk Try.prog 5 (.int .u8 0) := ⟨fun _ => by kernel_rfl⟩
instance ty22 : TyOk Try.prog 22 false 1 := ⟨fun _ => by kernel_rfl, fun _ => by kernel_rfl⟩
instance ze22 : ZeroOk Try.prog 22 (.slice none 0 0) := ⟨fun _ => by kernel_rfl⟩
instance ty24 : TyOk Try.prog 24 true 1 := ⟨fun _ => by kernel_rfl, fun _ => by kernel_rfl⟩
instance ze24 : ZeroOk Try.prog 24 (.agg #[.slice none 0 0]) := ⟨fun _ => by kernel_rfl⟩
instance ty25 : TyOk Try.prog 25 false 1 := ⟨fun _ => by kernel_rfl, fun _ => by kernel_rfl⟩
instance ze25 : ZeroOk Try.prog 25 (.slice none 0 0) := ⟨fun _ => by kernel_rfl⟩
instance ty26 : TyOk Try.prog 26 false 1 := ⟨fun _ => by kernel_rfl, fun _ => by kernel_rfl⟩
instance ze26 : ZeroOk Try.prog 26 (.nilFunc) := ⟨fun _ => by kernel_rfl⟩
instance ty27 : TyOk Try.prog 27 false 1 := ⟨fun _ => by kernel_rfl, fun _ => by kernel_rfl⟩
instance ze27 : ZeroOk Try.prog 27 (.nilFunc) := ⟨fun _ => by kernel_rfl⟩
instance ty28 : TyOk Try.prog 28 false 1 := ⟨fun _ => by kernel_rfl, fun _ => by kernel_rfl⟩
instance ze28 : ZeroOk Try.prog 28 (.nilFunc) := ⟨fun _ => by kernel_rfl⟩
instance ty29 : TyOk Try.prog 29 false 1 := ⟨fun _ => by kernel_rfl, fun _ => by kernel_rfl⟩
instance ze29 : ZeroOk Try.prog 29 (.slice none 0 0) := ⟨fun _ => by kernel_rfl⟩
instance ty31 : TyOk Try.prog 31 true 1 := ⟨fun _ => by kernel_rfl, fun _ => by kernel_rfl⟩
instance ze31 : ZeroOk Try.prog 31 (.agg #[.slice none 0 0]) := ⟨fun _ => by kernel_rfl⟩
instance ty32 : TyOk Try.prog 32 false 1 := ⟨fun _ => by kernel_rfl, fun _ => by kernel_rfl⟩
instance ze32 : ZeroOk Try.prog 32 (.nilFunc) := ⟨fun _ => by kernel_rfl⟩
instance ty33 : TyOk Try.prog 33 false 1 := ⟨fun _ => by kernel_rfl, fun _ => by kernel_rfl⟩
instance ze33 : ZeroOk Try.prog 33 (.slice none 0 0) := ⟨fun _ => by kernel_rfl⟩
instance ty34 : TyOk Try.prog 34 false 1 := ⟨fun _ => by kernel_rfl, fun _ => by kernel_rfl⟩
instance ze34 : ZeroOk Try.prog 34 (.nilFunc) := ⟨fun _ => by kernel_rfl⟩
instance ty35 : TyOk Try.prog 35 false 1 := ⟨fun _ => by kernel_rfl, fun _ => by kernel_rfl⟩
instance ze35 : ZeroOk Try.prog 35 (.nilFunc) := ⟨fun _ => by kernel_rfl⟩
instance ty36 : TyOk Try.prog 36 false 1 := ⟨fun _ => by kernel_rfl, fun _ => by kernel_rfl⟩
instance ze36 : ZeroOk Try.prog 36 (.nilFunc) := ⟨fun _ => by kernel_rfl⟩
instance ty37 : TyOk Try.prog 37 false 1 := ⟨fun _ => by kernel_rfl, fun _ => by kernel_rfl⟩
instance ze37 : ZeroOk Try.prog 37 (.nilFunc) := ⟨fun _ => by kernel_rfl⟩
instance ty38 : TyOk Try.prog 38 false 1 := ⟨fun _ => by kernel_rfl, fun _ => by kernel_rfl⟩
instance ze38 : ZeroOk Try.prog 38 (.slice none 0 0) := ⟨fun _ => by kernel_rfl⟩
instance ty40 : TyOk Try.prog 40 true 1 := ⟨fun _ => by kernel_rfl, fun _ => by kernel_rfl⟩
instance ze40 : ZeroOk Try.prog 40 (.agg #[.slice none 0 0]) := ⟨fun _ => by kernel_rfl⟩
instance ty41 : TyOk Try.prog 41 false 1 := ⟨fun _ => by kernel_rfl, fun _ => by kernel_rfl⟩
instance ze41 : ZeroOk Try.prog 41 (.nilFunc) := ⟨fun _ => by kernel_rfl⟩
instance ty42 : TyOk Try.prog 42 false 1 := ⟨fun _ => by kernel_rfl, fun _ => by kernel_rfl⟩
instance ze42 : ZeroOk Try.prog 42 (.nilFunc) := ⟨fun _ => by kernel_rfl⟩
instance ty43 : TyOk Try.prog 43 false 1 := ⟨fun _ => by kernel_rfl, fun _ => by kernel_rfl⟩
instance ze43 : ZeroOk Try.prog 43 (.nilFunc) := ⟨fun _ => by kernel_rfl⟩
instance ty44 : TyOk Try.prog 44 false 1 := ⟨fun _ => by kernel_rfl, fun _ => by kernel_rfl⟩
instance ze44 : ZeroOk Try.prog 44 (.nilFunc) := ⟨fun _ => by kernel_rfl⟩
instance ty45 : TyOk Try.prog 45 false 1 := ⟨fun _ => by kernel_rfl, fun _ => by kernel_rfl⟩
instance ze45 : ZeroOk Try.prog 45 (.nilFunc) := ⟨fun _ => by kernel_rfl⟩
instance ty47 : TyOk Try.prog 47 false 1 := ⟨fun _ => by kernel_rfl, fun _ => by kernel_rfl⟩
instance ze47 : ZeroOk Try.prog 47 (.nilFunc) := ⟨fun _ => by kernel_rfl⟩
instance ty48 : TyOk Try.prog 48 false 1 := ⟨fun _ => by kernel_rfl, fun _ => by kernel_rfl⟩
instance ze48 : ZeroOk Try.prog 48 (.nilFunc) := ⟨fun _ => by kernel_rfl⟩
instance ty49 : TyOk Try.prog 49 false 1 := ⟨fun _ => by kernel_rfl, fun _ => by kernel_rfl⟩
instance ze49 : ZeroOk Try.prog 49 (.nilFunc) := ⟨fun _ => by kernel_rfl⟩
instance ty50 : TyOk Try.prog 50 false 1 := ⟨fun _ => by kernel_rfl, fun _ => by kernel_rfl⟩
instance ze50 : ZeroOk Try.prog 50 (.nilFunc) := ⟨fun _ => by kernel_rfl⟩
instance ty51 : TyOk Try.prog 51 false 1 := ⟨fun _ => by kernel_rfl, fun _ => by kernel_rfl⟩
instance ze51 : ZeroOk Try.prog 51 (.nilFunc) := ⟨fun _ => by kernel_rfl⟩
instance ty52 : TyOk Try.prog 52 false 1 := ⟨fun _ => by kernel_rfl, fun _ => by kernel_rfl⟩
instance ze52 : ZeroOk Try.prog 52 (.slice none 0 0) := ⟨fun _ => by kernel_rfl⟩
instance ty54 : TyOk Try.prog 54 true 2 := ⟨fun _ => by kernel_rfl, fun _ => by kernel_rfl⟩
instance ze54 : ZeroOk Try.prog 54 (.agg #[.slice none 0 0, .slice none 0 0]) := ⟨fun _ => by kernel_rfl⟩
instance ty55 : TyOk Try.prog 55 false 1 := ⟨fun _ => by kernel_rfl, fun _ => by kernel_rfl⟩
instance ze55 : ZeroOk Try.prog 55 (.nilFunc) := ⟨fun _ => by kernel_rfl⟩
instance ty57 : TyOk Try.prog 57 false 1 := ⟨fun _ => by kernel_rfl, fun _ => by kernel_rfl⟩
instance ze57 : ZeroOk Try.prog 57 (.nilFunc) := ⟨fun _ => by kernel_rfl⟩
instance ty58 : TyOk Try.prog 58 true 2 := ⟨fun _ => by kernel_rfl, fun _ => by kernel_rfl⟩
instance ze58 : ZeroOk Try.prog 58 (.agg #[.slice none 0 0, .slice none 0 0]) := ⟨fun _ => by kernel_rfl⟩
instance ty59 : TyOk Try.prog 59 false 1 := ⟨fun _ => by kernel_rfl, fun _ => by kernel_rfl⟩
instance ze59 : ZeroOk Try.prog 59 (.nilFunc) := ⟨fun _ => by kernel_rfl⟩
instance ty60 : TyOk Try.prog 60 false 1 := ⟨fun _ => by kernel_rfl, fun _ => by kernel_rfl⟩
instance ze60 : ZeroOk Try.prog 60 (.nilFunc) := ⟨fun _ => by kernel_rfl⟩
instance ty61 : TyOk Try.prog 61 false 1 := ⟨fun _ => by kernel_rfl, fun _ => by kernel_rfl⟩
instance ze61 : ZeroOk Try.prog 61 (.nilFunc) := ⟨fun _ => by kernel_rfl⟩
instance ty62 : TyOk Try.prog 62 false 1 := ⟨fun _ => by kernel_rfl, fun _ => by kernel_rfl⟩
instance ze62 : ZeroOk Try.prog 62 (.nilFunc) := ⟨fun _ => by kernel_rfl⟩
instance ty64 : TyOk Try.prog 64 true 4 := ⟨fun _ => by kernel_rfl, fun _ => by kernel_rfl⟩
instance ze64 : ZeroOk Try.prog 64 (.agg #[.int .i64 0, .int .i64 0, .int .i64 0, .int .i64 0]) := ⟨fun _ => by kernel_rfl⟩
instance ty66 : TyOk Try.prog 66 false 1 := ⟨fun _ => by kernel_rfl, fun _ => by kernel_rfl⟩
instance ze66 : ZeroOk Try.prog 66 (.nilFunc) := ⟨fun _ => by kernel_rfl⟩
instance ty67 : TyOk Try.prog 67 true 4 := ⟨fun _ => by kernel_rfl, fun _ => by kernel_rfl⟩
instance ze67 : ZeroOk Try.prog 67 (.agg #[.int .i64 0, .int .i64 0, .int .i64 0, .int .i64 0]) := ⟨fun _ => by kernel_rfl⟩
instance ty68 : TyOk Try.prog 68 false 1 := ⟨fun _ => by kernel_rfl, fun _ => by kernel_rfl⟩
instance ze68 : ZeroOk Try.prog 68 (.nilFunc) := ⟨fun _ => by kernel_rfl⟩
instance ty69 : TyOk Try.prog 69 false 1 := ⟨fun _ => by kernel_rfl, fun _ => by kernel_rfl⟩
instance ze69 : ZeroOk Try.prog 69 (.nilFunc) := ⟨fun _ => by kernel_rfl⟩
instance ty70 : TyOk Try.prog 70 false 1 := ⟨fun _ => by kernel_rfl, fun _ => by kernel_rfl⟩
instance ze70 : ZeroOk Try.prog 70 (.nilFunc) := ⟨fun _ => by kernel_rfl⟩
instance ty72 : TyOk Try.prog 72 false 1 := ⟨fun _ => by kernel_rfl, fun _ => by kernel_rfl⟩
instance ze72 : ZeroOk Try.prog 72 (.nilFunc) := ⟨fun _ => by kernel_rfl⟩
instance ty73 : TyOk Try.prog 73 false 1 := ⟨fun _ => by kernel_rfl, fun _ => by kernel_rfl⟩
instance ze73 : ZeroOk Try.prog 73 (.nilFunc) := ⟨fun _ => by kernel_rfl⟩
instance ty74 : TyOk Try.prog 74 false 1 := ⟨fun _ => by kernel_rfl, fun _ => by kernel_rfl⟩
instance ze74 : ZeroOk Try.prog 74 (.nilFunc) := ⟨fun _ => by kernel_rfl⟩
instance ty76 : TyOk Try.prog 76 true 3 := ⟨fun _ => by kernel_rfl, fun _ => by kernel_rfl⟩
instance ze76 : ZeroOk Try.prog 76 (.agg #[.int .i64 0, .int .i64 0, .int .i64 0]) := ⟨fun _ => by kernel_rfl⟩
instance ty77 : TyOk Try.prog 77 false 1 := ⟨fun _ => by kernel_rfl, fun _ => by kernel_rfl⟩
instance ze77 : ZeroOk Try.prog 77 (.nilFunc) := ⟨fun _ => by kernel_rfl⟩
instance ty78 : TyOk Try.prog 78 false 1 := ⟨fun _ => by kernel_rfl, fun _ => by kernel_rfl⟩
instance ze78 : ZeroOk Try.prog 78 (.nilFunc) := ⟨fun _ => by kernel_rfl⟩
instance ty79 : TyOk Try.prog 79 false 1 := ⟨fun _ => by kernel_rfl, fun _ => by kernel_rfl⟩
instance ze79 : ZeroOk Try.prog 79 (.nilFunc) := ⟨fun _ => by kernel_rfl⟩
instance ty80 : TyOk Try.prog 80 false 1 := ⟨fun _ => by kernel_rfl, fun _ => by kernel_rfl⟩
instance ze80 : ZeroOk Try.prog 80 (.nilFunc) := ⟨fun _ => by kernel_rfl⟩
instance ty81 : TyOk Try.prog 81 true 3 := ⟨fun _ => by kernel_rfl, fun _ => by kernel_rfl⟩
instance ze81 : ZeroOk Try.prog 81 (.agg #[.int .i64 0, .int .i64 0, .int .i64 0]) := ⟨fun _ => by kernel_rfl⟩
instance ty82 : TyOk Try.prog 82 false 1 := ⟨fun _ => by kernel_rfl, fun _ => by kernel_rfl⟩
instance ze82 : ZeroOk Try.prog 82 (.nilFunc) := ⟨fun _ => by kernel_rfl⟩
instance ty83 : TyOk Try.prog 83 false 1 := ⟨fun _ => by kernel_rfl, fun _ => by kernel_rfl⟩
instance ze83 : ZeroOk Try.prog 83 (.nilFunc) := ⟨fun _ => by kernel_rfl⟩
instance ty84 : TyOk Try.prog 84 false 1 := ⟨fun _ => by kernel_rfl, fun _ => by kernel_rfl⟩
instance ze84 : ZeroOk Try.prog 84 (.nilFunc) := ⟨fun _ => by kernel_rfl⟩
instance ty86 : TyOk Try.prog 86 false 1 := ⟨fun _ => by kernel_rfl, fun _ => by kernel_rfl⟩
instance ze86 : ZeroOk Try.prog 86 (.nilFunc) := ⟨fun _ => by kernel_rfl⟩
instance ty88 : TyOk Try.prog 88 true 2 := ⟨fun _ => by kernel_rfl, fun _ => by kernel_rfl⟩
instance ze88 : ZeroOk Try.prog 88 (.agg #[.int .i64 0, .int .i64 0]) := ⟨fun _ => by kernel_rfl⟩
instance ty90 : TyOk Try.prog 90 true 4 := ⟨fun _ => by kernel_rfl, fun _ => by kernel_rfl⟩
instance ze90 : ZeroOk Try.prog 90 (.agg #[.int .i64 0, .int .i64 0, .int .i64 0, .int .i64 0]) := ⟨fun _ => by kernel_rfl⟩
instance ty91 : TyOk Try.prog 91 false 1 := ⟨fun _ => by kernel_rfl, fun _ => by kernel_rfl⟩
instance ze91 : ZeroOk Try.prog 91 (.nilFunc) := ⟨fun _ => by kernel_rfl⟩
instance ty92 : TyOk Try.prog 92 false 1 := ⟨fun _ => by kernel_rfl, fun _ => by kernel_rfl⟩
instance ze92 : ZeroOk Try.prog 92 (.nilFunc) := ⟨fun _ => by kernel_rfl⟩
instance ty93 : TyOk Try.prog 93 false 1 := ⟨fun _ => by kernel_rfl, fun _ => by kernel_rfl⟩
instance ze93 : ZeroOk Try.prog 93 (.nilFunc) := ⟨fun _ => by kernel_rfl⟩
instance ty96 : TyOk Try.prog 96 false 1 := ⟨fun _ => by kernel_rfl, fun _ => by kernel_rfl⟩
instance ze96 : ZeroOk Try.prog 96 (.nilFunc) := ⟨fun _ => by kernel_rfl⟩
instance ty98 : TyOk Try.prog 98 true 2 := ⟨fun _ => by kernel_rfl, fun _ => by kernel_rfl⟩
instance ze98 : ZeroOk Try.prog 98 (.agg #[.int .i64 0, .int .i64 0]) := ⟨fun _ => by kernel_rfl⟩
instance ty99 : TyOk Try.prog 99 false 1 := ⟨fun _ => by kernel_rfl, fun _ => by kernel_rfl⟩
instance ze99 : ZeroOk Try.prog 99 (.nilFunc) := ⟨fun _ => by kernel_rfl⟩
instance ty100 : TyOk Try.prog 100 false 1 := ⟨fun _ => by kernel_rfl, fun _ => by kernel_rfl⟩
instance ze100 : ZeroOk Try.prog 100 (.nilFunc) := ⟨fun _ => by kernel_rfl⟩
instance ty101 : TyOk Try.prog 101 false 1 := ⟨fun _ => by kernel_rfl, fun _ => by kernel_rfl⟩
instance ze101 : ZeroOk Try.prog 101 (.nilFunc) := ⟨fun _ => by kernel_rfl⟩
instance ty103 : TyOk Try.prog 103 false 1 := ⟨fun _ => by kernel_rfl, fun _ => by kernel_rfl⟩
instance ze103 : ZeroOk Try.prog 103 (.nilFunc) := ⟨fun _ => by kernel_rfl⟩
instance ty104 : TyOk Try.prog 104 false 1 := ⟨fun _ => by kernel_rfl, fun _ => by kernel_rfl⟩
instance ze104 : ZeroOk Try.prog 104 (.nilFunc) := ⟨fun _ => by kernel_rfl⟩
instance ty105 : TyOk Try.prog 105 false 1 := ⟨fun _ => by kernel_rfl, fun _ => by kernel_rfl⟩
instance ze105 : ZeroOk Try.prog 105 (.nilFunc) := ⟨fun _ => by kernel_rfl⟩
instance ty106 : TyOk Try.prog 106 false 1 := ⟨fun _ => by kernel_rfl, fun _ => by kernel_rfl⟩
instance ze106 : ZeroOk Try.prog 106 (.slice none 0 0) := ⟨fun _ => by kernel_rfl⟩
instance ty107 : TyOk Try.prog 107 false 1 := ⟨fun _ => by kernel_rfl, fun _ => by kernel_rfl⟩
instance ze107 : ZeroOk Try.prog 107 (.nilFunc) := ⟨fun _ => by kernel_rfl⟩
instance ty109 : TyOk Try.prog 109 true 3 := ⟨fun _ => by kernel_rfl, fun _ => by kernel_rfl⟩
instance ze109 : ZeroOk Try.prog 109 (.agg #[.int .i64 0, .int .i64 0, .int .i64 0]) := ⟨fun _ => by kernel_rfl⟩
instance ty111 : TyOk Try.prog 111 false 1 := ⟨fun _ => by kernel_rfl, fun _ => by kernel_rfl⟩
instance ze111 : ZeroOk Try.prog 111 (.nilFunc) := ⟨fun _ => by kernel_rfl⟩
instance ty112 : TyOk Try.prog 112 false 1 := ⟨fun _ => by kernel_rfl, fun _ => by kernel_rfl⟩
instance ze112 : ZeroOk Try.prog 112 (.nilFunc) := ⟨fun _ => by kernel_rfl⟩
instance ty113 : TyOk Try.prog 113 false 1 := ⟨fun _ => by kernel_rfl, fun _ => by kernel_rfl⟩
instance ze113 : ZeroOk Try.prog 113 (.nilFunc) := ⟨fun _ => by kernel_rfl⟩
instance ty114 : TyOk Try.prog 114 false 1 := ⟨fun _ => by kernel_rfl, fun _ => by kernel_rfl⟩
instance ze114 : ZeroOk Try.prog 114 (.nilFunc) := ⟨fun _ => by kernel_rfl⟩
instance ty115 : TyOk Try.prog 115 false 1 := ⟨fun _ => by kernel_rfl, fun _ => by kernel_rfl⟩
instance ze115 : ZeroOk Try.prog 115 (.nilFunc) := ⟨fun _ => by kernel_rfl⟩
instance ty116 : TyOk Try.prog 116 false 1 := ⟨fun _ => by kernel_rfl, fun _ => by kernel_rfl⟩
instance ze116 : ZeroOk Try.prog 116 (.nilFunc) := ⟨fun _ => by kernel_rfl⟩
instance ty117 : TyOk Try.prog 117 true 2 := ⟨fun _ => by kernel_rfl, fun _ => by kernel_rfl⟩
instance ze117 : ZeroOk Try.prog 117 (.agg #[.int .i64 0, .int .i64 0]) := ⟨fun _ => by kernel_rfl⟩
instance ty119 : TyOk Try.prog 119 true 4 := ⟨fun _ => by kernel_rfl, fun _ => by kernel_rfl⟩
instance ze119 : ZeroOk Try.prog 119 (.agg #[.int .i64 0, .int .i64 0, .int .i64 0, .int .i64 0]) := ⟨fun _ => by kernel_rfl⟩
instance ty120 : TyOk Try.prog 120 false 1 := ⟨fun _ => by kernel_rfl, fun _ => by kernel_rfl⟩
instance ze120 : ZeroOk Try.prog 120 (.nilFunc) := ⟨fun _ => by kernel_rfl⟩
instance ty121 : TyOk Try.prog 121 false 1 := ⟨fun _ => by kernel_rfl, fun _ => by kernel_rfl⟩
instance ze121 : ZeroOk Try.prog 121 (.nilFunc) := ⟨fun _ => by kernel_rfl⟩
instance ty122 : TyOk Try.prog 122 false 1 := ⟨fun _ => by kernel_rfl, fun _ => by kernel_rfl⟩
instance ze122 : ZeroOk Try.prog 122 (.nilFunc) := ⟨fun _ => by kernel_rfl⟩
instance ty123 : TyOk Try.prog 123 false 1 := ⟨fun _ => by kernel_rfl, fun _ => by kernel_rfl⟩
instance ze123 : ZeroOk Try.prog 123 (.nilFunc) := ⟨fun _ => by kernel_rfl⟩
instance ty124 : TyOk Try.prog 124 false 1 := ⟨fun _ => by kernel_rfl, fun _ => by kernel_rfl⟩
instance ze124 : ZeroOk Try.prog 124 (.slice none 0 0) := ⟨fun _ => by kernel_rfl⟩
instance ty125 : TyOk Try.prog 125 false 1 := ⟨fun _ => by kernel_rfl, fun _ => by kernel_rfl⟩
instance ze125 : ZeroOk Try.prog 125 (.nilFunc) := ⟨fun _ => by kernel_rfl⟩
instance ty127 : TyOk Try.prog 127 true 2 := ⟨fun _ => by kernel_rfl, fun _ => by kernel_rfl⟩
instance ze127 : ZeroOk Try.prog 127 (.agg #[.int .i64 0, .bool false]) := ⟨fun _ => by kernel_rfl⟩
instance ty129 : TyOk Try.prog 129 false 1 := ⟨fun _ => by kernel_rfl, fun _ => by kernel_rfl⟩
instance ze129 : ZeroOk Try.prog 129 (.nilFunc) := ⟨fun _ => by kernel_rfl⟩
instance ty130 : TyOk Try.prog 130 false 1 := ⟨fun _ => by kernel_rfl, fun _ => by kernel_rfl⟩
instance ze130 : ZeroOk Try.prog 130 (.nilFunc) := ⟨fun _ => by kernel_rfl⟩
instance ty131 : TyOk Try.prog 131 false 1 := ⟨fun _ => by kernel_rfl, fun _ => by kernel_rfl⟩
instance ze131 : ZeroOk Try.prog 131 (.nilFunc) := ⟨fun _ => by kernel_rfl⟩
instance ty132 : TyOk Try.prog 132 false 1 := ⟨fun _ => by kernel_rfl, fun _ => by kernel_rfl⟩
instance ze132 : ZeroOk Try.prog 132 (.nilFunc) := ⟨fun _ => by kernel_rfl⟩
instance ty133 : TyOk Try.prog 133 false 1 := ⟨fun _ => by kernel_rfl, fun _ => by kernel_rfl⟩
instance ze133 : ZeroOk Try.prog 133 (.slice none 0 0) := ⟨fun _ => by kernel_rfl⟩
instance ty134 : TyOk Try.prog 134 false 1 := ⟨fun _ => by kernel_rfl, fun _ => by kernel_rfl⟩
instance ze134 : ZeroOk Try.prog 134 (.nilFunc) := ⟨fun _ => by kernel_rfl⟩
instance ty135 : TyOk Try.prog 135 false 1 := ⟨fun _ => by kernel_rfl, fun _ => by kernel_rfl⟩
instance ze135 : ZeroOk Try.prog 135 (.nilFunc) := ⟨fun _ => by kernel_rfl⟩
instance ty136 : TyOk Try.prog 136 false 1 := ⟨fun _ => by kernel_rfl, fun _ => by kernel_rfl⟩
instance ze136 : ZeroOk Try.prog 136 (.nilFunc) := ⟨fun _ => by kernel_rfl⟩
instance ty137 : TyOk Try.prog 137 false 1 := ⟨fun _ => by kernel_rfl, fun _ => by kernel_rfl⟩
instance ze137 : ZeroOk Try.prog 137 (.nilFunc) := ⟨fun _ => by kernel_rfl⟩
instance ty138 : TyOk Try.prog 138 false 1 := ⟨fun _ => by kernel_rfl, fun _ => by kernel_rfl⟩
instance ze138 : ZeroOk Try.prog 138 (.nilFunc) := ⟨fun _ => by kernel_rfl⟩
instance ty139 : TyOk Try.prog 139 false 1 := ⟨fun _ => by kernel_rfl, fun _ => by kernel_rfl⟩
instance ze139 : ZeroOk Try.prog 139 (.nilFunc) := ⟨fun _ => by kernel_rfl⟩
instance ty140 : TyOk Try.prog 140 false 1 := ⟨fun _ => by kernel_rfl, fun _ => by kernel_rfl⟩
instance ze140 : ZeroOk Try.prog 140 (.nilFunc) := ⟨fun _ => by kernel_rfl⟩
instance ty141 : TyOk Try.prog 141 false 1 := ⟨fun _ => by kernel_rfl, fun _ => by kernel_rfl⟩
instance ze141 : ZeroOk Try.prog 141 (.nilFunc) := ⟨fun _ => by kernel_rfl⟩
instance ty142 : TyOk Try.prog 142 false 1 := ⟨fun _ => by kernel_rfl, fun _ => by kernel_rfl⟩
instance ze142 : ZeroOk Try.prog 142 (.nilFunc) := ⟨fun _ => by kernel_rfl⟩
instance ty143 : TyOk Try.prog 143 false 1 := ⟨fun _ => by kernel_rfl, fun _ => by kernel_rfl⟩
instance ze143 : ZeroOk Try.prog 143 (.nilFunc) := ⟨fun _ => by kernel_rfl⟩
instance ty145 : TyOk Try.prog 145 true 4 := ⟨fun _ => by kernel_rfl, fun _ => by kernel_rfl⟩
instance ze145 : ZeroOk Try.prog 145 (.agg #[.int .i64 0, .int .i64 0, .int .i64 0, .int .i64 0]) := ⟨fun _ => by kernel_rfl⟩
instance ty146 : TyOk Try.prog 146 false 1 := ⟨fun _ => by kernel_rfl, fun _ => by kernel_rfl⟩
instance ze146 : ZeroOk Try.prog 146 (.nilFunc) := ⟨fun _ => by kernel_rfl⟩
instance ty147 : TyOk Try.prog 147 false 1 := ⟨fun _ => by kernel_rfl, fun _ => by kernel_rfl⟩
instance ze147 : ZeroOk Try.prog 147 (.nilFunc) := ⟨fun _ => by kernel_rfl⟩
instance ty148 : TyOk Try.prog 148 false 1 := ⟨fun _ => by kernel_rfl, fun _ => by kernel_rfl⟩
instance ze148 : ZeroOk Try.prog 148 (.nilFunc) := ⟨fun _ => by kernel_rfl⟩
instance ty149 : TyOk Try.prog 149 false 1 := ⟨fun _ => by kernel_rfl, fun _ => by kernel_rfl⟩
instance ze149 : ZeroOk Try.prog 149 (.nilFunc) := ⟨fun _ => by kernel_rfl⟩
instance ty150 : TyOk Try.prog 150 false 1 := ⟨fun _ => by kernel_rfl, fun _ => by kernel_rfl⟩
instance ze150 : ZeroOk Try.prog 150 (.int .u64 0) := ⟨fun _ => by kernel_rfl⟩
instance ty151 : TyOk Try.prog 151 false 1 := ⟨fun _ => by kernel_rfl, fun _ => by kernel_rfl⟩
instance ze151 : ZeroOk Try.prog 151 (.nilFunc) := ⟨fun _ => by kernel_rfl⟩
instance ty152 : TyOk Try.prog 152 false 1 := ⟨fun _ => by kernel_rfl, fun _ => by kernel_rfl⟩
instance ze152 : ZeroOk Try.prog 152 (.nilFunc) := ⟨fun _ => by kernel_rfl⟩
instance ty153 : TyOk Try.prog 153 false 1 := ⟨fun _ => by kernel_rfl, fun _ => by kernel_rfl⟩
instance ze153 : ZeroOk Try.prog 153 (.nilFunc) := ⟨fun _ => by kernel_rfl⟩
instance ty154 : TyOk Try.prog 154 false 1 := ⟨fun _ => by kernel_rfl, fun _ => by kernel_rfl⟩
instance ze154 : ZeroOk Try.prog 154 (.nilFunc) := ⟨fun _ => by kernel_rfl⟩
instance ty160 : TyOk Try.prog 160 false 1 := ⟨fun _ => by kernel_rfl, fun _ => by kernel_rfl⟩
instance ze160 : ZeroOk Try.prog 160 (.nilFunc) := ⟨fun _ => by kernel_rfl⟩
instance ty164 : TyOk Try.prog 164 false 1 := ⟨fun _ => by kernel_rfl, fun _ => by kernel_rfl⟩
instance ze164 : ZeroOk Try.prog 164 (.nilFunc) := ⟨fun _ => by kernel_rfl⟩
instance ty170 : TyOk Try.prog 170 false 1 := ⟨fun _ => by kernel_rfl, fun _ => by kernel_rfl⟩
instance ze170 : ZeroOk Try.prog 170 (.nilFunc) := ⟨fun _ => by kernel_rfl⟩
instance zc1 : ZcOk Try.prog 1 [.v (.nilFunc)] := ⟨_, ze1, rfl⟩
instance zc3 : ZcOk Try.prog 3 [.v (.int .i64 0)] := ⟨_, ze3, rfl⟩
instance zc4 : ZcOk Try.prog 4 [.v (.bool false)] := ⟨_, ze4, rfl⟩
instance zc5 : ZcOk Try.prog 5 [.v (.int .u8 0)] := ⟨_, ze5, rfl⟩
instance zc22 : ZcOk Try.prog 22 [.v (.slice none 0 0)] := ⟨_, ze22, rfl⟩
instance fl24_0 : FldOk Try.prog 24 0 0 false 1 := ⟨⟨_, _, Try.underlying24, rfl, rfl, ty22⟩, by decide⟩
instance zc24 : ZcOk Try.prog 24 [.v (.slice none 0 0)] := ⟨_, ze24, rfl⟩
instance bl24 : BldOk Try.prog 24 [.slice none 0 0] [(0, 1)] := ⟨_, _, ze24.zero, rfl, Try.underlying24, fun _ => by kernel_rfl⟩
instance zc25 : ZcOk Try.prog 25 [.v (.slice none 0 0)] := ⟨_, ze25, rfl⟩
instance zc26 : ZcOk Try.prog 26 [.v (.nilFunc)] := ⟨_, ze26, rfl⟩
instance zc27 : ZcOk Try.prog 27 [.v (.nilFunc)] := ⟨_, ze27, rfl⟩
instance zc28 : ZcOk Try.prog 28 [.v (.nilFunc)] := ⟨_, ze28, rfl⟩
instance zc29 : ZcOk Try.prog 29 [.v (.slice none 0 0)] := ⟨_, ze29, rfl⟩
instance fl31_0 : FldOk Try.prog 31 0 0 false 1 := ⟨⟨_, _, Try.underlying31, rfl, rfl, ty29⟩, by decide⟩
instance zc31 : ZcOk Try.prog 31 [.v (.slice none 0 0)] := ⟨_, ze31, rfl⟩
instance bl31 : BldOk Try.prog 31 [.slice none 0 0] [(0, 1)] := ⟨_, _, ze31.zero, rfl, Try.underlying31, fun _ => by kernel_rfl⟩
instance zc32 : ZcOk Try.prog 32 [.v (.nilFunc)] := ⟨_, ze32, rfl⟩
instance zc33 : ZcOk Try.prog 33 [.v (.slice none 0 0)] := ⟨_, ze33, rfl⟩
instance zc34 : ZcOk Try.prog 34 [.v (.nilFunc)] := ⟨_, ze34, rfl⟩
instance zc35 : ZcOk Try.prog 35 [.v (.nilFunc)] := ⟨_, ze35, rfl⟩
instance zc36 : ZcOk Try.prog 36 [.v (.nilFunc)] := ⟨_, ze36, rfl⟩
instance zc37 : ZcOk Try.prog 37 [.v (.nilFunc)] := ⟨_, ze37, rfl⟩
instance zc38 : ZcOk Try.prog 38 [.v (.slice none 0 0)] := ⟨_, ze38, rfl⟩
instance fl40_0 : FldOk Try.prog 40 0 0 false 1 := ⟨⟨_, _, Try.underlying40, rfl, rfl, ty38⟩, by decide⟩
instance zc40 : ZcOk Try.prog 40 [.v (.slice none 0 0)] := ⟨_, ze40, rfl⟩
instance bl40 : BldOk Try.prog 40 [.slice none 0 0] [(0, 1)] := ⟨_, _, ze40.zero, rfl, Try.underlying40, fun _ => by kernel_rfl⟩
instance zc41 : ZcOk Try.prog 41 [.v (.nilFunc)] := ⟨_, ze41, rfl⟩
instance zc42 : ZcOk Try.prog 42 [.v (.nilFunc)] := ⟨_, ze42, rfl⟩
instance zc43 : ZcOk Try.prog 43 [.v (.nilFunc)] := ⟨_, ze43, rfl⟩
instance zc44 : ZcOk Try.prog 44 [.v (.nilFunc)] := ⟨_, ze44, rfl⟩
instance zc45 : ZcOk Try.prog 45 [.v (.nilFunc)] := ⟨_, ze45, rfl⟩
instance zc47 : ZcOk Try.prog 47 [.v (.nilFunc)] := ⟨_, ze47, rfl⟩
instance zc48 : ZcOk Try.prog 48 [.v (.nilFunc)] := ⟨_, ze48, rfl⟩
instance zc49 : ZcOk Try.prog 49 [.v (.nilFunc)] := ⟨_, ze49, rfl⟩
instance zc50 : ZcOk Try.prog 50 [.v (.nilFunc)] := ⟨_, ze50, rfl⟩
instance zc51 : ZcOk Try.prog 51 [.v (.nilFunc)] := ⟨_, ze51, rfl⟩
instance zc52 : ZcOk Try.prog 52 [.v (.slice none 0 0)] := ⟨_, ze52, rfl⟩
instance fl54_0 : FldOk Try.prog 54 0 0 false 1 := ⟨⟨_, _, Try.underlying54, rfl, rfl, ty52⟩, by decide⟩
instance fl54_1 : FldOk Try.prog 54 1 1 false 1 := ⟨⟨_, _, Try.underlying54, rfl, rfl, ty52⟩, by decide⟩
instance zc54 : ZcOk Try.prog 54 [.v (.slice none 0 0), .v (.slice none 0 0)] := ⟨_, ze54, rfl⟩
instance bl54 : BldOk Try.prog 54 [.slice none 0 0, .slice none 0 0] [(0, 1), (1, 1)] := ⟨_, _, ze54.zero, rfl, Try.underlying54, fun _ => by kernel_rfl⟩
instance zc55 : ZcOk Try.prog 55 [.v (.nilFunc)] := ⟨_, ze55, rfl⟩
instance zc57 : ZcOk Try.prog 57 [.v (.nilFunc)] := ⟨_, ze57, rfl⟩
instance fl58_0 : FldOk Try.prog 58 0 0 false 1 := ⟨⟨_, _, Try.underlying58, rfl, rfl, ty52⟩, by decide⟩
instance fl58_1 : FldOk Try.prog 58 1 1 false 1 := ⟨⟨_, _, Try.underlying58, rfl, rfl, ty52⟩, by decide⟩
instance zc58 : ZcOk Try.prog 58 [.v (.slice none 0 0), .v (.slice none 0 0)] := ⟨_, ze58, rfl⟩
instance bl58 : BldOk Try.prog 58 [.slice none 0 0, .slice none 0 0] [(0, 1), (1, 1)] := ⟨_, _, ze58.zero, rfl, Try.underlying58, fun _ => by kernel_rfl⟩
instance zc59 : ZcOk Try.prog 59 [.v (.nilFunc)] := ⟨_, ze59, rfl⟩
instance zc60 : ZcOk Try.prog 60 [.v (.nilFunc)] := ⟨_, ze60, rfl⟩
instance zc61 : ZcOk Try.prog 61 [.v (.nilFunc)] := ⟨_, ze61, rfl⟩
instance zc62 : ZcOk Try.prog 62 [.v (.nilFunc)] := ⟨_, ze62, rfl⟩
instance fl64_0 : FldOk Try.prog 64 0 0 false 1 := ⟨⟨_, _, Try.underlying64, rfl, rfl, ty3⟩, by decide⟩
instance fl64_1 : FldOk Try.prog 64 1 1 false 1 := ⟨⟨_, _, Try.underlying64, rfl, rfl, ty3⟩, by decide⟩
instance fl64_2 : FldOk Try.prog 64 2 2 false 1 := ⟨⟨_, _, Try.underlying64, rfl, rfl, ty3⟩, by decide⟩
instance fl64_3 : FldOk Try.prog 64 3 3 false 1 := ⟨⟨_, _, Try.underlying64, rfl, rfl, ty3⟩, by decide⟩
instance zc64 : ZcOk Try.prog 64 [.v (.int .i64 0), .v (.int .i64 0), .v (.int .i64 0), .v (.int .i64 0)] := ⟨_, ze64, rfl⟩
instance bl64 : BldOk Try.prog 64 [.int .i64 0, .int .i64 0, .int .i64 0, .int .i64 0] [(0, 1), (1, 1), (2, 1), (3, 1)] := ⟨_, _, ze64.zero, rfl, Try.underlying64, fun _ => by kernel_rfl⟩
instance zc66 : ZcOk Try.prog 66 [.v (.nilFunc)] := ⟨_, ze66, rfl⟩
instance fl67_0 : FldOk Try.prog 67 0 0 false 1 := ⟨⟨_, _, Try.underlying67, rfl, rfl, ty3⟩, by decide⟩
instance fl67_1 : FldOk Try.prog 67 1 1 false 1 := ⟨⟨_, _, Try.underlying67, rfl, rfl, ty3⟩, by decide⟩
instance fl67_2 : FldOk Try.prog 67 2 2 false 1 := ⟨⟨_, _, Try.underlying67, rfl, rfl, ty3⟩, by decide⟩
instance fl67_3 : FldOk Try.prog 67 3 3 false 1 := ⟨⟨_, _, Try.underlying67, rfl, rfl, ty3⟩, by decide⟩
instance zc67 : ZcOk Try.prog 67 [.v (.int .i64 0), .v (.int .i64 0), .v (.int .i64 0), .v (.int .i64 0)] := ⟨_, ze67, rfl⟩
instance bl67 : BldOk Try.prog 67 [.int .i64 0, .int .i64 0, .int .i64 0, .int .i64 0] [(0, 1), (1, 1), (2, 1), (3, 1)] := ⟨_, _, ze67.zero, rfl, Try.underlying67, fun _ => by kernel_rfl⟩
instance zc68 : ZcOk Try.prog 68 [.v (.nilFunc)] := ⟨_, ze68, rfl⟩
instance zc69 : ZcOk Try.prog 69 [.v (.nilFunc)] := ⟨_, ze69, rfl⟩
instance zc70 : ZcOk Try.prog 70 [.v (.nilFunc)] := ⟨_, ze70, rfl⟩
instance zc72 : ZcOk Try.prog 72 [.v (.nilFunc)] := ⟨_, ze72, rfl⟩
instance zc73 : ZcOk Try.prog 73 [.v (.nilFunc)] := ⟨_, ze73, rfl⟩
instance zc74 : ZcOk Try.prog 74 [.v (.nilFunc)] := ⟨_, ze74, rfl⟩
instance fl76_0 : FldOk Try.prog 76 0 0 false 1 := ⟨⟨_, _, Try.underlying76, rfl, rfl, ty3⟩, by decide⟩
instance fl76_1 : FldOk Try.prog 76 1 1 false 1 := ⟨⟨_, _, Try.underlying76, rfl, rfl, ty3⟩, by decide⟩
instance fl76_2 : FldOk Try.prog 76 2 2 false 1 := ⟨⟨_, _, Try.underlying76, rfl, rfl, ty3⟩, by decide⟩
instance zc76 : ZcOk Try.prog 76 [.v (.int .i64 0), .v (.int .i64 0), .v (.int .i64 0)] := ⟨_, ze76, rfl⟩
instance bl76 : BldOk Try.prog 76 [.int .i64 0, .int .i64 0, .int .i64 0] [(0, 1), (1, 1), (2, 1)] := ⟨_, _, ze76.zero, rfl, Try.underlying76, fun _ => by kernel_rfl⟩
instance zc77 : ZcOk Try.prog 77 [.v (.nilFunc)] := ⟨_, ze77, rfl⟩
instance zc78 : ZcOk Try.prog 78 [.v (.nilFunc)] := ⟨_, ze78, rfl⟩
instance zc79 : ZcOk Try.prog 79 [.v (.nilFunc)] := ⟨_, ze79, rfl⟩
instance zc80 : ZcOk Try.prog 80 [.v (.nilFunc)] := ⟨_, ze80, rfl⟩
instance fl81_0 : FldOk Try.prog 81 0 0 false 1 := ⟨⟨_, _, Try.underlying81, rfl, rfl, ty3⟩, by decide⟩
instance fl81_1 : FldOk Try.prog 81 1 1 false 1 := ⟨⟨_, _, Try.underlying81, rfl, rfl, ty3⟩, by decide⟩
instance fl81_2 : FldOk Try.prog 81 2 2 false 1 := ⟨⟨_, _, Try.underlying81, rfl, rfl, ty3⟩, by decide⟩
instance zc81 : ZcOk Try.prog 81 [.v (.int .i64 0), .v (.int .i64 0), .v (.int .i64 0)] := ⟨_, ze81, rfl⟩
instance bl81 : BldOk Try.prog 81 [.int .i64 0, .int .i64 0, .int .i64 0] [(0, 1), (1, 1), (2, 1)] := ⟨_, _, ze81.zero, rfl, Try.underlying81, fun _ => by kernel_rfl⟩
instance zc82 : ZcOk Try.prog 82 [.v (.nilFunc)] := ⟨_, ze82, rfl⟩
instance zc83 : ZcOk Try.prog 83 [.v (.nilFunc)] := ⟨_, ze83, rfl⟩
instance zc84 : ZcOk Try.prog 84 [.v (.nilFunc)] := ⟨_, ze84, rfl⟩
instance zc86 : ZcOk Try.prog 86 [.v (.nilFunc)] := ⟨_, ze86, rfl⟩
instance fl88_0 : FldOk Try.prog 88 0 0 false 1 := ⟨⟨_, _, Try.underlying88, rfl, rfl, ty3⟩, by decide⟩
instance fl88_1 : FldOk Try.prog 88 1 1 false 1 := ⟨⟨_, _, Try.underlying88, rfl, rfl, ty3⟩, by decide⟩
instance zc88 : ZcOk Try.prog 88 [.v (.int .i64 0), .v (.int .i64 0)] := ⟨_, ze88, rfl⟩
instance bl88 : BldOk Try.prog 88 [.int .i64 0, .int .i64 0] [(0, 1), (1, 1)] := ⟨_, _, ze88.zero, rfl, Try.underlying88, fun _ => by kernel_rfl⟩
instance fl90_0 : FldOk Try.prog 90 0 0 true 2 := ⟨⟨_, _, Try.underlying90, rfl, rfl, ty88⟩, by decide⟩
instance fl90_1 : FldOk Try.prog 90 1 2 true 2 := ⟨⟨_, _, Try.underlying90, rfl, rfl, ty88⟩, by decide⟩
instance zc90 : ZcOk Try.prog 90 [.v (.int .i64 0), .v (.int .i64 0), .v (.int .i64 0), .v (.int .i64 0)] := ⟨_, ze90, rfl⟩
instance bl90 : BldOk Try.prog 90 [.int .i64 0, .int .i64 0, .int .i64 0, .int .i64 0] [(0, 2), (2, 2)] := ⟨_, _, ze90.zero, rfl, Try.underlying90, fun _ => by kernel_rfl⟩
instance zc91 : ZcOk Try.prog 91 [.v (.nilFunc)] := ⟨_, ze91, rfl⟩
instance zc92 : ZcOk Try.prog 92 [.v (.nilFunc)] := ⟨_, ze92, rfl⟩
instance zc93 : ZcOk Try.prog 93 [.v (.nilFunc)] := ⟨_, ze93, rfl⟩
instance zc96 : ZcOk Try.prog 96 [.v (.nilFunc)] := ⟨_, ze96, rfl⟩
instance fl98_0 : FldOk Try.prog 98 0 0 false 1 := ⟨⟨_, _, Try.underlying98, rfl, rfl, ty3⟩, by decide⟩
instance fl98_1 : FldOk Try.prog 98 1 1 false 1 := ⟨⟨_, _, Try.underlying98, rfl, rfl, ty3⟩, by decide⟩
instance zc98 : ZcOk Try.prog 98 [.v (.int .i64 0), .v (.int .i64 0)] := ⟨_, ze98, rfl⟩
instance bl98 : BldOk Try.prog 98 [.int .i64 0, .int .i64 0] [(0, 1), (1, 1)] := ⟨_, _, ze98.zero, rfl, Try.underlying98, fun _ => by kernel_rfl⟩
instance zc99 : ZcOk Try.prog 99 [.v (.nilFunc)] := ⟨_, ze99, rfl⟩
instance zc100 : ZcOk Try.prog 100 [.v (.nilFunc)] := ⟨_, ze100, rfl⟩
instance zc101 : ZcOk Try.prog 101 [.v (.nilFunc)] := ⟨_, ze101, rfl⟩
instance zc103 : ZcOk Try.prog 103 [.v (.nilFunc)] := ⟨_, ze103, rfl⟩
instance zc104 : ZcOk Try.prog 104 [.v (.nilFunc)] := ⟨_, ze104, rfl⟩
instance zc105 : ZcOk Try.prog 105 [.v (.nilFunc)] := ⟨_, ze105, rfl⟩
instance zc106 : ZcOk Try.prog 106 [.v (.slice none 0 0)] := ⟨_, ze106, rfl⟩
instance zc107 : ZcOk Try.prog 107 [.v (.nilFunc)] := ⟨_, ze107, rfl⟩
instance fl109_0 : FldOk Try.prog 109 0 0 false 1 := ⟨⟨_, _, Try.underlying109, rfl, rfl, ty3⟩, by decide⟩
instance fl109_1 : FldOk Try.prog 109 1 1 false 1 := ⟨⟨_, _, Try.underlying109, rfl, rfl, ty3⟩, by decide⟩
instance fl109_2 : FldOk Try.prog 109 2 2 false 1 := ⟨⟨_, _, Try.underlying109, rfl, rfl, ty3⟩, by decide⟩
instance zc109 : ZcOk Try.prog 109 [.v (.int .i64 0), .v (.int .i64 0), .v (.int .i64 0)] := ⟨_, ze109, rfl⟩
instance bl109 : BldOk Try.prog 109 [.int .i64 0, .int .i64 0, .int .i64 0] [(0, 1), (1, 1), (2, 1)] := ⟨_, _, ze109.zero, rfl, Try.underlying109, fun _ => by kernel_rfl⟩
instance zc111 : ZcOk Try.prog 111 [.v (.nilFunc)] := ⟨_, ze111, rfl⟩
instance zc112 : ZcOk Try.prog 112 [.v (.nilFunc)] := ⟨_, ze112, rfl⟩
instance zc113 : ZcOk Try.prog 113 [.v (.nilFunc)] := ⟨_, ze113, rfl⟩
instance zc114 : ZcOk Try.prog 114 [.v (.nilFunc)] := ⟨_, ze114, rfl⟩
instance zc115 : ZcOk Try.prog 115 [.v (.nilFunc)] := ⟨_, ze115, rfl⟩
instance zc116 : ZcOk Try.prog 116 [.v (.nilFunc)] := ⟨_, ze116, rfl⟩
instance fl117_0 : FldOk Try.prog 117 0 0 false 1 := ⟨⟨_, _, Try.underlying117, rfl, rfl, ty3⟩, by decide⟩
instance fl117_1 : FldOk Try.prog 117 1 1 false 1 := ⟨⟨_, _, Try.underlying117, rfl, rfl, ty3⟩, by decide⟩
instance zc117 : ZcOk Try.prog 117 [.v (.int .i64 0), .v (.int .i64 0)] := ⟨_, ze117, rfl⟩
instance bl117 : BldOk Try.prog 117 [.int .i64 0, .int .i64 0] [(0, 1), (1, 1)] := ⟨_, _, ze117.zero, rfl, Try.underlying117, fun _ => by kernel_rfl⟩
instance fl119_0 : FldOk Try.prog 119 0 0 true 2 := ⟨⟨_, _, Try.underlying119, rfl, rfl, ty117⟩, by decide⟩
instance fl119_1 : FldOk Try.prog 119 1 2 true 2 := ⟨⟨_, _, Try.underlying119, rfl, rfl, ty117⟩, by decide⟩
instance zc119 : ZcOk Try.prog 119 [.v (.int .i64 0), .v (.int .i64 0), .v (.int .i64 0), .v (.int .i64 0)] := ⟨_, ze119, rfl⟩
instance bl119 : BldOk Try.prog 119 [.int .i64 0, .int .i64 0, .int .i64 0, .int .i64 0] [(0, 2), (2, 2)] := ⟨_, _, ze119.zero, rfl, Try.underlying119, fun _ => by kernel_rfl⟩
instance zc120 : ZcOk Try.prog 120 [.v (.nilFunc)] := ⟨_, ze120, rfl⟩
instance zc121 : ZcOk Try.prog 121 [.v (.nilFunc)] := ⟨_, ze121, rfl⟩
instance zc122 : ZcOk Try.prog 122 [.v (.nilFunc)] := ⟨_, ze122, rfl⟩
instance zc123 : ZcOk Try.prog 123 [.v (.nilFunc)] := ⟨_, ze123, rfl⟩
instance zc124 : ZcOk Try.prog 124 [.v (.slice none 0 0)] := ⟨_, ze124, rfl⟩
instance zc125 : ZcOk Try.prog 125 [.v (.nilFunc)] := ⟨_, ze125, rfl⟩
instance fl127_0 : FldOk Try.prog 127 0 0 false 1 := ⟨⟨_, _, Try.underlying127, rfl, rfl, ty3⟩, by decide⟩
instance fl127_1 : FldOk Try.prog 127 1 1 false 1 := ⟨⟨_, _, Try.underlying127, rfl, rfl, ty4⟩, by decide⟩
instance zc127 : ZcOk Try.prog 127 [.v (.int .i64 0), .v (.bool false)] := ⟨_, ze127, rfl⟩
instance bl127 : BldOk Try.prog 127 [.int .i64 0, .bool false] [(0, 1), (1, 1)] := ⟨_, _, ze127.zero, rfl, Try.underlying127, fun _ => by kernel_rfl⟩
instance zc129 : ZcOk Try.prog 129 [.v (.nilFunc)] := ⟨_, ze129, rfl⟩
instance zc130 : ZcOk Try.prog 130 [.v (.nilFunc)] := ⟨_, ze130, rfl⟩
instance zc131 : ZcOk Try.prog 131 [.v (.nilFunc)] := ⟨_, ze131, rfl⟩
instance zc132 : ZcOk Try.prog 132 [.v (.nilFunc)] := ⟨_, ze132, rfl⟩
instance zc133 : ZcOk Try.prog 133 [.v (.slice none 0 0)] := ⟨_, ze133, rfl⟩
instance zc134 : ZcOk Try.prog 134 [.v (.nilFunc)] := ⟨_, ze134, rfl⟩
instance zc135 : ZcOk Try.prog 135 [.v (.nilFunc)] := ⟨_, ze135, rfl⟩
instance zc136 : ZcOk Try.prog 136 [.v (.nilFunc)] := ⟨_, ze136, rfl⟩
instance zc137 : ZcOk Try.prog 137 [.v (.nilFunc)] := ⟨_, ze137, rfl⟩
instance zc138 : ZcOk Try.prog 138 [.v (.nilFunc)] := ⟨_, ze138, rfl⟩
instance zc139 : ZcOk Try.prog 139 [.v (.nilFunc)] := ⟨_, ze139, rfl⟩
instance zc140 : ZcOk Try.prog 140 [.v (.nilFunc)] := ⟨_, ze140, rfl⟩
instance zc141 : ZcOk Try.prog 141 [.v (.nilFunc)] := ⟨_, ze141, rfl⟩
instance zc142 : ZcOk Try.prog 142 [.v (.nilFunc)] := ⟨_, ze142, rfl⟩
instance zc143 : ZcOk Try.prog 143 [.v (.nilFunc)] := ⟨_, ze143, rfl⟩
instance fl145_0 : FldOk Try.prog 145 0 0 false 1 := ⟨⟨_, _, Try.underlying145, rfl, rfl, ty3⟩, by decide⟩
instance fl145_1 : FldOk Try.prog 145 1 1 false 1 := ⟨⟨_, _, Try.underlying145, rfl, rfl, ty3⟩, by decide⟩
instance fl145_2 : FldOk Try.prog 145 2 2 false 1 := ⟨⟨_, _, Try.underlying145, rfl, rfl, ty3⟩, by decide⟩
instance fl145_3 : FldOk Try.prog 145 3 3 false 1 := ⟨⟨_, _, Try.underlying145, rfl, rfl, ty3⟩, by decide⟩
instance zc145 : ZcOk Try.prog 145 [.v (.int .i64 0), .v (.int .i64 0), .v (.int .i64 0), .v (.int .i64 0)] := ⟨_, ze145, rfl⟩
instance bl145 : BldOk Try.prog 145 [.int .i64 0, .int .i64 0, .int .i64 0, .int .i64 0] [(0, 1), (1, 1), (2, 1), (3, 1)] := ⟨_, _, ze145.zero, rfl, Try.underlying145, fun _ => by kernel_rfl⟩
instance zc146 : ZcOk Try.prog 146 [.v (.nilFunc)] := ⟨_, ze146, rfl⟩
instance zc147 : ZcOk Try.prog 147 [.v (.nilFunc)] := ⟨_, ze147, rfl⟩
instance zc148 : ZcOk Try.prog 148 [.v (.nilFunc)] := ⟨_, ze148, rfl⟩
instance zc149 : ZcOk Try.prog 149 [.v (.nilFunc)] := ⟨_, ze149, rfl⟩
instance zc150 : ZcOk Try.prog 150 [.v (.int .u64 0)] := ⟨_, ze150, rfl⟩
instance zc151 : ZcOk Try.prog 151 [.v (.nilFunc)] := ⟨_, ze151, rfl⟩
instance zc152 : ZcOk Try.prog 152 [.v (.nilFunc)] := ⟨_, ze152, rfl⟩
instance zc153 : ZcOk Try.prog 153 [.v (.nilFunc)] := ⟨_, ze153, rfl⟩
instance zc154 : ZcOk Try.prog 154 [.v (.nilFunc)] := ⟨_, ze154, rfl⟩
instance zc160 : ZcOk Try.prog 160 [.v (.nilFunc)] := ⟨_, ze160, rfl⟩
instance zc164 : ZcOk Try.prog 164 [.v (.nilFunc)] := ⟨_, ze164, rfl⟩
instance zc170 : ZcOk Try.prog 170 [.v (.nilFunc)] := ⟨_, ze170, rfl⟩
theorem in22 : (Try.prog.info? 119).map (fun i => (i.zero, i.size, i.bytes)) = some (some (.agg #[.int .i64 0, .int .i64 0, .int .i64 0, .int .i64 0]), 4, 32) := by kernel_rfl
instance sl22 : SlOk Try.prog 22 119 4 32 := ⟨Try.underlying22, slInfo in22 rfl, by decide⟩
instance zs22 : ZSlOk Try.prog 22 119 4 32 [.int .i64 0, .int .i64 0, .int .i64 0, .int .i64 0] := ⟨sl22, _, ze119.zero, rfl⟩
theorem in25 : (Try.prog.info? 81).map (fun i => (i.zero, i.size, i.bytes)) = some (some (.agg #[.int .i64 0, .int .i64 0, .int .i64 0]), 3, 24) := by kernel_rfl
instance sl25 : SlOk Try.prog 25 81 3 24 := ⟨Try.underlying25, slInfo in25 rfl, by decide⟩
instance zs25 : ZSlOk Try.prog 25 81 3 24 [.int .i64 0, .int .i64 0, .int .i64 0] := ⟨sl25, _, ze81.zero, rfl⟩
theorem in29 : (Try.prog.info? 90).map (fun i => (i.zero, i.size, i.bytes)) = some (some (.agg #[.int .i64 0, .int .i64 0, .int .i64 0, .int .i64 0]), 4, 32) := by kernel_rfl
instance sl29 : SlOk Try.prog 29 90 4 32 := ⟨Try.underlying29, slInfo in29 rfl, by decide⟩
instance zs29 : ZSlOk Try.prog 29 90 4 32 [.int .i64 0, .int .i64 0, .int .i64 0, .int .i64 0] := ⟨sl29, _, ze90.zero, rfl⟩
theorem in33 : (Try.prog.info? 76).map (fun i => (i.zero, i.size, i.bytes)) = some (some (.agg #[.int .i64 0, .int .i64 0, .int .i64 0]), 3, 24) := by kernel_rfl
instance sl33 : SlOk Try.prog 33 76 3 24 := ⟨Try.underlying33, slInfo in33 rfl, by decide⟩
instance zs33 : ZSlOk Try.prog 33 76 3 24 [.int .i64 0, .int .i64 0, .int .i64 0] := ⟨sl33, _, ze76.zero, rfl⟩
theorem in38 : (Try.prog.info? 88).map (fun i => (i.zero, i.size, i.bytes)) = some (some (.agg #[.int .i64 0, .int .i64 0]), 2, 16) := by kernel_rfl
instance sl38 : SlOk Try.prog 38 88 2 16 := ⟨Try.underlying38, slInfo in38 rfl, by decide⟩
instance zs38 : ZSlOk Try.prog 38 88 2 16 [.int .i64 0, .int .i64 0] := ⟨sl38, _, ze88.zero, rfl⟩
theorem in52 : (Try.prog.info? 3).map (fun i => (i.zero, i.size, i.bytes)) = some (some (.int .i64 0), 1, 8) := by kernel_rfl
instance sl52 : SlOk Try.prog 52 3 1 8 := ⟨Try.underlying52, slInfo in52 rfl, by decide⟩
instance zs52 : ZSlOk Try.prog 52 3 1 8 [.int .i64 0] := ⟨sl52, _, ze3.zero, rfl⟩
theorem in106 : (Try.prog.info? 127).map (fun i => (i.zero, i.size, i.bytes)) = some (some (.agg #[.int .i64 0, .bool false]), 2, 16) := by kernel_rfl
instance sl106 : SlOk Try.prog 106 127 2 16 := ⟨Try.underlying106, slInfo in106 rfl, by decide⟩
instance zs106 : ZSlOk Try.prog 106 127 2 16 [.int .i64 0, .bool false] := ⟨sl106, _, ze127.zero, rfl⟩
theorem in124 : (Try.prog.info? 98).map (fun i => (i.zero, i.size, i.bytes)) = some (some (.agg #[.int .i64 0, .int .i64 0]), 2, 16) := by kernel_rfl
instance sl124 : SlOk Try.prog 124 98 2 16 := ⟨Try.underlying124, slInfo in124 rfl, by decide⟩
instance zs124 : ZSlOk Try.prog 124 98 2 16 [.int .i64 0, .int .i64 0] := ⟨sl124, _, ze98.zero, rfl⟩
theorem in133 : (Try.prog.info? 145).map (fun i => (i.zero, i.size, i.bytes)) = some (some (.agg #[.int .i64 0, .int .i64 0, .int .i64 0, .int .i64 0]), 4, 32) := by kernel_rfl
instance sl133 : SlOk Try.prog 133 145 4 32 := ⟨Try.underlying133, slInfo in133 rfl, by decide⟩
instance zs133 : ZSlOk Try.prog 133 145 4 32 [.int .i64 0, .int .i64 0, .int .i64 0, .int .i64 0] := ⟨sl133, _, ze145.zero, rfl⟩
instance fn3 : FnOk Try.prog 3 := ⟨Try.f3, Try.func3, by kernel_rfl, by kernel_rfl⟩
instance fn4 : FnOk Try.prog 4 := ⟨Try.f4, Try.func4, by kernel_rfl, by kernel_rfl⟩
instance fn5 : FnOk Try.prog 5 := ⟨Try.f5, Try.func5, by kernel_rfl, by kernel_rfl⟩
instance fn6 : FnOk Try.prog 6 := ⟨Try.f6, Try.func6, by kernel_rfl, by kernel_rfl⟩
instance fn7 : FnOk Try.prog 7 := ⟨Try.f7, Try.func7, by kernel_rfl, by kernel_rfl⟩
instance fn8 : FnOk Try.prog 8 := ⟨Try.f8, Try.func8, by kernel_rfl, by kernel_rfl⟩
instance fn9 : FnOk Try.prog 9 := ⟨Try.f9, Try.func9, by kernel_rfl, by kernel_rfl⟩
instance fn10 : FnOk Try.prog 10 := ⟨Try.f10, Try.func10, by kernel_rfl, by kernel_rfl⟩
instance fn11 : FnOk Try.prog 11 := ⟨Try.f11, Try.func11, by kernel_rfl, by kernel_rfl⟩
instance fn12 : FnOk Try.prog 12 := ⟨Try.f12, Try.func12, by kernel_rfl, by kernel_rfl⟩
instance fn13 : FnOk Try.prog 13 := ⟨Try.f13, Try.func13, by kernel_rfl, by kernel_rfl⟩
instance fn14 : FnOk Try.prog 14 := ⟨Try.f14, Try.func14, by kernel_rfl, by kernel_rfl⟩
instance fn15 : FnOk Try.prog 15 := ⟨Try.f15, Try.func15, by kernel_rfl, by kernel_rfl⟩
instance fn16 : FnOk Try.prog 16 := ⟨Try.f16, Try.func16, by kernel_rfl, by kernel_rfl⟩
instance fn17 : FnOk Try.prog 17 := ⟨Try.f17, Try.func17, by kernel_rfl, by kernel_rfl⟩
instance fn18 : FnOk Try.prog 18 := ⟨Try.f18, Try.func18, by kernel_rfl, by kernel_rfl⟩
instance fn19 : FnOk Try.prog 19 := ⟨Try.f19, Try.func19, by kernel_rfl, by kernel_rfl⟩
instance fn20 : FnOk Try.prog 20 := ⟨Try.f20, Try.func20, by kernel_rfl, by kernel_rfl⟩
instance fn21 : FnOk Try.prog 21 := ⟨Try.f21, Try.func21, by kernel_rfl, by kernel_rfl⟩
instance fn22 : FnOk Try.prog 22 := ⟨Try.f22, Try.func22, by kernel_rfl, by kernel_rfl⟩
instance fn23 : FnOk Try.prog 23 := ⟨Try.f23, Try.func23, by kernel_rfl, by kernel_rfl⟩
instance fn24 : FnOk Try.prog 24 := ⟨Try.f24, Try.func24, by kernel_rfl, by kernel_rfl⟩
instance fn25 : FnOk Try.prog 25 := ⟨Try.f25, Try.func25, by kernel_rfl, by kernel_rfl⟩
instance fn26 : FnOk Try.prog 26 := ⟨Try.f26, Try.func26, by kernel_rfl, by kernel_rfl⟩
instance fn27 : FnOk Try.prog 27 := ⟨Try.f27, Try.func27, by kernel_rfl, by kernel_rfl⟩
instance fn28 : FnOk Try.prog 28 := ⟨Try.f28, Try.func28, by kernel_rfl, by kernel_rfl⟩
instance fn29 : FnOk Try.prog 29 := ⟨Try.f29, Try.func29, by kernel_rfl, by kernel_rfl⟩
instance fn30 : FnOk Try.prog 30 := ⟨Try.f30, Try.func30, by kernel_rfl, by kernel_rfl⟩
instance fn31 : FnOk Try.prog 31 := ⟨Try.f31, Try.func31, by kernel_rfl, by kernel_rfl⟩
instance fn32 : FnOk Try.prog 32 := ⟨Try.f32, Try.func32, by kernel_rfl, by kernel_rfl⟩
instance fn33 : FnOk Try.prog 33 := ⟨Try.f33, Try.func33, by kernel_rfl, by kernel_rfl⟩
instance fn34 : FnOk Try.prog 34 := ⟨Try.f34, Try.func34, by kernel_rfl, by kernel_rfl⟩
instance fn35 : FnOk Try.prog 35 := ⟨Try.f35, Try.func35, by kernel_rfl, by kernel_rfl⟩
instance fn36 : FnOk Try.prog 36 := ⟨Try.f36, Try.func36, by kernel_rfl, by kernel_rfl⟩
instance fn37 : FnOk Try.prog 37 := ⟨Try.f37, Try.func37, by kernel_rfl, by kernel_rfl⟩
instance fn38 : FnOk Try.prog 38 := ⟨Try.f38, Try.func38, by kernel_rfl, by kernel_rfl⟩
instance fn39 : FnOk Try.prog 39 := ⟨Try.f39, Try.func39, by kernel_rfl, by kernel_rfl⟩
instance fn40 : FnOk Try.prog 40 := ⟨Try.f40, Try.func40, by kernel_rfl, by kernel_rfl⟩
instance fn41 : FnOk Try.prog 41 := ⟨Try.f41, Try.func41, by kernel_rfl, by kernel_rfl⟩
instance fn42 : FnOk Try.prog 42 := ⟨Try.f42, Try.func42, by kernel_rfl, by kernel_rfl⟩
instance fn43 : FnOk Try.prog 43 := ⟨Try.f43, Try.func43, by kernel_rfl, by kernel_rfl⟩
instance fn44 : FnOk Try.prog 44 := ⟨Try.f44, Try.func44, by kernel_rfl, by kernel_rfl⟩
instance fn45 : FnOk Try.prog 45 := ⟨Try.f45, Try.func45, by kernel_rfl, by kernel_rfl⟩
instance fn46 : FnOk Try.prog 46 := ⟨Try.f46, Try.func46, by kernel_rfl, by kernel_rfl⟩
instance fn47 : FnOk Try.prog 47 := ⟨Try.f47, Try.func47, by kernel_rfl, by kernel_rfl⟩
instance fn48 : FnOk Try.prog 48 := ⟨Try.f48, Try.func48, by kernel_rfl, by kernel_rfl⟩
instance fn49 : FnOk Try.prog 49 := ⟨Try.f49, Try.func49, by kernel_rfl, by kernel_rfl⟩
instance fn50 : FnOk Try.prog 50 := ⟨Try.f50, Try.func50, by kernel_rfl, by kernel_rfl⟩
instance fn51 : FnOk Try.prog 51 := ⟨Try.f51, Try.func51, by kernel_rfl, by kernel_rfl⟩
instance fn52 : FnOk Try.prog 52 := ⟨Try.f52, Try.func52, by kernel_rfl, by kernel_rfl⟩
instance fn53 : FnOk Try.prog 53 := ⟨Try.f53, Try.func53, by kernel_rfl, by kernel_rfl⟩
instance fn54 : FnOk Try.prog 54 := ⟨Try.f54, Try.func54, by kernel_rfl, by kernel_rfl⟩
instance fn55 : FnOk Try.prog 55 := ⟨Try.f55, Try.func55, by kernel_rfl, by kernel_rfl⟩
instance fn56 : FnOk Try.prog 56 := ⟨Try.f56, Try.func56, by kernel_rfl, by kernel_rfl⟩
instance fn57 : FnOk Try.prog 57 := ⟨Try.f57, Try.func57, by kernel_rfl, by kernel_rfl⟩
instance fn58 : FnOk Try.prog 58 := ⟨Try.f58, Try.func58, by kernel_rfl, by kernel_rfl⟩
instance fn59 : FnOk Try.prog 59 := ⟨Try.f59, Try.func59, by kernel_rfl, by kernel_rfl⟩
instance fn60 : FnOk Try.prog 60 := ⟨Try.f60, Try.func60, by kernel_rfl, by kernel_rfl⟩
instance fn61 : FnOk Try.prog 61 := ⟨Try.f61, Try.func61, by kernel_rfl, by kernel_rfl⟩
instance fn62 : FnOk Try.prog 62 := ⟨Try.f62, Try.func62, by kernel_rfl, by kernel_rfl⟩
instance fn63 : FnOk Try.prog 63 := ⟨Try.f63, Try.func63, by kernel_rfl, by kernel_rfl⟩
instance fn64 : FnOk Try.prog 64 := ⟨Try.f64, Try.func64, by kernel_rfl, by kernel_rfl⟩
instance fn65 : FnOk Try.prog 65 := ⟨Try.f65, Try.func65, by kernel_rfl, by kernel_rfl⟩
instance fn66 : FnOk Try.prog 66 := ⟨Try.f66, Try.func66, by kernel_rfl, by kernel_rfl⟩
instance fn67 : FnOk Try.prog 67 := ⟨Try.f67, Try.func67, by kernel_rfl, by kernel_rfl⟩
instance fn68 : FnOk Try.prog 68 := ⟨Try.f68, Try.func68, by kernel_rfl, by kernel_rfl⟩
instance fn69 : FnOk Try.prog 69 := ⟨Try.f69, Try.func69, by kernel_rfl, by kernel_rfl⟩
instance fn70 : FnOk Try.prog 70 := ⟨Try.f70, Try.func70, by kernel_rfl, by kernel_rfl⟩
instance fn71 : FnOk Try.prog 71 := ⟨Try.f71, Try.func71, by kernel_rfl, by kernel_rfl⟩
instance fn72 : FnOk Try.prog 72 := ⟨Try.f72, Try.func72, by kernel_rfl, by kernel_rfl⟩
instance fn73 : FnOk Try.prog 73 := ⟨Try.f73, Try.func73, by kernel_rfl, by kernel_rfl⟩
instance fn74 : FnOk Try.prog 74 := ⟨Try.f74, Try.func74, by kernel_rfl, by kernel_rfl⟩
instance fn75 : FnOk Try.prog 75 := ⟨Try.f75, Try.func75, by kernel_rfl, by kernel_rfl⟩
instance fn76 : FnOk Try.prog 76 := ⟨Try.f76, Try.func76, by kernel_rfl, by kernel_rfl⟩
instance fn77 : FnOk Try.prog 77 := ⟨Try.f77, Try.func77, by kernel_rfl, by kernel_rfl⟩
instance fn78 : FnOk Try.prog 78 := ⟨Try.f78, Try.func78, by kernel_rfl, by kernel_rfl⟩
instance fn79 : FnOk Try.prog 79 := ⟨Try.f79, Try.func79, by kernel_rfl, by kernel_rfl⟩
instance fn80 : FnOk Try.prog 80 := ⟨Try.f80, Try.func80, by kernel_rfl, by kernel_rfl⟩
instance fn81 : FnOk Try.prog 81 := ⟨Try.f81, Try.func81, by kernel_rfl, by kernel_rfl⟩
instance fn82 : FnOk Try.prog 82 := ⟨Try.f82, Try.func82, by kernel_rfl, by kernel_rfl⟩
instance fn83 : FnOk Try.prog 83 := ⟨Try.f83, Try.func83, by kernel_rfl, by kernel_rfl⟩
instance fn84 : FnOk Try.prog 84 := ⟨Try.f84, Try.func84, by kernel_rfl, by kernel_rfl⟩
instance fn85 : FnOk Try.prog 85 := ⟨Try.f85, Try.func85, by kernel_rfl, by kernel_rfl⟩
instance fn86 : FnOk Try.prog 86 := ⟨Try.f86, Try.func86, by kernel_rfl, by kernel_rfl⟩
instance fn87 : FnOk Try.prog 87 := ⟨Try.f87, Try.func87, by kernel_rfl, by kernel_rfl⟩
instance fn88 : FnOk Try.prog 88 := ⟨Try.f88, Try.func88, by kernel_rfl, by kernel_rfl⟩
instance fn89 : FnOk Try.prog 89 := ⟨Try.f89, Try.func89, by kernel_rfl, by kernel_rfl⟩
instance fn90 : FnOk Try.prog 90 := ⟨Try.f90, Try.func90, by kernel_rfl, by kernel_rfl⟩
instance fn91 : FnOk Try.prog 91 := ⟨Try.f91, Try.func91, by kernel_rfl, by kernel_rfl⟩
instance fn92 : FnOk Try.prog 92 := ⟨Try.f92, Try.func92, by kernel_rfl, by kernel_rfl⟩
instance fn93 : FnOk Try.prog 93 := ⟨Try.f93, Try.func93, by kernel_rfl, by kernel_rfl⟩
instance fn94 : FnOk Try.prog 94 := ⟨Try.f94, Try.func94, by kernel_rfl, by kernel_rfl⟩
instance fn95 : FnOk Try.prog 95 := ⟨Try.f95, Try.func95, by kernel_rfl, by kernel_rfl⟩
instance fn96 : FnOk Try.prog 96 := ⟨Try.f96, Try.func96, by kernel_rfl, by kernel_rfl⟩
instance fn97 : FnOk Try.prog 97 := ⟨Try.f97, Try.func97, by kernel_rfl, by kernel_rfl⟩
instance fn98 : FnOk Try.prog 98 := ⟨Try.f98, Try.func98, by kernel_rfl, by kernel_rfl⟩
instance fn99 : FnOk Try.prog 99 := ⟨Try.f99, Try.func99, by kernel_rfl, by kernel_rfl⟩
instance fn100 : FnOk Try.prog 100 := ⟨Try.f100, Try.func100, by kernel_rfl, by kernel_rfl⟩
instance fn101 : FnOk Try.prog 101 := ⟨Try.f101, Try.func101, by kernel_rfl, by kernel_rfl⟩
instance fn102 : FnOk Try.prog 102 := ⟨Try.f102, Try.func102, by kernel_rfl, by kernel_rfl⟩
instance fn103 : FnOk Try.prog 103 := ⟨Try.f103, Try.func103, by kernel_rfl, by kernel_rfl⟩
instance fn104 : FnOk Try.prog 104 := ⟨Try.f104, Try.func104, by kernel_rfl, by kernel_rfl⟩
instance fn105 : FnOk Try.prog 105 := ⟨Try.f105, Try.func105, by kernel_rfl, by kernel_rfl⟩
instance fn106 : FnOk Try.prog 106 := ⟨Try.f106, Try.func106, by kernel_rfl, by kernel_rfl⟩
instance fn107 : FnOk Try.prog 107 := ⟨Try.f107, Try.func107, by kernel_rfl, by kernel_rfl⟩
instance fn108 : FnOk Try.prog 108 := ⟨Try.f108, Try.func108, by kernel_rfl, by kernel_rfl⟩
instance fn109 : FnOk Try.prog 109 := ⟨Try.f109, Try.func109, by kernel_rfl, by kernel_rfl⟩
instance fn110 : FnOk Try.prog 110 := ⟨Try.f110, Try.func110, by kernel_rfl, by kernel_rfl⟩
instance fn111 : FnOk Try.prog 111 := ⟨Try.f111, Try.func111, by kernel_rfl, by kernel_rfl⟩
instance fn112 : FnOk Try.prog 112 := ⟨Try.f112, Try.func112, by kernel_rfl, by kernel_rfl⟩
instance fn113 : FnOk Try.prog 113 := ⟨Try.f113, Try.func113, by kernel_rfl, by kernel_rfl⟩
instance fn114 : FnOk Try.prog 114 := ⟨Try.f114, Try.func114, by kernel_rfl, by kernel_rfl⟩
instance fn115 : FnOk Try.prog 115 := ⟨Try.f115, Try.func115, by kernel_rfl, by kernel_rfl⟩
instance fn116 : FnOk Try.prog 116 := ⟨Try.f116, Try.func116, by kernel_rfl, by kernel_rfl⟩
instance fn117 : FnOk Try.prog 117 := ⟨Try.f117, Try.func117, by kernel_rfl, by kernel_rfl⟩
instance fn118 : FnOk Try.prog 118 := ⟨Try.f118, Try.func118, by kernel_rfl, by kernel_rfl⟩
instance fn119 : FnOk Try.prog 119 := ⟨Try.f119, Try.func119, by kernel_rfl, by kernel_rfl⟩
instance fn120 : FnOk Try.prog 120 := ⟨Try.f120, Try.func120, by kernel_rfl, by kernel_rfl⟩
instance fn121 : FnOk Try.prog 121 := ⟨Try.f121, Try.func121, by kernel_rfl, by kernel_rfl⟩
instance fn122 : FnOk Try.prog 122 := ⟨Try.f122, Try.func122, by kernel_rfl, by kernel_rfl⟩
instance fn123 : FnOk Try.prog 123 := ⟨Try.f123, Try.func123, by kernel_rfl, by kernel_rfl⟩
instance fn124 : FnOk Try.prog 124 := ⟨Try.f124, Try.func124, by kernel_rfl, by kernel_rfl⟩
instance fn125 : FnOk Try.prog 125 := ⟨Try.f125, Try.func125, by kernel_rfl, by kernel_rfl⟩
instance fn126 : FnOk Try.prog 126 := ⟨Try.f126, Try.func126, by kernel_rfl, by kernel_rfl⟩
instance fn127 : FnOk Try.prog 127 := ⟨Try.f127, Try.func127, by kernel_rfl, by kernel_rfl⟩
instance fn128 : FnOk Try.prog 128 := ⟨Try.f128, Try.func128, by kernel_rfl, by kernel_rfl⟩
instance fn129 : FnOk Try.prog 129 := ⟨Try.f129, Try.func129, by kernel_rfl, by kernel_rfl⟩
end Go.Proofs.Ythpeabbkcimjjaa
