/- What the seat's types are: cells, fields, zeros; which functions have bodies. -/
import Derived.Test.YtkadjimnamcjbaaZ2
import Derived.Test.YtkadjimnamcjbaaRows
namespace Go.Proofs.Ytkadjimnamcjbaa
open Go.Eng

theorem slInfo {P : Program} {T : Nat} {z : Value} {e by_ : Nat} (h : (P.info? T).map (fun i => (i.zero, i.size, i.bytes)) = some (some z, e, by_)) (hz : z.cells.size = e) :
    ∃ i z, P.info? T = some i ∧ i.zero = some z ∧ i.size = e ∧ i.bytes = by_ ∧ z.cells.size = e := by
  cases hi : P.info? T with
  | none => rw [hi] at h; simp at h
  | some i =>
    rw [hi] at h
    simp only [Option.map_some, Option.some.injEq, Prod.mk.injEq] at h
    exact ⟨i, z, rfl, h.1, h.2.1, h.2.2, hz⟩
instance ty1 : TyOk Try.prog 1 false 1 := ⟨fun _ => by kernel_rfl, fun _ => by kernel_rfl⟩
instance ze1 : ZeroOk Try.prog 1 (.nilFunc) := ⟨fun _ => by kernel_rfl⟩
instance ty3 : TyOk Try.prog 3 false 1 := ⟨fun _ => by kernel_rfl, fun _ => by kernel_rfl⟩
instance ze3 : ZeroOk Try.prog 3 (.int .i64 0) := ⟨fun _ => by kernel_rfl⟩
instance ty4 : TyOk Try.prog 4 false 1 := ⟨fun _ => by kernel_rfl, fun _ => by kernel_rfl⟩
instance ze4 : ZeroOk Try.prog 4 (.bool false) := ⟨fun _ => by kernel_rfl⟩
instance ty5 : TyOk Try.prog 5 false 1 := ⟨fun _ => by kernel_rfl, fun _ => by kernel_rfl⟩
instance ze5 : ZeroOk Try.prog 5 (.int .u8 0) := ⟨fun _ => by kernel_rfl⟩
instance ty22 : TyOk Try.prog 22 false 1 := ⟨fun _ => by kernel_rfl, fun _ => by kernel_rfl⟩
instance ze22 : ZeroOk Try.prog 22 (.slice none 0 0) := ⟨fun _ => by kernel_rfl⟩
instance ty23 : TyOk Try.prog 23 false 1 := ⟨fun _ => by kernel_rfl, fun _ => by kernel_rfl⟩
instance ze23 : ZeroOk Try.prog 23 (.nilFunc) := ⟨fun _ => by kernel_rfl⟩
instance ty24 : TyOk Try.prog 24 false 1 := ⟨fun _ => by kernel_rfl, fun _ => by kernel_rfl⟩
instance ze24 : ZeroOk Try.prog 24 (.slice none 0 0) := ⟨fun _ => by kernel_rfl⟩
instance ty26 : TyOk Try.prog 26 true 1 := ⟨fun _ => by kernel_rfl, fun _ => by kernel_rfl⟩
instance ze26 : ZeroOk Try.prog 26 (.agg #[.slice none 0 0]) := ⟨fun _ => by kernel_rfl⟩
instance ty27 : TyOk Try.prog 27 false 1 := ⟨fun _ => by kernel_rfl, fun _ => by kernel_rfl⟩
instance ze27 : ZeroOk Try.prog 27 (.nilFunc) := ⟨fun _ => by kernel_rfl⟩
instance ty28 : TyOk Try.prog 28 false 1 := ⟨fun _ => by kernel_rfl, fun _ => by kernel_rfl⟩
instance ze28 : ZeroOk Try.prog 28 (.nilFunc) := ⟨fun _ => by kernel_rfl⟩
instance ty29 : TyOk Try.prog 29 false 1 := ⟨fun _ => by kernel_rfl, fun _ => by kernel_rfl⟩
instance ze29 : ZeroOk Try.prog 29 (.nilFunc) := ⟨fun _ => by kernel_rfl⟩
instance ty31 : TyOk Try.prog 31 true 2 := ⟨fun _ => by kernel_rfl, fun _ => by kernel_rfl⟩
instance ze31 : ZeroOk Try.prog 31 (.agg #[.int .i64 0, .int .i64 0]) := ⟨fun _ => by kernel_rfl⟩
instance ty33 : TyOk Try.prog 33 false 1 := ⟨fun _ => by kernel_rfl, fun _ => by kernel_rfl⟩
instance ze33 : ZeroOk Try.prog 33 (.nilFunc) := ⟨fun _ => by kernel_rfl⟩
instance ty34 : TyOk Try.prog 34 false 1 := ⟨fun _ => by kernel_rfl, fun _ => by kernel_rfl⟩
instance ze34 : ZeroOk Try.prog 34 (.nilFunc) := ⟨fun _ => by kernel_rfl⟩
instance ty35 : TyOk Try.prog 35 false 1 := ⟨fun _ => by kernel_rfl, fun _ => by kernel_rfl⟩
instance ze35 : ZeroOk Try.prog 35 (.nilFunc) := ⟨fun _ => by kernel_rfl⟩
instance ty36 : TyOk Try.prog 36 false 1 := ⟨fun _ => by kernel_rfl, fun _ => by kernel_rfl⟩
instance ze36 : ZeroOk Try.prog 36 (.nilFunc) := ⟨fun _ => by kernel_rfl⟩
instance ty37 : TyOk Try.prog 37 false 1 := ⟨fun _ => by kernel_rfl, fun _ => by kernel_rfl⟩
instance ze37 : ZeroOk Try.prog 37 (.slice none 0 0) := ⟨fun _ => by kernel_rfl⟩
instance ty38 : TyOk Try.prog 38 false 1 := ⟨fun _ => by kernel_rfl, fun _ => by kernel_rfl⟩
instance ze38 : ZeroOk Try.prog 38 (.slice none 0 0) := ⟨fun _ => by kernel_rfl⟩
instance ty40 : TyOk Try.prog 40 true 1 := ⟨fun _ => by kernel_rfl, fun _ => by kernel_rfl⟩
instance ze40 : ZeroOk Try.prog 40 (.agg #[.slice none 0 0]) := ⟨fun _ => by kernel_rfl⟩
instance ty41 : TyOk Try.prog 41 false 1 := ⟨fun _ => by kernel_rfl, fun _ => by kernel_rfl⟩
instance ze41 : ZeroOk Try.prog 41 (.nilFunc) := ⟨fun _ => by kernel_rfl⟩
instance ty42 : TyOk Try.prog 42 false 1 := ⟨fun _ => by kernel_rfl, fun _ => by kernel_rfl⟩
instance ze42 : ZeroOk Try.prog 42 (.nilFunc) := ⟨fun _ => by kernel_rfl⟩
instance ty43 : TyOk Try.prog 43 false 1 := ⟨fun _ => by kernel_rfl, fun _ => by kernel_rfl⟩
instance ze43 : ZeroOk Try.prog 43 (.nilFunc) := ⟨fun _ => by kernel_rfl⟩
instance ty44 : TyOk Try.prog 44 false 1 := ⟨fun _ => by kernel_rfl, fun _ => by kernel_rfl⟩
instance ze44 : ZeroOk Try.prog 44 (.nilFunc) := ⟨fun _ => by kernel_rfl⟩
instance ty45 : TyOk Try.prog 45 false 1 := ⟨fun _ => by kernel_rfl, fun _ => by kernel_rfl⟩
instance ze45 : ZeroOk Try.prog 45 (.nilFunc) := ⟨fun _ => by kernel_rfl⟩
instance ty46 : TyOk Try.prog 46 false 1 := ⟨fun _ => by kernel_rfl, fun _ => by kernel_rfl⟩
instance ze46 : ZeroOk Try.prog 46 (.slice none 0 0) := ⟨fun _ => by kernel_rfl⟩
instance ty48 : TyOk Try.prog 48 true 1 := ⟨fun _ => by kernel_rfl, fun _ => by kernel_rfl⟩
instance ze48 : ZeroOk Try.prog 48 (.agg #[.slice none 0 0]) := ⟨fun _ => by kernel_rfl⟩
instance ty49 : TyOk Try.prog 49 false 1 := ⟨fun _ => by kernel_rfl, fun _ => by kernel_rfl⟩
instance ze49 : ZeroOk Try.prog 49 (.nilFunc) := ⟨fun _ => by kernel_rfl⟩
instance ty51 : TyOk Try.prog 51 true 4 := ⟨fun _ => by kernel_rfl, fun _ => by kernel_rfl⟩
instance ze51 : ZeroOk Try.prog 51 (.agg #[.int .i64 0, .int .i64 0, .int .i64 0, .int .i64 0]) := ⟨fun _ => by kernel_rfl⟩
instance ty53 : TyOk Try.prog 53 false 1 := ⟨fun _ => by kernel_rfl, fun _ => by kernel_rfl⟩
instance ze53 : ZeroOk Try.prog 53 (.nilFunc) := ⟨fun _ => by kernel_rfl⟩
instance ty54 : TyOk Try.prog 54 false 1 := ⟨fun _ => by kernel_rfl, fun _ => by kernel_rfl⟩
instance ze54 : ZeroOk Try.prog 54 (.nilFunc) := ⟨fun _ => by kernel_rfl⟩
instance ty55 : TyOk Try.prog 55 false 1 := ⟨fun _ => by kernel_rfl, fun _ => by kernel_rfl⟩
instance ze55 : ZeroOk Try.prog 55 (.nilFunc) := ⟨fun _ => by kernel_rfl⟩
instance ty56 : TyOk Try.prog 56 false 1 := ⟨fun _ => by kernel_rfl, fun _ => by kernel_rfl⟩
instance ze56 : ZeroOk Try.prog 56 (.nilFunc) := ⟨fun _ => by kernel_rfl⟩
instance ty57 : TyOk Try.prog 57 false 1 := ⟨fun _ => by kernel_rfl, fun _ => by kernel_rfl⟩
instance ze57 : ZeroOk Try.prog 57 (.nilFunc) := ⟨fun _ => by kernel_rfl⟩
instance ty58 : TyOk Try.prog 58 false 1 := ⟨fun _ => by kernel_rfl, fun _ => by kernel_rfl⟩
instance ze58 : ZeroOk Try.prog 58 (.nilFunc) := ⟨fun _ => by kernel_rfl⟩
instance ty59 : TyOk Try.prog 59 false 1 := ⟨fun _ => by kernel_rfl, fun _ => by kernel_rfl⟩
instance ze59 : ZeroOk Try.prog 59 (.nilFunc) := ⟨fun _ => by kernel_rfl⟩
instance ty60 : TyOk Try.prog 60 false 1 := ⟨fun _ => by kernel_rfl, fun _ => by kernel_rfl⟩
instance ze60 : ZeroOk Try.prog 60 (.nilFunc) := ⟨fun _ => by kernel_rfl⟩
instance ty61 : TyOk Try.prog 61 false 1 := ⟨fun _ => by kernel_rfl, fun _ => by kernel_rfl⟩
instance ze61 : ZeroOk Try.prog 61 (.nilFunc) := ⟨fun _ => by kernel_rfl⟩
instance ty62 : TyOk Try.prog 62 false 1 := ⟨fun _ => by kernel_rfl, fun _ => by kernel_rfl⟩
instance ze62 : ZeroOk Try.prog 62 (.nilFunc) := ⟨fun _ => by kernel_rfl⟩
instance ty63 : TyOk Try.prog 63 false 1 := ⟨fun _ => by kernel_rfl, fun _ => by kernel_rfl⟩
instance ze63 : ZeroOk Try.prog 63 (.slice none 0 0) := ⟨fun _ => by kernel_rfl⟩
instance ty65 : TyOk Try.prog 65 true 1 := ⟨fun _ => by kernel_rfl, fun _ => by kernel_rfl⟩
instance ze65 : ZeroOk Try.prog 65 (.agg #[.slice none 0 0]) := ⟨fun _ => by kernel_rfl⟩
instance ty66 : TyOk Try.prog 66 false 1 := ⟨fun _ => by kernel_rfl, fun _ => by kernel_rfl⟩
instance ze66 : ZeroOk Try.prog 66 (.nilFunc) := ⟨fun _ => by kernel_rfl⟩
instance ty68 : TyOk Try.prog 68 false 1 := ⟨fun _ => by kernel_rfl, fun _ => by kernel_rfl⟩
instance ze68 : ZeroOk Try.prog 68 (.nilFunc) := ⟨fun _ => by kernel_rfl⟩
instance ty69 : TyOk Try.prog 69 false 1 := ⟨fun _ => by kernel_rfl, fun _ => by kernel_rfl⟩
instance ze69 : ZeroOk Try.prog 69 (.nilFunc) := ⟨fun _ => by kernel_rfl⟩
instance ty70 : TyOk Try.prog 70 false 1 := ⟨fun _ => by kernel_rfl, fun _ => by kernel_rfl⟩
instance ze70 : ZeroOk Try.prog 70 (.nilFunc) := ⟨fun _ => by kernel_rfl⟩
instance ty71 : TyOk Try.prog 71 false 1 := ⟨fun _ => by kernel_rfl, fun _ => by kernel_rfl⟩
instance ze71 : ZeroOk Try.prog 71 (.nilFunc) := ⟨fun _ => by kernel_rfl⟩
instance ty72 : TyOk Try.prog 72 false 1 := ⟨fun _ => by kernel_rfl, fun _ => by kernel_rfl⟩
instance ze72 : ZeroOk Try.prog 72 (.nilFunc) := ⟨fun _ => by kernel_rfl⟩
instance ty73 : TyOk Try.prog 73 false 1 := ⟨fun _ => by kernel_rfl, fun _ => by kernel_rfl⟩
instance ze73 : ZeroOk Try.prog 73 (.slice none 0 0) := ⟨fun _ => by kernel_rfl⟩
instance ty74 : TyOk Try.prog 74 false 1 := ⟨fun _ => by kernel_rfl, fun _ => by kernel_rfl⟩
instance ze74 : ZeroOk Try.prog 74 (.nilFunc) := ⟨fun _ => by kernel_rfl⟩
instance ty75 : TyOk Try.prog 75 false 1 := ⟨fun _ => by kernel_rfl, fun _ => by kernel_rfl⟩
instance ze75 : ZeroOk Try.prog 75 (.slice none 0 0) := ⟨fun _ => by kernel_rfl⟩
instance ty77 : TyOk Try.prog 77 false 1 := ⟨fun _ => by kernel_rfl, fun _ => by kernel_rfl⟩
instance ze77 : ZeroOk Try.prog 77 (.nilFunc) := ⟨fun _ => by kernel_rfl⟩
instance ty78 : TyOk Try.prog 78 false 1 := ⟨fun _ => by kernel_rfl, fun _ => by kernel_rfl⟩
instance ze78 : ZeroOk Try.prog 78 (.nilFunc) := ⟨fun _ => by kernel_rfl⟩
instance ty79 : TyOk Try.prog 79 false 1 := ⟨fun _ => by kernel_rfl, fun _ => by kernel_rfl⟩
instance ze79 : ZeroOk Try.prog 79 (.nilFunc) := ⟨fun _ => by kernel_rfl⟩
instance ty80 : TyOk Try.prog 80 false 1 := ⟨fun _ => by kernel_rfl, fun _ => by kernel_rfl⟩
instance ze80 : ZeroOk Try.prog 80 (.nilFunc) := ⟨fun _ => by kernel_rfl⟩
instance ty81 : TyOk Try.prog 81 false 1 := ⟨fun _ => by kernel_rfl, fun _ => by kernel_rfl⟩
instance ze81 : ZeroOk Try.prog 81 (.nilFunc) := ⟨fun _ => by kernel_rfl⟩
instance ty82 : TyOk Try.prog 82 false 1 := ⟨fun _ => by kernel_rfl, fun _ => by kernel_rfl⟩
instance ze82 : ZeroOk Try.prog 82 (.slice none 0 0) := ⟨fun _ => by kernel_rfl⟩
instance ty84 : TyOk Try.prog 84 true 2 := ⟨fun _ => by kernel_rfl, fun _ => by kernel_rfl⟩
instance ze84 : ZeroOk Try.prog 84 (.agg #[.slice none 0 0, .slice none 0 0]) := ⟨fun _ => by kernel_rfl⟩
instance ty85 : TyOk Try.prog 85 false 1 := ⟨fun _ => by kernel_rfl, fun _ => by kernel_rfl⟩
instance ze85 : ZeroOk Try.prog 85 (.nilFunc) := ⟨fun _ => by kernel_rfl⟩
instance ty86 : TyOk Try.prog 86 false 1 := ⟨fun _ => by kernel_rfl, fun _ => by kernel_rfl⟩
instance ze86 : ZeroOk Try.prog 86 (.slice none 0 0) := ⟨fun _ => by kernel_rfl⟩
instance ty87 : TyOk Try.prog 87 false 1 := ⟨fun _ => by kernel_rfl, fun _ => by kernel_rfl⟩
instance ze87 : ZeroOk Try.prog 87 (.nilFunc) := ⟨fun _ => by kernel_rfl⟩
instance ty88 : TyOk Try.prog 88 true 2 := ⟨fun _ => by kernel_rfl, fun _ => by kernel_rfl⟩
instance ze88 : ZeroOk Try.prog 88 (.agg #[.slice none 0 0, .slice none 0 0]) := ⟨fun _ => by kernel_rfl⟩
instance ty89 : TyOk Try.prog 89 false 1 := ⟨fun _ => by kernel_rfl, fun _ => by kernel_rfl⟩
instance ze89 : ZeroOk Try.prog 89 (.nilFunc) := ⟨fun _ => by kernel_rfl⟩
instance ty90 : TyOk Try.prog 90 false 1 := ⟨fun _ => by kernel_rfl, fun _ => by kernel_rfl⟩
instance ze90 : ZeroOk Try.prog 90 (.nilFunc) := ⟨fun _ => by kernel_rfl⟩
instance ty91 : TyOk Try.prog 91 false 1 := ⟨fun _ => by kernel_rfl, fun _ => by kernel_rfl⟩
instance ze91 : ZeroOk Try.prog 91 (.nilFunc) := ⟨fun _ => by kernel_rfl⟩
instance ty92 : TyOk Try.prog 92 false 1 := ⟨fun _ => by kernel_rfl, fun _ => by kernel_rfl⟩
instance ze92 : ZeroOk Try.prog 92 (.nilFunc) := ⟨fun _ => by kernel_rfl⟩
instance ty93 : TyOk Try.prog 93 false 1 := ⟨fun _ => by kernel_rfl, fun _ => by kernel_rfl⟩
instance ze93 : ZeroOk Try.prog 93 (.nilFunc) := ⟨fun _ => by kernel_rfl⟩
instance ty94 : TyOk Try.prog 94 false 1 := ⟨fun _ => by kernel_rfl, fun _ => by kernel_rfl⟩
instance ze94 : ZeroOk Try.prog 94 (.nilFunc) := ⟨fun _ => by kernel_rfl⟩
instance ty95 : TyOk Try.prog 95 false 1 := ⟨fun _ => by kernel_rfl, fun _ => by kernel_rfl⟩
instance ze95 : ZeroOk Try.prog 95 (.nilFunc) := ⟨fun _ => by kernel_rfl⟩
instance ty96 : TyOk Try.prog 96 false 1 := ⟨fun _ => by kernel_rfl, fun _ => by kernel_rfl⟩
instance ze96 : ZeroOk Try.prog 96 (.nilFunc) := ⟨fun _ => by kernel_rfl⟩
instance ty98 : TyOk Try.prog 98 true 4 := ⟨fun _ => by kernel_rfl, fun _ => by kernel_rfl⟩
instance ze98 : ZeroOk Try.prog 98 (.agg #[.int .i64 0, .int .i64 0, .int .i64 0, .int .i64 0]) := ⟨fun _ => by kernel_rfl⟩
instance ty99 : TyOk Try.prog 99 false 1 := ⟨fun _ => by kernel_rfl, fun _ => by kernel_rfl⟩
instance ze99 : ZeroOk Try.prog 99 (.nilFunc) := ⟨fun _ => by kernel_rfl⟩
instance ty100 : TyOk Try.prog 100 true 4 := ⟨fun _ => by kernel_rfl, fun _ => by kernel_rfl⟩
instance ze100 : ZeroOk Try.prog 100 (.agg #[.int .i64 0, .int .i64 0, .int .i64 0, .int .i64 0]) := ⟨fun _ => by kernel_rfl⟩
instance ty101 : TyOk Try.prog 101 false 1 := ⟨fun _ => by kernel_rfl, fun _ => by kernel_rfl⟩
instance ze101 : ZeroOk Try.prog 101 (.nilFunc) := ⟨fun _ => by kernel_rfl⟩
instance ty102 : TyOk Try.prog 102 false 1 := ⟨fun _ => by kernel_rfl, fun _ => by kernel_rfl⟩
instance ze102 : ZeroOk Try.prog 102 (.nilFunc) := ⟨fun _ => by kernel_rfl⟩
instance ty103 : TyOk Try.prog 103 false 1 := ⟨fun _ => by kernel_rfl, fun _ => by kernel_rfl⟩
instance ze103 : ZeroOk Try.prog 103 (.nilFunc) := ⟨fun _ => by kernel_rfl⟩
instance ty104 : TyOk Try.prog 104 false 1 := ⟨fun _ => by kernel_rfl, fun _ => by kernel_rfl⟩
instance ze104 : ZeroOk Try.prog 104 (.nilFunc) := ⟨fun _ => by kernel_rfl⟩
instance ty105 : TyOk Try.prog 105 false 1 := ⟨fun _ => by kernel_rfl, fun _ => by kernel_rfl⟩
instance ze105 : ZeroOk Try.prog 105 (.slice none 0 0) := ⟨fun _ => by kernel_rfl⟩
instance ty106 : TyOk Try.prog 106 false 1 := ⟨fun _ => by kernel_rfl, fun _ => by kernel_rfl⟩
instance ze106 : ZeroOk Try.prog 106 (.nilFunc) := ⟨fun _ => by kernel_rfl⟩
instance ty107 : TyOk Try.prog 107 false 1 := ⟨fun _ => by kernel_rfl, fun _ => by kernel_rfl⟩
instance ze107 : ZeroOk Try.prog 107 (.nilFunc) := ⟨fun _ => by kernel_rfl⟩
instance ty108 : TyOk Try.prog 108 false 1 := ⟨fun _ => by kernel_rfl, fun _ => by kernel_rfl⟩
instance ze108 : ZeroOk Try.prog 108 (.nilFunc) := ⟨fun _ => by kernel_rfl⟩
instance ty110 : TyOk Try.prog 110 false 1 := ⟨fun _ => by kernel_rfl, fun _ => by kernel_rfl⟩
instance ze110 : ZeroOk Try.prog 110 (.nilFunc) := ⟨fun _ => by kernel_rfl⟩
instance ty111 : TyOk Try.prog 111 false 1 := ⟨fun _ => by kernel_rfl, fun _ => by kernel_rfl⟩
instance ze111 : ZeroOk Try.prog 111 (.nilFunc) := ⟨fun _ => by kernel_rfl⟩
instance ty112 : TyOk Try.prog 112 false 1 := ⟨fun _ => by kernel_rfl, fun _ => by kernel_rfl⟩
instance ze112 : ZeroOk Try.prog 112 (.nilFunc) := ⟨fun _ => by kernel_rfl⟩
instance ty114 : TyOk Try.prog 114 false 1 := ⟨fun _ => by kernel_rfl, fun _ => by kernel_rfl⟩
instance ze114 : ZeroOk Try.prog 114 (.nilFunc) := ⟨fun _ => by kernel_rfl⟩
instance ty115 : TyOk Try.prog 115 false 1 := ⟨fun _ => by kernel_rfl, fun _ => by kernel_rfl⟩
instance ze115 : ZeroOk Try.prog 115 (.nilFunc) := ⟨fun _ => by kernel_rfl⟩
instance ty116 : TyOk Try.prog 116 false 1 := ⟨fun _ => by kernel_rfl, fun _ => by kernel_rfl⟩
instance ze116 : ZeroOk Try.prog 116 (.nilFunc) := ⟨fun _ => by kernel_rfl⟩
instance ty117 : TyOk Try.prog 117 false 1 := ⟨fun _ => by kernel_rfl, fun _ => by kernel_rfl⟩
instance ze117 : ZeroOk Try.prog 117 (.nilFunc) := ⟨fun _ => by kernel_rfl⟩
instance ty118 : TyOk Try.prog 118 false 1 := ⟨fun _ => by kernel_rfl, fun _ => by kernel_rfl⟩
instance ze118 : ZeroOk Try.prog 118 (.nilFunc) := ⟨fun _ => by kernel_rfl⟩
instance ty119 : TyOk Try.prog 119 false 1 := ⟨fun _ => by kernel_rfl, fun _ => by kernel_rfl⟩
instance ze119 : ZeroOk Try.prog 119 (.nilFunc) := ⟨fun _ => by kernel_rfl⟩
instance ty120 : TyOk Try.prog 120 false 1 := ⟨fun _ => by kernel_rfl, fun _ => by kernel_rfl⟩
instance ze120 : ZeroOk Try.prog 120 (.nilFunc) := ⟨fun _ => by kernel_rfl⟩
instance ty121 : TyOk Try.prog 121 false 1 := ⟨fun _ => by kernel_rfl, fun _ => by kernel_rfl⟩
instance ze121 : ZeroOk Try.prog 121 (.nilFunc) := ⟨fun _ => by kernel_rfl⟩
instance ty123 : TyOk Try.prog 123 false 1 := ⟨fun _ => by kernel_rfl, fun _ => by kernel_rfl⟩
instance ze123 : ZeroOk Try.prog 123 (.nilFunc) := ⟨fun _ => by kernel_rfl⟩
instance ty124 : TyOk Try.prog 124 false 1 := ⟨fun _ => by kernel_rfl, fun _ => by kernel_rfl⟩
instance ze124 : ZeroOk Try.prog 124 (.nilFunc) := ⟨fun _ => by kernel_rfl⟩
instance ty125 : TyOk Try.prog 125 false 1 := ⟨fun _ => by kernel_rfl, fun _ => by kernel_rfl⟩
instance ze125 : ZeroOk Try.prog 125 (.nilFunc) := ⟨fun _ => by kernel_rfl⟩
instance ty126 : TyOk Try.prog 126 false 1 := ⟨fun _ => by kernel_rfl, fun _ => by kernel_rfl⟩
instance ze126 : ZeroOk Try.prog 126 (.nilFunc) := ⟨fun _ => by kernel_rfl⟩
instance ty127 : TyOk Try.prog 127 false 1 := ⟨fun _ => by kernel_rfl, fun _ => by kernel_rfl⟩
instance ze127 : ZeroOk Try.prog 127 (.nilFunc) := ⟨fun _ => by kernel_rfl⟩
instance ty128 : TyOk Try.prog 128 false 1 := ⟨fun _ => by kernel_rfl, fun _ => by kernel_rfl⟩
instance ze128 : ZeroOk Try.prog 128 (.nilFunc) := ⟨fun _ => by kernel_rfl⟩
instance ty129 : TyOk Try.prog 129 false 1 := ⟨fun _ => by kernel_rfl, fun _ => by kernel_rfl⟩
instance ze129 : ZeroOk Try.prog 129 (.nilFunc) := ⟨fun _ => by kernel_rfl⟩
instance ty130 : TyOk Try.prog 130 false 1 := ⟨fun _ => by kernel_rfl, fun _ => by kernel_rfl⟩
instance ze130 : ZeroOk Try.prog 130 (.nilFunc) := ⟨fun _ => by kernel_rfl⟩
instance ty131 : TyOk Try.prog 131 false 1 := ⟨fun _ => by kernel_rfl, fun _ => by kernel_rfl⟩
instance ze131 : ZeroOk Try.prog 131 (.nilFunc) := ⟨fun _ => by kernel_rfl⟩
instance ty133 : TyOk Try.prog 133 false 1 := ⟨fun _ => by kernel_rfl, fun _ => by kernel_rfl⟩
instance ze133 : ZeroOk Try.prog 133 (.nilFunc) := ⟨fun _ => by kernel_rfl⟩
instance ty134 : TyOk Try.prog 134 false 1 := ⟨fun _ => by kernel_rfl, fun _ => by kernel_rfl⟩
instance ze134 : ZeroOk Try.prog 134 (.nilFunc) := ⟨fun _ => by kernel_rfl⟩
instance ty135 : TyOk Try.prog 135 false 1 := ⟨fun _ => by kernel_rfl, fun _ => by kernel_rfl⟩
instance ze135 : ZeroOk Try.prog 135 (.nilFunc) := ⟨fun _ => by kernel_rfl⟩
instance ty136 : TyOk Try.prog 136 false 1 := ⟨fun _ => by kernel_rfl, fun _ => by kernel_rfl⟩
instance ze136 : ZeroOk Try.prog 136 (.nilFunc) := ⟨fun _ => by kernel_rfl⟩
instance ty137 : TyOk Try.prog 137 false 1 := ⟨fun _ => by kernel_rfl, fun _ => by kernel_rfl⟩
instance ze137 : ZeroOk Try.prog 137 (.nilFunc) := ⟨fun _ => by kernel_rfl⟩
instance ty139 : TyOk Try.prog 139 false 1 := ⟨fun _ => by kernel_rfl, fun _ => by kernel_rfl⟩
instance ze139 : ZeroOk Try.prog 139 (.nilFunc) := ⟨fun _ => by kernel_rfl⟩
instance ty140 : TyOk Try.prog 140 false 1 := ⟨fun _ => by kernel_rfl, fun _ => by kernel_rfl⟩
instance ze140 : ZeroOk Try.prog 140 (.nilFunc) := ⟨fun _ => by kernel_rfl⟩
instance ty141 : TyOk Try.prog 141 false 1 := ⟨fun _ => by kernel_rfl, fun _ => by kernel_rfl⟩
instance ze141 : ZeroOk Try.prog 141 (.nilFunc) := ⟨fun _ => by kernel_rfl⟩
instance ty142 : TyOk Try.prog 142 false 1 := ⟨fun _ => by kernel_rfl, fun _ => by kernel_rfl⟩
instance ze142 : ZeroOk Try.prog 142 (.nilFunc) := ⟨fun _ => by kernel_rfl⟩
instance ty143 : TyOk Try.prog 143 false 1 := ⟨fun _ => by kernel_rfl, fun _ => by kernel_rfl⟩
instance ze143 : ZeroOk Try.prog 143 (.nilFunc) := ⟨fun _ => by kernel_rfl⟩
instance ty145 : TyOk Try.prog 145 true 3 := ⟨fun _ => by kernel_rfl, fun _ => by kernel_rfl⟩
instance ze145 : ZeroOk Try.prog 145 (.agg #[.int .i64 0, .int .i64 0, .int .i64 0]) := ⟨fun _ => by kernel_rfl⟩
instance ty146 : TyOk Try.prog 146 false 1 := ⟨fun _ => by kernel_rfl, fun _ => by kernel_rfl⟩
instance ze146 : ZeroOk Try.prog 146 (.nilFunc) := ⟨fun _ => by kernel_rfl⟩
instance ty147 : TyOk Try.prog 147 true 3 := ⟨fun _ => by kernel_rfl, fun _ => by kernel_rfl⟩
instance ze147 : ZeroOk Try.prog 147 (.agg #[.int .i64 0, .int .i64 0, .int .i64 0]) := ⟨fun _ => by kernel_rfl⟩
instance ty149 : TyOk Try.prog 149 false 1 := ⟨fun _ => by kernel_rfl, fun _ => by kernel_rfl⟩
instance ze149 : ZeroOk Try.prog 149 (.nilFunc) := ⟨fun _ => by kernel_rfl⟩
instance ty151 : TyOk Try.prog 151 true 2 := ⟨fun _ => by kernel_rfl, fun _ => by kernel_rfl⟩
instance ze151 : ZeroOk Try.prog 151 (.agg #[.int .i64 0, .bool false]) := ⟨fun _ => by kernel_rfl⟩
instance ty152 : TyOk Try.prog 152 false 1 := ⟨fun _ => by kernel_rfl, fun _ => by kernel_rfl⟩
instance ze152 : ZeroOk Try.prog 152 (.nilFunc) := ⟨fun _ => by kernel_rfl⟩
instance ty153 : TyOk Try.prog 153 false 1 := ⟨fun _ => by kernel_rfl, fun _ => by kernel_rfl⟩
instance ze153 : ZeroOk Try.prog 153 (.nilFunc) := ⟨fun _ => by kernel_rfl⟩
instance ty154 : TyOk Try.prog 154 false 1 := ⟨fun _ => by kernel_rfl, fun _ => by kernel_rfl⟩
instance ze154 : ZeroOk Try.prog 154 (.slice none 0 0) := ⟨fun _ => by kernel_rfl⟩
instance ty155 : TyOk Try.prog 155 false 1 := ⟨fun _ => by kernel_rfl, fun _ => by kernel_rfl⟩
instance ze155 : ZeroOk Try.prog 155 (.nilFunc) := ⟨fun _ => by kernel_rfl⟩
instance ty157 : TyOk Try.prog 157 true 2 := ⟨fun _ => by kernel_rfl, fun _ => by kernel_rfl⟩
instance ze157 : ZeroOk Try.prog 157 (.agg #[.int .i64 0, .int .i64 0]) := ⟨fun _ => by kernel_rfl⟩
instance ty159 : TyOk Try.prog 159 false 1 := ⟨fun _ => by kernel_rfl, fun _ => by kernel_rfl⟩
instance ze159 : ZeroOk Try.prog 159 (.nilFunc) := ⟨fun _ => by kernel_rfl⟩
instance ty160 : TyOk Try.prog 160 false 1 := ⟨fun _ => by kernel_rfl, fun _ => by kernel_rfl⟩
instance ze160 : ZeroOk Try.prog 160 (.nilFunc) := ⟨fun _ => by kernel_rfl⟩
instance ty161 : TyOk Try.prog 161 false 1 := ⟨fun _ => by kernel_rfl, fun _ => by kernel_rfl⟩
instance ze161 : ZeroOk Try.prog 161 (.slice none 0 0) := ⟨fun _ => by kernel_rfl⟩
instance ty162 : TyOk Try.prog 162 false 1 := ⟨fun _ => by kernel_rfl, fun _ => by kernel_rfl⟩
instance ze162 : ZeroOk Try.prog 162 (.nilFunc) := ⟨fun _ => by kernel_rfl⟩
instance ty163 : TyOk Try.prog 163 false 1 := ⟨fun _ => by kernel_rfl, fun _ => by kernel_rfl⟩
instance ze163 : ZeroOk Try.prog 163 (.nilFunc) := ⟨fun _ => by kernel_rfl⟩
instance ty166 : TyOk Try.prog 166 false 1 := ⟨fun _ => by kernel_rfl, fun _ => by kernel_rfl⟩
instance ze166 : ZeroOk Try.prog 166 (.nilFunc) := ⟨fun _ => by kernel_rfl⟩
instance ty167 : TyOk Try.prog 167 true 2 := ⟨fun _ => by kernel_rfl, fun _ => by kernel_rfl⟩
instance ze167 : ZeroOk Try.prog 167 (.agg #[.int .i64 0, .int .i64 0]) := ⟨fun _ => by kernel_rfl⟩
instance ty168 : TyOk Try.prog 168 false 1 := ⟨fun _ => by kernel_rfl, fun _ => by kernel_rfl⟩
instance ze168 : ZeroOk Try.prog 168 (.nilFunc) := ⟨fun _ => by kernel_rfl⟩
instance ty169 : TyOk Try.prog 169 false 1 := ⟨fun _ => by kernel_rfl, fun _ => by kernel_rfl⟩
instance ze169 : ZeroOk Try.prog 169 (.nilFunc) := ⟨fun _ => by kernel_rfl⟩
instance ty170 : TyOk Try.prog 170 false 1 := ⟨fun _ => by kernel_rfl, fun _ => by kernel_rfl⟩
instance ze170 : ZeroOk Try.prog 170 (.nilFunc) := ⟨fun _ => by kernel_rfl⟩
instance ty171 : TyOk Try.prog 171 false 1 := ⟨fun _ => by kernel_rfl, fun _ => by kernel_rfl⟩
instance ze171 : ZeroOk Try.prog 171 (.nilFunc) := ⟨fun _ => by kernel_rfl⟩
instance ty172 : TyOk Try.prog 172 false 1 := ⟨fun _ => by kernel_rfl, fun _ => by kernel_rfl⟩
instance ze172 : ZeroOk Try.prog 172 (.nilFunc) := ⟨fun _ => by kernel_rfl⟩
instance ty173 : TyOk Try.prog 173 false 1 := ⟨fun _ => by kernel_rfl, fun _ => by kernel_rfl⟩
instance ze173 : ZeroOk Try.prog 173 (.nilFunc) := ⟨fun _ => by kernel_rfl⟩
instance ty177 : TyOk Try.prog 177 false 1 := ⟨fun _ => by kernel_rfl, fun _ => by kernel_rfl⟩
instance ze177 : ZeroOk Try.prog 177 (.nilFunc) := ⟨fun _ => by kernel_rfl⟩
instance ty181 : TyOk Try.prog 181 false 1 := ⟨fun _ => by kernel_rfl, fun _ => by kernel_rfl⟩
instance ze181 : ZeroOk Try.prog 181 (.nilFunc) := ⟨fun _ => by kernel_rfl⟩
instance ty182 : TyOk Try.prog 182 false 1 := ⟨fun _ => by kernel_rfl, fun _ => by kernel_rfl⟩
instance ze182 : ZeroOk Try.prog 182 (.nilFunc) := ⟨fun _ => by kernel_rfl⟩
instance ty184 : TyOk Try.prog 184 true 4 := ⟨fun _ => by kernel_rfl, fun _ => by kernel_rfl⟩
instance ze184 : ZeroOk Try.prog 184 (.agg #[.int .i64 0, .int .i64 0, .int .i64 0, .int .i64 0]) := ⟨fun _ => by kernel_rfl⟩
instance ty185 : TyOk Try.prog 185 false 1 := ⟨fun _ => by kernel_rfl, fun _ => by kernel_rfl⟩
instance ze185 : ZeroOk Try.prog 185 (.nilFunc) := ⟨fun _ => by kernel_rfl⟩
instance ty186 : TyOk Try.prog 186 false 1 := ⟨fun _ => by kernel_rfl, fun _ => by kernel_rfl⟩
instance ze186 : ZeroOk Try.prog 186 (.nilFunc) := ⟨fun _ => by kernel_rfl⟩
instance ty187 : TyOk Try.prog 187 false 1 := ⟨fun _ => by kernel_rfl, fun _ => by kernel_rfl⟩
instance ze187 : ZeroOk Try.prog 187 (.nilFunc) := ⟨fun _ => by kernel_rfl⟩
instance ty189 : TyOk Try.prog 189 false 1 := ⟨fun _ => by kernel_rfl, fun _ => by kernel_rfl⟩
instance ze189 : ZeroOk Try.prog 189 (.nilFunc) := ⟨fun _ => by kernel_rfl⟩
instance ty190 : TyOk Try.prog 190 false 1 := ⟨fun _ => by kernel_rfl, fun _ => by kernel_rfl⟩
instance ze190 : ZeroOk Try.prog 190 (.nilFunc) := ⟨fun _ => by kernel_rfl⟩
instance ty191 : TyOk Try.prog 191 false 1 := ⟨fun _ => by kernel_rfl, fun _ => by kernel_rfl⟩
instance ze191 : ZeroOk Try.prog 191 (.nilFunc) := ⟨fun _ => by kernel_rfl⟩
instance ty192 : TyOk Try.prog 192 false 1 := ⟨fun _ => by kernel_rfl, fun _ => by kernel_rfl⟩
instance ze192 : ZeroOk Try.prog 192 (.slice none 0 0) := ⟨fun _ => by kernel_rfl⟩
instance ty193 : TyOk Try.prog 193 false 1 := ⟨fun _ => by kernel_rfl, fun _ => by kernel_rfl⟩
instance ze193 : ZeroOk Try.prog 193 (.nilFunc) := ⟨fun _ => by kernel_rfl⟩
instance ty195 : TyOk Try.prog 195 false 1 := ⟨fun _ => by kernel_rfl, fun _ => by kernel_rfl⟩
instance ze195 : ZeroOk Try.prog 195 (.nilFunc) := ⟨fun _ => by kernel_rfl⟩
instance ty197 : TyOk Try.prog 197 true 4 := ⟨fun _ => by kernel_rfl, fun _ => by kernel_rfl⟩
instance ze197 : ZeroOk Try.prog 197 (.agg #[.int .i64 0, .int .i64 0, .int .i64 0, .int .i64 0]) := ⟨fun _ => by kernel_rfl⟩
instance ty198 : TyOk Try.prog 198 false 1 := ⟨fun _ => by kernel_rfl, fun _ => by kernel_rfl⟩
instance ze198 : ZeroOk Try.prog 198 (.nilFunc) := ⟨fun _ => by kernel_rfl⟩
instance ty199 : TyOk Try.prog 199 false 1 := ⟨fun _ => by kernel_rfl, fun _ => by kernel_rfl⟩
instance ze199 : ZeroOk Try.prog 199 (.nilFunc) := ⟨fun _ => by kernel_rfl⟩
instance ty201 : TyOk Try.prog 201 false 1 := ⟨fun _ => by kernel_rfl, fun _ => by kernel_rfl⟩
instance ze201 : ZeroOk Try.prog 201 (.nilFunc) := ⟨fun _ => by kernel_rfl⟩
instance ty202 : TyOk Try.prog 202 false 1 := ⟨fun _ => by kernel_rfl, fun _ => by kernel_rfl⟩
instance ze202 : ZeroOk Try.prog 202 (.nilFunc) := ⟨fun _ => by kernel_rfl⟩
instance ty203 : TyOk Try.prog 203 false 1 := ⟨fun _ => by kernel_rfl, fun _ => by kernel_rfl⟩
instance ze203 : ZeroOk Try.prog 203 (.slice none 0 0) := ⟨fun _ => by kernel_rfl⟩
instance ty204 : TyOk Try.prog 204 false 1 := ⟨fun _ => by kernel_rfl, fun _ => by kernel_rfl⟩
instance ze204 : ZeroOk Try.prog 204 (.nilFunc) := ⟨fun _ => by kernel_rfl⟩
instance ty205 : TyOk Try.prog 205 false 1 := ⟨fun _ => by kernel_rfl, fun _ => by kernel_rfl⟩
instance ze205 : ZeroOk Try.prog 205 (.nilFunc) := ⟨fun _ => by kernel_rfl⟩
instance ty207 : TyOk Try.prog 207 false 1 := ⟨fun _ => by kernel_rfl, fun _ => by kernel_rfl⟩
instance ze207 : ZeroOk Try.prog 207 (.int .u64 0) := ⟨fun _ => by kernel_rfl⟩
instance ty208 : TyOk Try.prog 208 false 1 := ⟨fun _ => by kernel_rfl, fun _ => by kernel_rfl⟩
instance ze208 : ZeroOk Try.prog 208 (.nilFunc) := ⟨fun _ => by kernel_rfl⟩
instance ty210 : TyOk Try.prog 210 false 1 := ⟨fun _ => by kernel_rfl, fun _ => by kernel_rfl⟩
instance ze210 : ZeroOk Try.prog 210 (.nilFunc) := ⟨fun _ => by kernel_rfl⟩
instance ty211 : TyOk Try.prog 211 false 1 := ⟨fun _ => by kernel_rfl, fun _ => by kernel_rfl⟩
instance ze211 : ZeroOk Try.prog 211 (.nilFunc) := ⟨fun _ => by kernel_rfl⟩
instance ty212 : TyOk Try.prog 212 false 1 := ⟨fun _ => by kernel_rfl, fun _ => by kernel_rfl⟩
instance ze212 : ZeroOk Try.prog 212 (.nilFunc) := ⟨fun _ => by kernel_rfl⟩
instance ty213 : TyOk Try.prog 213 false 1 := ⟨fun _ => by kernel_rfl, fun _ => by kernel_rfl⟩
instance ze213 : ZeroOk Try.prog 213 (.nilFunc) := ⟨fun _ => by kernel_rfl⟩
instance ty214 : TyOk Try.prog 214 false 1 := ⟨fun _ => by kernel_rfl, fun _ => by kernel_rfl⟩
instance ze214 : ZeroOk Try.prog 214 (.nilFunc) := ⟨fun _ => by kernel_rfl⟩
instance ty216 : TyOk Try.prog 216 true 2 := ⟨fun _ => by kernel_rfl, fun _ => by kernel_rfl⟩
instance ze216 : ZeroOk Try.prog 216 (.agg #[.int .i64 0, .int .i64 0]) := ⟨fun _ => by kernel_rfl⟩
instance ty219 : TyOk Try.prog 219 false 1 := ⟨fun _ => by kernel_rfl, fun _ => by kernel_rfl⟩
instance ze219 : ZeroOk Try.prog 219 (.nilFunc) := ⟨fun _ => by kernel_rfl⟩
instance ty220 : TyOk Try.prog 220 false 1 := ⟨fun _ => by kernel_rfl, fun _ => by kernel_rfl⟩
instance ze220 : ZeroOk Try.prog 220 (.nilFunc) := ⟨fun _ => by kernel_rfl⟩
instance ty221 : TyOk Try.prog 221 false 1 := ⟨fun _ => by kernel_rfl, fun _ => by kernel_rfl⟩
instance ze221 : ZeroOk Try.prog 221 (.nilFunc) := ⟨fun _ => by kernel_rfl⟩
instance ty222 : TyOk Try.prog 222 false 1 := ⟨fun _ => by kernel_rfl, fun _ => by kernel_rfl⟩
instance ze222 : ZeroOk Try.prog 222 (.nilFunc) := ⟨fun _ => by kernel_rfl⟩
instance ty223 : TyOk Try.prog 223 false 1 := ⟨fun _ => by kernel_rfl, fun _ => by kernel_rfl⟩
instance ze223 : ZeroOk Try.prog 223 (.nilFunc) := ⟨fun _ => by kernel_rfl⟩
instance ty224 : TyOk Try.prog 224 false 1 := ⟨fun _ => by kernel_rfl, fun _ => by kernel_rfl⟩
instance ze224 : ZeroOk Try.prog 224 (.nilFunc) := ⟨fun _ => by kernel_rfl⟩
instance ty225 : TyOk Try.prog 225 false 1 := ⟨fun _ => by kernel_rfl, fun _ => by kernel_rfl⟩
instance ze225 : ZeroOk Try.prog 225 (.nilFunc) := ⟨fun _ => by kernel_rfl⟩
instance ty226 : TyOk Try.prog 226 false 1 := ⟨fun _ => by kernel_rfl, fun _ => by kernel_rfl⟩
instance ze226 : ZeroOk Try.prog 226 (.nilFunc) := ⟨fun _ => by kernel_rfl⟩
instance ty227 : TyOk Try.prog 227 false 1 := ⟨fun _ => by kernel_rfl, fun _ => by kernel_rfl⟩
instance ze227 : ZeroOk Try.prog 227 (.nilFunc) := ⟨fun _ => by kernel_rfl⟩
instance ty228 : TyOk Try.prog 228 false 1 := ⟨fun _ => by kernel_rfl, fun _ => by kernel_rfl⟩
instance ze228 : ZeroOk Try.prog 228 (.nilFunc) := ⟨fun _ => by kernel_rfl⟩
instance ty230 : TyOk Try.prog 230 false 1 := ⟨fun _ => by kernel_rfl, fun _ => by kernel_rfl⟩
instance ze230 : ZeroOk Try.prog 230 (.nilFunc) := ⟨fun _ => by kernel_rfl⟩
instance ty231 : TyOk Try.prog 231 false 1 := ⟨fun _ => by kernel_rfl, fun _ => by kernel_rfl⟩
instance ze231 : ZeroOk Try.prog 231 (.nilFunc) := ⟨fun _ => by kernel_rfl⟩
instance ty233 : TyOk Try.prog 233 false 1 := ⟨fun _ => by kernel_rfl, fun _ => by kernel_rfl⟩
instance ze233 : ZeroOk Try.prog 233 (.nilFunc) := ⟨fun _ => by kernel_rfl⟩
instance ty236 : TyOk Try.prog 236 false 1 := ⟨fun _ => by kernel_rfl, fun _ => by kernel_rfl⟩
instance ze236 : ZeroOk Try.prog 236 (.nilFunc) := ⟨fun _ => by kernel_rfl⟩
instance ty237 : TyOk Try.prog 237 false 1 := ⟨fun _ => by kernel_rfl, fun _ => by kernel_rfl⟩
instance ze237 : ZeroOk Try.prog 237 (.nilFunc) := ⟨fun _ => by kernel_rfl⟩
instance ty244 : TyOk Try.prog 244 false 1 := ⟨fun _ => by kernel_rfl, fun _ => by kernel_rfl⟩
instance ze244 : ZeroOk Try.prog 244 (.nilFunc) := ⟨fun _ => by kernel_rfl⟩
instance ty248 : TyOk Try.prog 248 false 1 := ⟨fun _ => by kernel_rfl, fun _ => by kernel_rfl⟩
instance ze248 : ZeroOk Try.prog 248 (.nilFunc) := ⟨fun _ => by kernel_rfl⟩
instance ty253 : TyOk Try.prog 253 false 1 := ⟨fun _ => by kernel_rfl, fun _ => by kernel_rfl⟩
instance ze253 : ZeroOk Try.prog 253 (.nilFunc) := ⟨fun _ => by kernel_rfl⟩
instance ty254 : TyOk Try.prog 254 false 1 := ⟨fun _ => by kernel_rfl, fun _ => by kernel_rfl⟩
instance ze254 : ZeroOk Try.prog 254 (.nilFunc) := ⟨fun _ => by kernel_rfl⟩
instance ty255 : TyOk Try.prog 255 false 1 := ⟨fun _ => by kernel_rfl, fun _ => by kernel_rfl⟩
instance ze255 : ZeroOk Try.prog 255 (.nilFunc) := ⟨fun _ => by kernel_rfl⟩
instance ty256 : TyOk Try.prog 256 false 1 := ⟨fun _ => by kernel_rfl, fun _ => by kernel_rfl⟩
instance ze256 : ZeroOk Try.prog 256 (.nilFunc) := ⟨fun _ => by kernel_rfl⟩
instance zc1 : ZcOk Try.prog 1 [.v (.nilFunc)] := ⟨_, ze1, rfl⟩
instance zc3 : ZcOk Try.prog 3 [.v (.int .i64 0)] := ⟨_, ze3, rfl⟩
instance zc4 : ZcOk Try.prog 4 [.v (.bool false)] := ⟨_, ze4, rfl⟩
instance zc5 : ZcOk Try.prog 5 [.v (.int .u8 0)] := ⟨_, ze5, rfl⟩
instance zc22 : ZcOk Try.prog 22 [.v (.slice none 0 0)] := ⟨_, ze22, rfl⟩
instance zc23 : ZcOk Try.prog 23 [.v (.nilFunc)] := ⟨_, ze23, rfl⟩
instance zc24 : ZcOk Try.prog 24 [.v (.slice none 0 0)] := ⟨_, ze24, rfl⟩
instance fl26_0 : FldOk Try.prog 26 0 0 false 1 := ⟨⟨_, _, Try.underlying26, rfl, rfl, ty24⟩, by decide⟩
instance zc26 : ZcOk Try.prog 26 [.v (.slice none 0 0)] := ⟨_, ze26, rfl⟩
instance bl26 : BldOk Try.prog 26 [.slice none 0 0] [(0, 1)] := ⟨_, _, ze26.zero, rfl, Try.underlying26, fun _ => by kernel_rfl⟩
instance zc27 : ZcOk Try.prog 27 [.v (.nilFunc)] := ⟨_, ze27, rfl⟩
instance zc28 : ZcOk Try.prog 28 [.v (.nilFunc)] := ⟨_, ze28, rfl⟩
instance zc29 : ZcOk Try.prog 29 [.v (.nilFunc)] := ⟨_, ze29, rfl⟩
instance fl31_0 : FldOk Try.prog 31 0 0 false 1 := ⟨⟨_, _, Try.underlying31, rfl, rfl, ty3⟩, by decide⟩
instance fl31_1 : FldOk Try.prog 31 1 1 false 1 := ⟨⟨_, _, Try.underlying31, rfl, rfl, ty3⟩, by decide⟩
instance zc31 : ZcOk Try.prog 31 [.v (.int .i64 0), .v (.int .i64 0)] := ⟨_, ze31, rfl⟩
instance bl31 : BldOk Try.prog 31 [.int .i64 0, .int .i64 0] [(0, 1), (1, 1)] := ⟨_, _, ze31.zero, rfl, Try.underlying31, fun _ => by kernel_rfl⟩
instance zc33 : ZcOk Try.prog 33 [.v (.nilFunc)] := ⟨_, ze33, rfl⟩
instance zc34 : ZcOk Try.prog 34 [.v (.nilFunc)] := ⟨_, ze34, rfl⟩
instance zc35 : ZcOk Try.prog 35 [.v (.nilFunc)] := ⟨_, ze35, rfl⟩
instance zc36 : ZcOk Try.prog 36 [.v (.nilFunc)] := ⟨_, ze36, rfl⟩
instance zc37 : ZcOk Try.prog 37 [.v (.slice none 0 0)] := ⟨_, ze37, rfl⟩
instance zc38 : ZcOk Try.prog 38 [.v (.slice none 0 0)] := ⟨_, ze38, rfl⟩
instance fl40_0 : FldOk Try.prog 40 0 0 false 1 := ⟨⟨_, _, Try.underlying40, rfl, rfl, ty38⟩, by decide⟩
instance zc40 : ZcOk Try.prog 40 [.v (.slice none 0 0)] := ⟨_, ze40, rfl⟩
instance bl40 : BldOk Try.prog 40 [.slice none 0 0] [(0, 1)] := ⟨_, _, ze40.zero, rfl, Try.underlying40, fun _ => by kernel_rfl⟩
instance zc41 : ZcOk Try.prog 41 [.v (.nilFunc)] := ⟨_, ze41, rfl⟩
instance zc42 : ZcOk Try.prog 42 [.v (.nilFunc)] := ⟨_, ze42, rfl⟩
instance zc43 : ZcOk Try.prog 43 [.v (.nilFunc)] := ⟨_, ze43, rfl⟩
instance zc44 : ZcOk Try.prog 44 [.v (.nilFunc)] := ⟨_, ze44, rfl⟩
instance zc45 : ZcOk Try.prog 45 [.v (.nilFunc)] := ⟨_, ze45, rfl⟩
instance zc46 : ZcOk Try.prog 46 [.v (.slice none 0 0)] := ⟨_, ze46, rfl⟩
instance fl48_0 : FldOk Try.prog 48 0 0 false 1 := ⟨⟨_, _, Try.underlying48, rfl, rfl, ty46⟩, by decide⟩
instance zc48 : ZcOk Try.prog 48 [.v (.slice none 0 0)] := ⟨_, ze48, rfl⟩
instance bl48 : BldOk Try.prog 48 [.slice none 0 0] [(0, 1)] := ⟨_, _, ze48.zero, rfl, Try.underlying48, fun _ => by kernel_rfl⟩
instance zc49 : ZcOk Try.prog 49 [.v (.nilFunc)] := ⟨_, ze49, rfl⟩
instance fl51_0 : FldOk Try.prog 51 0 0 true 2 := ⟨⟨_, _, Try.underlying51, rfl, rfl, ty31⟩, by decide⟩
instance fl51_1 : FldOk Try.prog 51 1 2 true 2 := ⟨⟨_, _, Try.underlying51, rfl, rfl, ty31⟩, by decide⟩
instance zc51 : ZcOk Try.prog 51 [.v (.int .i64 0), .v (.int .i64 0), .v (.int .i64 0), .v (.int .i64 0)] := ⟨_, ze51, rfl⟩
instance bl51 : BldOk Try.prog 51 [.int .i64 0, .int .i64 0, .int .i64 0, .int .i64 0] [(0, 2), (2, 2)] := ⟨_, _, ze51.zero, rfl, Try.underlying51, fun _ => by kernel_rfl⟩
instance zc53 : ZcOk Try.prog 53 [.v (.nilFunc)] := ⟨_, ze53, rfl⟩
instance zc54 : ZcOk Try.prog 54 [.v (.nilFunc)] := ⟨_, ze54, rfl⟩
instance zc55 : ZcOk Try.prog 55 [.v (.nilFunc)] := ⟨_, ze55, rfl⟩
instance zc56 : ZcOk Try.prog 56 [.v (.nilFunc)] := ⟨_, ze56, rfl⟩
instance zc57 : ZcOk Try.prog 57 [.v (.nilFunc)] := ⟨_, ze57, rfl⟩
instance zc58 : ZcOk Try.prog 58 [.v (.nilFunc)] := ⟨_, ze58, rfl⟩
instance zc59 : ZcOk Try.prog 59 [.v (.nilFunc)] := ⟨_, ze59, rfl⟩
instance zc60 : ZcOk Try.prog 60 [.v (.nilFunc)] := ⟨_, ze60, rfl⟩
instance zc61 : ZcOk Try.prog 61 [.v (.nilFunc)] := ⟨_, ze61, rfl⟩
instance zc62 : ZcOk Try.prog 62 [.v (.nilFunc)] := ⟨_, ze62, rfl⟩
instance zc63 : ZcOk Try.prog 63 [.v (.slice none 0 0)] := ⟨_, ze63, rfl⟩
instance fl65_0 : FldOk Try.prog 65 0 0 false 1 := ⟨⟨_, _, Try.underlying65, rfl, rfl, ty63⟩, by decide⟩
instance zc65 : ZcOk Try.prog 65 [.v (.slice none 0 0)] := ⟨_, ze65, rfl⟩
instance bl65 : BldOk Try.prog 65 [.slice none 0 0] [(0, 1)] := ⟨_, _, ze65.zero, rfl, Try.underlying65, fun _ => by kernel_rfl⟩
instance zc66 : ZcOk Try.prog 66 [.v (.nilFunc)] := ⟨_, ze66, rfl⟩
instance zc68 : ZcOk Try.prog 68 [.v (.nilFunc)] := ⟨_, ze68, rfl⟩
instance zc69 : ZcOk Try.prog 69 [.v (.nilFunc)] := ⟨_, ze69, rfl⟩
instance zc70 : ZcOk Try.prog 70 [.v (.nilFunc)] := ⟨_, ze70, rfl⟩
instance zc71 : ZcOk Try.prog 71 [.v (.nilFunc)] := ⟨_, ze71, rfl⟩
instance zc72 : ZcOk Try.prog 72 [.v (.nilFunc)] := ⟨_, ze72, rfl⟩
instance zc73 : ZcOk Try.prog 73 [.v (.slice none 0 0)] := ⟨_, ze73, rfl⟩
instance zc74 : ZcOk Try.prog 74 [.v (.nilFunc)] := ⟨_, ze74, rfl⟩
instance zc75 : ZcOk Try.prog 75 [.v (.slice none 0 0)] := ⟨_, ze75, rfl⟩
instance zc77 : ZcOk Try.prog 77 [.v (.nilFunc)] := ⟨_, ze77, rfl⟩
instance zc78 : ZcOk Try.prog 78 [.v (.nilFunc)] := ⟨_, ze78, rfl⟩
instance zc79 : ZcOk Try.prog 79 [.v (.nilFunc)] := ⟨_, ze79, rfl⟩
instance zc80 : ZcOk Try.prog 80 [.v (.nilFunc)] := ⟨_, ze80, rfl⟩
instance zc81 : ZcOk Try.prog 81 [.v (.nilFunc)] := ⟨_, ze81, rfl⟩
instance zc82 : ZcOk Try.prog 82 [.v (.slice none 0 0)] := ⟨_, ze82, rfl⟩
instance fl84_0 : FldOk Try.prog 84 0 0 false 1 := ⟨⟨_, _, Try.underlying84, rfl, rfl, ty82⟩, by decide⟩
instance fl84_1 : FldOk Try.prog 84 1 1 false 1 := ⟨⟨_, _, Try.underlying84, rfl, rfl, ty82⟩, by decide⟩
instance zc84 : ZcOk Try.prog 84 [.v (.slice none 0 0), .v (.slice none 0 0)] := ⟨_, ze84, rfl⟩
instance bl84 : BldOk Try.prog 84 [.slice none 0 0, .slice none 0 0] [(0, 1), (1, 1)] := ⟨_, _, ze84.zero, rfl, Try.underlying84, fun _ => by kernel_rfl⟩
instance zc85 : ZcOk Try.prog 85 [.v (.nilFunc)] := ⟨_, ze85, rfl⟩
instance zc86 : ZcOk Try.prog 86 [.v (.slice none 0 0)] := ⟨_, ze86, rfl⟩
instance zc87 : ZcOk Try.prog 87 [.v (.nilFunc)] := ⟨_, ze87, rfl⟩
instance fl88_0 : FldOk Try.prog 88 0 0 false 1 := ⟨⟨_, _, Try.underlying88, rfl, rfl, ty82⟩, by decide⟩
instance fl88_1 : FldOk Try.prog 88 1 1 false 1 := ⟨⟨_, _, Try.underlying88, rfl, rfl, ty82⟩, by decide⟩
instance zc88 : ZcOk Try.prog 88 [.v (.slice none 0 0), .v (.slice none 0 0)] := ⟨_, ze88, rfl⟩
instance bl88 : BldOk Try.prog 88 [.slice none 0 0, .slice none 0 0] [(0, 1), (1, 1)] := ⟨_, _, ze88.zero, rfl, Try.underlying88, fun _ => by kernel_rfl⟩
instance zc89 : ZcOk Try.prog 89 [.v (.nilFunc)] := ⟨_, ze89, rfl⟩
instance zc90 : ZcOk Try.prog 90 [.v (.nilFunc)] := ⟨_, ze90, rfl⟩
instance zc91 : ZcOk Try.prog 91 [.v (.nilFunc)] := ⟨_, ze91, rfl⟩
instance zc92 : ZcOk Try.prog 92 [.v (.nilFunc)] := ⟨_, ze92, rfl⟩
instance zc93 : ZcOk Try.prog 93 [.v (.nilFunc)] := ⟨_, ze93, rfl⟩
instance zc94 : ZcOk Try.prog 94 [.v (.nilFunc)] := ⟨_, ze94, rfl⟩
instance zc95 : ZcOk Try.prog 95 [.v (.nilFunc)] := ⟨_, ze95, rfl⟩
instance zc96 : ZcOk Try.prog 96 [.v (.nilFunc)] := ⟨_, ze96, rfl⟩
instance fl98_0 : FldOk Try.prog 98 0 0 false 1 := ⟨⟨_, _, Try.underlying98, rfl, rfl, ty3⟩, by decide⟩
instance fl98_1 : FldOk Try.prog 98 1 1 false 1 := ⟨⟨_, _, Try.underlying98, rfl, rfl, ty3⟩, by decide⟩
instance fl98_2 : FldOk Try.prog 98 2 2 false 1 := ⟨⟨_, _, Try.underlying98, rfl, rfl, ty3⟩, by decide⟩
instance fl98_3 : FldOk Try.prog 98 3 3 false 1 := ⟨⟨_, _, Try.underlying98, rfl, rfl, ty3⟩, by decide⟩
instance zc98 : ZcOk Try.prog 98 [.v (.int .i64 0), .v (.int .i64 0), .v (.int .i64 0), .v (.int .i64 0)] := ⟨_, ze98, rfl⟩
instance bl98 : BldOk Try.prog 98 [.int .i64 0, .int .i64 0, .int .i64 0, .int .i64 0] [(0, 1), (1, 1), (2, 1), (3, 1)] := ⟨_, _, ze98.zero, rfl, Try.underlying98, fun _ => by kernel_rfl⟩
instance zc99 : ZcOk Try.prog 99 [.v (.nilFunc)] := ⟨_, ze99, rfl⟩
instance fl100_0 : FldOk Try.prog 100 0 0 false 1 := ⟨⟨_, _, Try.underlying100, rfl, rfl, ty3⟩, by decide⟩
instance fl100_1 : FldOk Try.prog 100 1 1 false 1 := ⟨⟨_, _, Try.underlying100, rfl, rfl, ty3⟩, by decide⟩
instance fl100_2 : FldOk Try.prog 100 2 2 false 1 := ⟨⟨_, _, Try.underlying100, rfl, rfl, ty3⟩, by decide⟩
instance fl100_3 : FldOk Try.prog 100 3 3 false 1 := ⟨⟨_, _, Try.underlying100, rfl, rfl, ty3⟩, by decide⟩
instance zc100 : ZcOk Try.prog 100 [.v (.int .i64 0), .v (.int .i64 0), .v (.int .i64 0), .v (.int .i64 0)] := ⟨_, ze100, rfl⟩
instance bl100 : BldOk Try.prog 100 [.int .i64 0, .int .i64 0, .int .i64 0, .int .i64 0] [(0, 1), (1, 1), (2, 1), (3, 1)] := ⟨_, _, ze100.zero, rfl, Try.underlying100, fun _ => by kernel_rfl⟩
instance zc101 : ZcOk Try.prog 101 [.v (.nilFunc)] := ⟨_, ze101, rfl⟩
instance zc102 : ZcOk Try.prog 102 [.v (.nilFunc)] := ⟨_, ze102, rfl⟩
instance zc103 : ZcOk Try.prog 103 [.v (.nilFunc)] := ⟨_, ze103, rfl⟩
instance zc104 : ZcOk Try.prog 104 [.v (.nilFunc)] := ⟨_, ze104, rfl⟩
instance zc105 : ZcOk Try.prog 105 [.v (.slice none 0 0)] := ⟨_, ze105, rfl⟩
instance zc106 : ZcOk Try.prog 106 [.v (.nilFunc)] := ⟨_, ze106, rfl⟩
instance zc107 : ZcOk Try.prog 107 [.v (.nilFunc)] := ⟨_, ze107, rfl⟩
instance zc108 : ZcOk Try.prog 108 [.v (.nilFunc)] := ⟨_, ze108, rfl⟩
instance zc110 : ZcOk Try.prog 110 [.v (.nilFunc)] := ⟨_, ze110, rfl⟩
instance zc111 : ZcOk Try.prog 111 [.v (.nilFunc)] := ⟨_, ze111, rfl⟩
instance zc112 : ZcOk Try.prog 112 [.v (.nilFunc)] := ⟨_, ze112, rfl⟩
instance zc114 : ZcOk Try.prog 114 [.v (.nilFunc)] := ⟨_, ze114, rfl⟩
instance zc115 : ZcOk Try.prog 115 [.v (.nilFunc)] := ⟨_, ze115, rfl⟩
instance zc116 : ZcOk Try.prog 116 [.v (.nilFunc)] := ⟨_, ze116, rfl⟩
instance zc117 : ZcOk Try.prog 117 [.v (.nilFunc)] := ⟨_, ze117, rfl⟩
instance zc118 : ZcOk Try.prog 118 [.v (.nilFunc)] := ⟨_, ze118, rfl⟩
instance zc119 : ZcOk Try.prog 119 [.v (.nilFunc)] := ⟨_, ze119, rfl⟩
instance zc120 : ZcOk Try.prog 120 [.v (.nilFunc)] := ⟨_, ze120, rfl⟩
instance zc121 : ZcOk Try.prog 121 [.v (.nilFunc)] := ⟨_, ze121, rfl⟩
instance zc123 : ZcOk Try.prog 123 [.v (.nilFunc)] := ⟨_, ze123, rfl⟩
instance zc124 : ZcOk Try.prog 124 [.v (.nilFunc)] := ⟨_, ze124, rfl⟩
instance zc125 : ZcOk Try.prog 125 [.v (.nilFunc)] := ⟨_, ze125, rfl⟩
instance zc126 : ZcOk Try.prog 126 [.v (.nilFunc)] := ⟨_, ze126, rfl⟩
instance zc127 : ZcOk Try.prog 127 [.v (.nilFunc)] := ⟨_, ze127, rfl⟩
instance zc128 : ZcOk Try.prog 128 [.v (.nilFunc)] := ⟨_, ze128, rfl⟩
instance zc129 : ZcOk Try.prog 129 [.v (.nilFunc)] := ⟨_, ze129, rfl⟩
instance zc130 : ZcOk Try.prog 130 [.v (.nilFunc)] := ⟨_, ze130, rfl⟩
instance zc131 : ZcOk Try.prog 131 [.v (.nilFunc)] := ⟨_, ze131, rfl⟩
instance zc133 : ZcOk Try.prog 133 [.v (.nilFunc)] := ⟨_, ze133, rfl⟩
instance zc134 : ZcOk Try.prog 134 [.v (.nilFunc)] := ⟨_, ze134, rfl⟩
instance zc135 : ZcOk Try.prog 135 [.v (.nilFunc)] := ⟨_, ze135, rfl⟩
instance zc136 : ZcOk Try.prog 136 [.v (.nilFunc)] := ⟨_, ze136, rfl⟩
instance zc137 : ZcOk Try.prog 137 [.v (.nilFunc)] := ⟨_, ze137, rfl⟩
instance zc139 : ZcOk Try.prog 139 [.v (.nilFunc)] := ⟨_, ze139, rfl⟩
instance zc140 : ZcOk Try.prog 140 [.v (.nilFunc)] := ⟨_, ze140, rfl⟩
instance zc141 : ZcOk Try.prog 141 [.v (.nilFunc)] := ⟨_, ze141, rfl⟩
instance zc142 : ZcOk Try.prog 142 [.v (.nilFunc)] := ⟨_, ze142, rfl⟩
instance zc143 : ZcOk Try.prog 143 [.v (.nilFunc)] := ⟨_, ze143, rfl⟩
instance fl145_0 : FldOk Try.prog 145 0 0 false 1 := ⟨⟨_, _, Try.underlying145, rfl, rfl, ty3⟩, by decide⟩
instance fl145_1 : FldOk Try.prog 145 1 1 false 1 := ⟨⟨_, _, Try.underlying145, rfl, rfl, ty3⟩, by decide⟩
instance fl145_2 : FldOk Try.prog 145 2 2 false 1 := ⟨⟨_, _, Try.underlying145, rfl, rfl, ty3⟩, by decide⟩
instance zc145 : ZcOk Try.prog 145 [.v (.int .i64 0), .v (.int .i64 0), .v (.int .i64 0)] := ⟨_, ze145, rfl⟩
instance bl145 : BldOk Try.prog 145 [.int .i64 0, .int .i64 0, .int .i64 0] [(0, 1), (1, 1), (2, 1)] := ⟨_, _, ze145.zero, rfl, Try.underlying145, fun _ => by kernel_rfl⟩
instance zc146 : ZcOk Try.prog 146 [.v (.nilFunc)] := ⟨_, ze146, rfl⟩
instance fl147_0 : FldOk Try.prog 147 0 0 false 1 := ⟨⟨_, _, Try.underlying147, rfl, rfl, ty3⟩, by decide⟩
instance fl147_1 : FldOk Try.prog 147 1 1 false 1 := ⟨⟨_, _, Try.underlying147, rfl, rfl, ty3⟩, by decide⟩
instance fl147_2 : FldOk Try.prog 147 2 2 false 1 := ⟨⟨_, _, Try.underlying147, rfl, rfl, ty3⟩, by decide⟩
instance zc147 : ZcOk Try.prog 147 [.v (.int .i64 0), .v (.int .i64 0), .v (.int .i64 0)] := ⟨_, ze147, rfl⟩
instance bl147 : BldOk Try.prog 147 [.int .i64 0, .int .i64 0, .int .i64 0] [(0, 1), (1, 1), (2, 1)] := ⟨_, _, ze147.zero, rfl, Try.underlying147, fun _ => by kernel_rfl⟩
instance zc149 : ZcOk Try.prog 149 [.v (.nilFunc)] := ⟨_, ze149, rfl⟩
instance fl151_0 : FldOk Try.prog 151 0 0 false 1 := ⟨⟨_, _, Try.underlying151, rfl, rfl, ty3⟩, by decide⟩
instance fl151_1 : FldOk Try.prog 151 1 1 false 1 := ⟨⟨_, _, Try.underlying151, rfl, rfl, ty4⟩, by decide⟩
instance zc151 : ZcOk Try.prog 151 [.v (.int .i64 0), .v (.bool false)] := ⟨_, ze151, rfl⟩
instance bl151 : BldOk Try.prog 151 [.int .i64 0, .bool false] [(0, 1), (1, 1)] := ⟨_, _, ze151.zero, rfl, Try.underlying151, fun _ => by kernel_rfl⟩
instance zc152 : ZcOk Try.prog 152 [.v (.nilFunc)] := ⟨_, ze152, rfl⟩
instance zc153 : ZcOk Try.prog 153 [.v (.nilFunc)] := ⟨_, ze153, rfl⟩
instance zc154 : ZcOk Try.prog 154 [.v (.slice none 0 0)] := ⟨_, ze154, rfl⟩
instance zc155 : ZcOk Try.prog 155 [.v (.nilFunc)] := ⟨_, ze155, rfl⟩
instance fl157_0 : FldOk Try.prog 157 0 0 false 1 := ⟨⟨_, _, Try.underlying157, rfl, rfl, ty3⟩, by decide⟩
instance fl157_1 : FldOk Try.prog 157 1 1 false 1 := ⟨⟨_, _, Try.underlying157, rfl, rfl, ty3⟩, by decide⟩
instance zc157 : ZcOk Try.prog 157 [.v (.int .i64 0), .v (.int .i64 0)] := ⟨_, ze157, rfl⟩
instance bl157 : BldOk Try.prog 157 [.int .i64 0, .int .i64 0] [(0, 1), (1, 1)] := ⟨_, _, ze157.zero, rfl, Try.underlying157, fun _ => by kernel_rfl⟩
instance zc159 : ZcOk Try.prog 159 [.v (.nilFunc)] := ⟨_, ze159, rfl⟩
instance zc160 : ZcOk Try.prog 160 [.v (.nilFunc)] := ⟨_, ze160, rfl⟩
instance zc161 : ZcOk Try.prog 161 [.v (.slice none 0 0)] := ⟨_, ze161, rfl⟩
instance zc162 : ZcOk Try.prog 162 [.v (.nilFunc)] := ⟨_, ze162, rfl⟩
instance zc163 : ZcOk Try.prog 163 [.v (.nilFunc)] := ⟨_, ze163, rfl⟩
instance zc166 : ZcOk Try.prog 166 [.v (.nilFunc)] := ⟨_, ze166, rfl⟩
instance fl167_0 : FldOk Try.prog 167 0 0 false 1 := ⟨⟨_, _, Try.underlying167, rfl, rfl, ty3⟩, by decide⟩
instance fl167_1 : FldOk Try.prog 167 1 1 false 1 := ⟨⟨_, _, Try.underlying167, rfl, rfl, ty3⟩, by decide⟩
instance zc167 : ZcOk Try.prog 167 [.v (.int .i64 0), .v (.int .i64 0)] := ⟨_, ze167, rfl⟩
instance bl167 : BldOk Try.prog 167 [.int .i64 0, .int .i64 0] [(0, 1), (1, 1)] := ⟨_, _, ze167.zero, rfl, Try.underlying167, fun _ => by kernel_rfl⟩
instance zc168 : ZcOk Try.prog 168 [.v (.nilFunc)] := ⟨_, ze168, rfl⟩
instance zc169 : ZcOk Try.prog 169 [.v (.nilFunc)] := ⟨_, ze169, rfl⟩
instance zc170 : ZcOk Try.prog 170 [.v (.nilFunc)] := ⟨_, ze170, rfl⟩
instance zc171 : ZcOk Try.prog 171 [.v (.nilFunc)] := ⟨_, ze171, rfl⟩
instance zc172 : ZcOk Try.prog 172 [.v (.nilFunc)] := ⟨_, ze172, rfl⟩
instance zc173 : ZcOk Try.prog 173 [.v (.nilFunc)] := ⟨_, ze173, rfl⟩
instance zc177 : ZcOk Try.prog 177 [.v (.nilFunc)] := ⟨_, ze177, rfl⟩
instance zc181 : ZcOk Try.prog 181 [.v (.nilFunc)] := ⟨_, ze181, rfl⟩
instance zc182 : ZcOk Try.prog 182 [.v (.nilFunc)] := ⟨_, ze182, rfl⟩
instance fl184_0 : FldOk Try.prog 184 0 0 true 2 := ⟨⟨_, _, Try.underlying184, rfl, rfl, ty167⟩, by decide⟩
instance fl184_1 : FldOk Try.prog 184 1 2 true 2 := ⟨⟨_, _, Try.underlying184, rfl, rfl, ty167⟩, by decide⟩
instance zc184 : ZcOk Try.prog 184 [.v (.int .i64 0), .v (.int .i64 0), .v (.int .i64 0), .v (.int .i64 0)] := ⟨_, ze184, rfl⟩
instance bl184 : BldOk Try.prog 184 [.int .i64 0, .int .i64 0, .int .i64 0, .int .i64 0] [(0, 2), (2, 2)] := ⟨_, _, ze184.zero, rfl, Try.underlying184, fun _ => by kernel_rfl⟩
instance zc185 : ZcOk Try.prog 185 [.v (.nilFunc)] := ⟨_, ze185, rfl⟩
instance zc186 : ZcOk Try.prog 186 [.v (.nilFunc)] := ⟨_, ze186, rfl⟩
instance zc187 : ZcOk Try.prog 187 [.v (.nilFunc)] := ⟨_, ze187, rfl⟩
instance zc189 : ZcOk Try.prog 189 [.v (.nilFunc)] := ⟨_, ze189, rfl⟩
instance zc190 : ZcOk Try.prog 190 [.v (.nilFunc)] := ⟨_, ze190, rfl⟩
instance zc191 : ZcOk Try.prog 191 [.v (.nilFunc)] := ⟨_, ze191, rfl⟩
instance zc192 : ZcOk Try.prog 192 [.v (.slice none 0 0)] := ⟨_, ze192, rfl⟩
instance zc193 : ZcOk Try.prog 193 [.v (.nilFunc)] := ⟨_, ze193, rfl⟩
instance zc195 : ZcOk Try.prog 195 [.v (.nilFunc)] := ⟨_, ze195, rfl⟩
instance fl197_0 : FldOk Try.prog 197 0 0 false 1 := ⟨⟨_, _, Try.underlying197, rfl, rfl, ty3⟩, by decide⟩
instance fl197_1 : FldOk Try.prog 197 1 1 false 1 := ⟨⟨_, _, Try.underlying197, rfl, rfl, ty3⟩, by decide⟩
instance fl197_2 : FldOk Try.prog 197 2 2 false 1 := ⟨⟨_, _, Try.underlying197, rfl, rfl, ty3⟩, by decide⟩
instance fl197_3 : FldOk Try.prog 197 3 3 false 1 := ⟨⟨_, _, Try.underlying197, rfl, rfl, ty3⟩, by decide⟩
instance zc197 : ZcOk Try.prog 197 [.v (.int .i64 0), .v (.int .i64 0), .v (.int .i64 0), .v (.int .i64 0)] := ⟨_, ze197, rfl⟩
instance bl197 : BldOk Try.prog 197 [.int .i64 0, .int .i64 0, .int .i64 0, .int .i64 0] [(0, 1), (1, 1), (2, 1), (3, 1)] := ⟨_, _, ze197.zero, rfl, Try.underlying197, fun _ => by kernel_rfl⟩
instance zc198 : ZcOk Try.prog 198 [.v (.nilFunc)] := ⟨_, ze198, rfl⟩
instance zc199 : ZcOk Try.prog 199 [.v (.nilFunc)] := ⟨_, ze199, rfl⟩
instance zc201 : ZcOk Try.prog 201 [.v (.nilFunc)] := ⟨_, ze201, rfl⟩
instance zc202 : ZcOk Try.prog 202 [.v (.nilFunc)] := ⟨_, ze202, rfl⟩
instance zc203 : ZcOk Try.prog 203 [.v (.slice none 0 0)] := ⟨_, ze203, rfl⟩
instance zc204 : ZcOk Try.prog 204 [.v (.nilFunc)] := ⟨_, ze204, rfl⟩
instance zc205 : ZcOk Try.prog 205 [.v (.nilFunc)] := ⟨_, ze205, rfl⟩
instance zc207 : ZcOk Try.prog 207 [.v (.int .u64 0)] := ⟨_, ze207, rfl⟩
instance zc208 : ZcOk Try.prog 208 [.v (.nilFunc)] := ⟨_, ze208, rfl⟩
instance zc210 : ZcOk Try.prog 210 [.v (.nilFunc)] := ⟨_, ze210, rfl⟩
instance zc211 : ZcOk Try.prog 211 [.v (.nilFunc)] := ⟨_, ze211, rfl⟩
instance zc212 : ZcOk Try.prog 212 [.v (.nilFunc)] := ⟨_, ze212, rfl⟩
instance zc213 : ZcOk Try.prog 213 [.v (.nilFunc)] := ⟨_, ze213, rfl⟩
instance zc214 : ZcOk Try.prog 214 [.v (.nilFunc)] := ⟨_, ze214, rfl⟩
instance fl216_0 : FldOk Try.prog 216 0 0 false 1 := ⟨⟨_, _, Try.underlying216, rfl, rfl, ty3⟩, by decide⟩
instance fl216_1 : FldOk Try.prog 216 1 1 false 1 := ⟨⟨_, _, Try.underlying216, rfl, rfl, ty3⟩, by decide⟩
instance zc216 : ZcOk Try.prog 216 [.v (.int .i64 0), .v (.int .i64 0)] := ⟨_, ze216, rfl⟩
instance bl216 : BldOk Try.prog 216 [.int .i64 0, .int .i64 0] [(0, 1), (1, 1)] := ⟨_, _, ze216.zero, rfl, Try.underlying216, fun _ => by kernel_rfl⟩
instance zc219 : ZcOk Try.prog 219 [.v (.nilFunc)] := ⟨_, ze219, rfl⟩
instance zc220 : ZcOk Try.prog 220 [.v (.nilFunc)] := ⟨_, ze220, rfl⟩
instance zc221 : ZcOk Try.prog 221 [.v (.nilFunc)] := ⟨_, ze221, rfl⟩
instance zc222 : ZcOk Try.prog 222 [.v (.nilFunc)] := ⟨_, ze222, rfl⟩
instance zc223 : ZcOk Try.prog 223 [.v (.nilFunc)] := ⟨_, ze223, rfl⟩
instance zc224 : ZcOk Try.prog 224 [.v (.nilFunc)] := ⟨_, ze224, rfl⟩
instance zc225 : ZcOk Try.prog 225 [.v (.nilFunc)] := ⟨_, ze225, rfl⟩
instance zc226 : ZcOk Try.prog 226 [.v (.nilFunc)] := ⟨_, ze226, rfl⟩
instance zc227 : ZcOk Try.prog 227 [.v (.nilFunc)] := ⟨_, ze227, rfl⟩
instance zc228 : ZcOk Try.prog 228 [.v (.nilFunc)] := ⟨_, ze228, rfl⟩
instance zc230 : ZcOk Try.prog 230 [.v (.nilFunc)] := ⟨_, ze230, rfl⟩
instance zc231 : ZcOk Try.prog 231 [.v (.nilFunc)] := ⟨_, ze231, rfl⟩
instance zc233 : ZcOk Try.prog 233 [.v (.nilFunc)] := ⟨_, ze233, rfl⟩
instance zc236 : ZcOk Try.prog 236 [.v (.nilFunc)] := ⟨_, ze236, rfl⟩
instance zc237 : ZcOk Try.prog 237 [.v (.nilFunc)] := ⟨_, ze237, rfl⟩
instance zc244 : ZcOk Try.prog 244 [.v (.nilFunc)] := ⟨_, ze244, rfl⟩
instance zc248 : ZcOk Try.prog 248 [.v (.nilFunc)] := ⟨_, ze248, rfl⟩
instance zc253 : ZcOk Try.prog 253 [.v (.nilFunc)] := ⟨_, ze253, rfl⟩
instance zc254 : ZcOk Try.prog 254 [.v (.nilFunc)] := ⟨_, ze254, rfl⟩
instance zc255 : ZcOk Try.prog 255 [.v (.nilFunc)] := ⟨_, ze255, rfl⟩
instance zc256 : ZcOk Try.prog 256 [.v (.nilFunc)] := ⟨_, ze256, rfl⟩
theorem in22 : (Try.prog.info? 5).map (fun i => (i.zero, i.size, i.bytes)) = some (some (.int .u8 0), 1, 1) := by kernel_rfl
instance sl22 : SlOk Try.prog 22 5 1 1 := ⟨Try.underlying22, slInfo in22 rfl, by decide⟩
instance zs22 : ZSlOk Try.prog 22 5 1 1 [.int .u8 0] := ⟨sl22, _, ze5.zero, rfl⟩
theorem in24 : (Try.prog.info? 31).map (fun i => (i.zero, i.size, i.bytes)) = some (some (.agg #[.int .i64 0, .int .i64 0]), 2, 16) := by kernel_rfl
instance sl24 : SlOk Try.prog 24 31 2 16 := ⟨Try.underlying24, slInfo in24 rfl, by decide⟩
instance zs24 : ZSlOk Try.prog 24 31 2 16 [.int .i64 0, .int .i64 0] := ⟨sl24, _, ze31.zero, rfl⟩
theorem in37 : (Try.prog.info? 26).map (fun i => (i.zero, i.size, i.bytes)) = some (some (.agg #[.slice none 0 0]), 1, 24) := by kernel_rfl
instance sl37 : SlOk Try.prog 37 26 1 24 := ⟨Try.underlying37, slInfo in37 rfl, by decide⟩
instance zs37 : ZSlOk Try.prog 37 26 1 24 [.slice none 0 0] := ⟨sl37, _, ze26.zero, rfl⟩
theorem in38 : (Try.prog.info? 167).map (fun i => (i.zero, i.size, i.bytes)) = some (some (.agg #[.int .i64 0, .int .i64 0]), 2, 16) := by kernel_rfl
instance sl38 : SlOk Try.prog 38 167 2 16 := ⟨Try.underlying38, slInfo in38 rfl, by decide⟩
instance zs38 : ZSlOk Try.prog 38 167 2 16 [.int .i64 0, .int .i64 0] := ⟨sl38, _, ze167.zero, rfl⟩
theorem in46 : (Try.prog.info? 51).map (fun i => (i.zero, i.size, i.bytes)) = some (some (.agg #[.int .i64 0, .int .i64 0, .int .i64 0, .int .i64 0]), 4, 32) := by kernel_rfl
instance sl46 : SlOk Try.prog 46 51 4 32 := ⟨Try.underlying46, slInfo in46 rfl, by decide⟩
instance zs46 : ZSlOk Try.prog 46 51 4 32 [.int .i64 0, .int .i64 0, .int .i64 0, .int .i64 0] := ⟨sl46, _, ze51.zero, rfl⟩
theorem in63 : (Try.prog.info? 184).map (fun i => (i.zero, i.size, i.bytes)) = some (some (.agg #[.int .i64 0, .int .i64 0, .int .i64 0, .int .i64 0]), 4, 32) := by kernel_rfl
instance sl63 : SlOk Try.prog 63 184 4 32 := ⟨Try.underlying63, slInfo in63 rfl, by decide⟩
instance zs63 : ZSlOk Try.prog 63 184 4 32 [.int .i64 0, .int .i64 0, .int .i64 0, .int .i64 0] := ⟨sl63, _, ze184.zero, rfl⟩
theorem in73 : (Try.prog.info? 147).map (fun i => (i.zero, i.size, i.bytes)) = some (some (.agg #[.int .i64 0, .int .i64 0, .int .i64 0]), 3, 24) := by kernel_rfl
instance sl73 : SlOk Try.prog 73 147 3 24 := ⟨Try.underlying73, slInfo in73 rfl, by decide⟩
instance zs73 : ZSlOk Try.prog 73 147 3 24 [.int .i64 0, .int .i64 0, .int .i64 0] := ⟨sl73, _, ze147.zero, rfl⟩
theorem in75 : (Try.prog.info? 145).map (fun i => (i.zero, i.size, i.bytes)) = some (some (.agg #[.int .i64 0, .int .i64 0, .int .i64 0]), 3, 24) := by kernel_rfl
instance sl75 : SlOk Try.prog 75 145 3 24 := ⟨Try.underlying75, slInfo in75 rfl, by decide⟩
instance zs75 : ZSlOk Try.prog 75 145 3 24 [.int .i64 0, .int .i64 0, .int .i64 0] := ⟨sl75, _, ze145.zero, rfl⟩
theorem in82 : (Try.prog.info? 3).map (fun i => (i.zero, i.size, i.bytes)) = some (some (.int .i64 0), 1, 8) := by kernel_rfl
instance sl82 : SlOk Try.prog 82 3 1 8 := ⟨Try.underlying82, slInfo in82 rfl, by decide⟩
instance zs82 : ZSlOk Try.prog 82 3 1 8 [.int .i64 0] := ⟨sl82, _, ze3.zero, rfl⟩
theorem in86 : (Try.prog.info? 151).map (fun i => (i.zero, i.size, i.bytes)) = some (some (.agg #[.int .i64 0, .bool false]), 2, 16) := by kernel_rfl
instance sl86 : SlOk Try.prog 86 151 2 16 := ⟨Try.underlying86, slInfo in86 rfl, by decide⟩
instance zs86 : ZSlOk Try.prog 86 151 2 16 [.int .i64 0, .bool false] := ⟨sl86, _, ze151.zero, rfl⟩
theorem in105 : (Try.prog.info? 82).map (fun i => (i.zero, i.size, i.bytes)) = some (some (.slice none 0 0), 1, 24) := by kernel_rfl
instance sl105 : SlOk Try.prog 105 82 1 24 := ⟨Try.underlying105, slInfo in105 rfl, by decide⟩
instance zs105 : ZSlOk Try.prog 105 82 1 24 [.slice none 0 0] := ⟨sl105, _, ze82.zero, rfl⟩
theorem in154 : (Try.prog.info? 157).map (fun i => (i.zero, i.size, i.bytes)) = some (some (.agg #[.int .i64 0, .int .i64 0]), 2, 16) := by kernel_rfl
instance sl154 : SlOk Try.prog 154 157 2 16 := ⟨Try.underlying154, slInfo in154 rfl, by decide⟩
instance zs154 : ZSlOk Try.prog 154 157 2 16 [.int .i64 0, .int .i64 0] := ⟨sl154, _, ze157.zero, rfl⟩
theorem in161 : (Try.prog.info? 197).map (fun i => (i.zero, i.size, i.bytes)) = some (some (.agg #[.int .i64 0, .int .i64 0, .int .i64 0, .int .i64 0]), 4, 32) := by kernel_rfl
instance sl161 : SlOk Try.prog 161 197 4 32 := ⟨Try.underlying161, slInfo in161 rfl, by decide⟩
instance zs161 : ZSlOk Try.prog 161 197 4 32 [.int .i64 0, .int .i64 0, .int .i64 0, .int .i64 0] := ⟨sl161, _, ze197.zero, rfl⟩
theorem in192 : (Try.prog.info? 88).map (fun i => (i.zero, i.size, i.bytes)) = some (some (.agg #[.slice none 0 0, .slice none 0 0]), 2, 48) := by kernel_rfl
instance sl192 : SlOk Try.prog 192 88 2 48 := ⟨Try.underlying192, slInfo in192 rfl, by decide⟩
instance zs192 : ZSlOk Try.prog 192 88 2 48 [.slice none 0 0, .slice none 0 0] := ⟨sl192, _, ze88.zero, rfl⟩
theorem in203 : (Try.prog.info? 216).map (fun i => (i.zero, i.size, i.bytes)) = some (some (.agg #[.int .i64 0, .int .i64 0]), 2, 16) := by kernel_rfl
instance sl203 : SlOk Try.prog 203 216 2 16 := ⟨Try.underlying203, slInfo in203 rfl, by decide⟩
instance zs203 : ZSlOk Try.prog 203 216 2 16 [.int .i64 0, .int .i64 0] := ⟨sl203, _, ze216.zero, rfl⟩
instance fn3 : FnOk Try.prog 3 := ⟨Try.f3, Try.func3, by kernel_rfl, by kernel_rfl⟩
instance fn4 : FnOk Try.prog 4 := ⟨Try.f4, Try.func4, by kernel_rfl, by kernel_rfl⟩
instance fn5 : FnOk Try.prog 5 := ⟨Try.f5, Try.func5, by kernel_rfl, by kernel_rfl⟩
instance fn6 : FnOk Try.prog 6 := ⟨Try.f6, Try.func6, by kernel_rfl, by kernel_rfl⟩
instance fn7 : FnOk Try.prog 7 := ⟨Try.f7, Try.func7, by kernel_rfl, by kernel_rfl⟩
instance fn8 : FnOk Try.prog 8 := ⟨Try.f8, Try.func8, by kernel_rfl, by kernel_rfl⟩
instance fn9 : FnOk Try.prog 9 := ⟨Try.f9, Try.func9, by kernel_rfl, by kernel_rfl⟩
instance fn10 : FnOk Try.prog 10 := ⟨Try.f10, Try.func10, by kernel_rfl, by kernel_rfl⟩
instance fn11 : FnOk Try.prog 11 := ⟨Try.f11, Try.func11, by kernel_rfl, by kernel_rfl⟩
instance fn12 : FnOk Try.prog 12 := ⟨Try.f12, Try.func12, by kernel_rfl, by kernel_rfl⟩
instance fn13 : FnOk Try.prog 13 := ⟨Try.f13, Try.func13, by kernel_rfl, by kernel_rfl⟩
instance fn14 : FnOk Try.prog 14 := ⟨Try.f14, Try.func14, by kernel_rfl, by kernel_rfl⟩
instance fn15 : FnOk Try.prog 15 := ⟨Try.f15, Try.func15, by kernel_rfl, by kernel_rfl⟩
instance fn16 : FnOk Try.prog 16 := ⟨Try.f16, Try.func16, by kernel_rfl, by kernel_rfl⟩
instance fn17 : FnOk Try.prog 17 := ⟨Try.f17, Try.func17, by kernel_rfl, by kernel_rfl⟩
instance fn18 : FnOk Try.prog 18 := ⟨Try.f18, Try.func18, by kernel_rfl, by kernel_rfl⟩
instance fn19 : FnOk Try.prog 19 := ⟨Try.f19, Try.func19, by kernel_rfl, by kernel_rfl⟩
instance fn20 : FnOk Try.prog 20 := ⟨Try.f20, Try.func20, by kernel_rfl, by kernel_rfl⟩
instance fn21 : FnOk Try.prog 21 := ⟨Try.f21, Try.func21, by kernel_rfl, by kernel_rfl⟩
instance fn22 : FnOk Try.prog 22 := ⟨Try.f22, Try.func22, by kernel_rfl, by kernel_rfl⟩
instance fn23 : FnOk Try.prog 23 := ⟨Try.f23, Try.func23, by kernel_rfl, by kernel_rfl⟩
instance fn24 : FnOk Try.prog 24 := ⟨Try.f24, Try.func24, by kernel_rfl, by kernel_rfl⟩
instance fn25 : FnOk Try.prog 25 := ⟨Try.f25, Try.func25, by kernel_rfl, by kernel_rfl⟩
instance fn26 : FnOk Try.prog 26 := ⟨Try.f26, Try.func26, by kernel_rfl, by kernel_rfl⟩
instance fn27 : FnOk Try.prog 27 := ⟨Try.f27, Try.func27, by kernel_rfl, by kernel_rfl⟩
instance fn28 : FnOk Try.prog 28 := ⟨Try.f28, Try.func28, by kernel_rfl, by kernel_rfl⟩
instance fn29 : FnOk Try.prog 29 := ⟨Try.f29, Try.func29, by kernel_rfl, by kernel_rfl⟩
instance fn30 : FnOk Try.prog 30 := ⟨Try.f30, Try.func30, by kernel_rfl, by kernel_rfl⟩
instance fn31 : FnOk Try.prog 31 := ⟨Try.f31, Try.func31, by kernel_rfl, by kernel_rfl⟩
instance fn32 : FnOk Try.prog 32 := ⟨Try.f32, Try.func32, by kernel_rfl, by kernel_rfl⟩
instance fn33 : FnOk Try.prog 33 := ⟨Try.f33, Try.func33, by kernel_rfl, by kernel_rfl⟩
instance fn34 : FnOk Try.prog 34 := ⟨Try.f34, Try.func34, by kernel_rfl, by kernel_rfl⟩
instance fn35 : FnOk Try.prog 35 := ⟨Try.f35, Try.func35, by kernel_rfl, by kernel_rfl⟩
instance fn36 : FnOk Try.prog 36 := ⟨Try.f36, Try.func36, by kernel_rfl, by kernel_rfl⟩
instance fn37 : FnOk Try.prog 37 := ⟨Try.f37, Try.func37, by kernel_rfl, by kernel_rfl⟩
instance fn38 : FnOk Try.prog 38 := ⟨Try.f38, Try.func38, by kernel_rfl, by kernel_rfl⟩
instance fn39 : FnOk Try.prog 39 := ⟨Try.f39, Try.func39, by kernel_rfl, by kernel_rfl⟩
instance fn40 : FnOk Try.prog 40 := ⟨Try.f40, Try.func40, by kernel_rfl, by kernel_rfl⟩
instance fn41 : FnOk Try.prog 41 := ⟨Try.f41, Try.func41, by kernel_rfl, by kernel_rfl⟩
instance fn42 : FnOk Try.prog 42 := ⟨Try.f42, Try.func42, by kernel_rfl, by kernel_rfl⟩
instance fn43 : FnOk Try.prog 43 := ⟨Try.f43, Try.func43, by kernel_rfl, by kernel_rfl⟩
instance fn44 : FnOk Try.prog 44 := ⟨Try.f44, Try.func44, by kernel_rfl, by kernel_rfl⟩
instance fn45 : FnOk Try.prog 45 := ⟨Try.f45, Try.func45, by kernel_rfl, by kernel_rfl⟩
instance fn46 : FnOk Try.prog 46 := ⟨Try.f46, Try.func46, by kernel_rfl, by kernel_rfl⟩
instance fn47 : FnOk Try.prog 47 := ⟨Try.f47, Try.func47, by kernel_rfl, by kernel_rfl⟩
instance fn48 : FnOk Try.prog 48 := ⟨Try.f48, Try.func48, by kernel_rfl, by kernel_rfl⟩
instance fn49 : FnOk Try.prog 49 := ⟨Try.f49, Try.func49, by kernel_rfl, by kernel_rfl⟩
instance fn50 : FnOk Try.prog 50 := ⟨Try.f50, Try.func50, by kernel_rfl, by kernel_rfl⟩
instance fn51 : FnOk Try.prog 51 := ⟨Try.f51, Try.func51, by kernel_rfl, by kernel_rfl⟩
instance fn52 : FnOk Try.prog 52 := ⟨Try.f52, Try.func52, by kernel_rfl, by kernel_rfl⟩
instance fn53 : FnOk Try.prog 53 := ⟨Try.f53, Try.func53, by kernel_rfl, by kernel_rfl⟩
instance fn54 : FnOk Try.prog 54 := ⟨Try.f54, Try.func54, by kernel_rfl, by kernel_rfl⟩
instance fn55 : FnOk Try.prog 55 := ⟨Try.f55, Try.func55, by kernel_rfl, by kernel_rfl⟩
instance fn56 : FnOk Try.prog 56 := ⟨Try.f56, Try.func56, by kernel_rfl, by kernel_rfl⟩
instance fn57 : FnOk Try.prog 57 := ⟨Try.f57, Try.func57, by kernel_rfl, by kernel_rfl⟩
instance fn58 : FnOk Try.prog 58 := ⟨Try.f58, Try.func58, by kernel_rfl, by kernel_rfl⟩
instance fn59 : FnOk Try.prog 59 := ⟨Try.f59, Try.func59, by kernel_rfl, by kernel_rfl⟩
instance fn60 : FnOk Try.prog 60 := ⟨Try.f60, Try.func60, by kernel_rfl, by kernel_rfl⟩
instance fn61 : FnOk Try.prog 61 := ⟨Try.f61, Try.func61, by kernel_rfl, by kernel_rfl⟩
instance fn62 : FnOk Try.prog 62 := ⟨Try.f62, Try.func62, by kernel_rfl, by kernel_rfl⟩
instance fn63 : FnOk Try.prog 63 := ⟨Try.f63, Try.func63, by kernel_rfl, by kernel_rfl⟩
instance fn64 : FnOk Try.prog 64 := ⟨Try.f64, Try.func64, by kernel_rfl, by kernel_rfl⟩
instance fn65 : FnOk Try.prog 65 := ⟨Try.f65, Try.func65, by kernel_rfl, by kernel_rfl⟩
instance fn66 : FnOk Try.prog 66 := ⟨Try.f66, Try.func66, by kernel_rfl, by kernel_rfl⟩
instance fn67 : FnOk Try.prog 67 := ⟨Try.f67, Try.func67, by kernel_rfl, by kernel_rfl⟩
instance fn68 : FnOk Try.prog 68 := ⟨Try.f68, Try.func68, by kernel_rfl, by kernel_rfl⟩
instance fn69 : FnOk Try.prog 69 := ⟨Try.f69, Try.func69, by kernel_rfl, by kernel_rfl⟩
instance fn70 : FnOk Try.prog 70 := ⟨Try.f70, Try.func70, by kernel_rfl, by kernel_rfl⟩
instance fn71 : FnOk Try.prog 71 := ⟨Try.f71, Try.func71, by kernel_rfl, by kernel_rfl⟩
instance fn72 : FnOk Try.prog 72 := ⟨Try.f72, Try.func72, by kernel_rfl, by kernel_rfl⟩
instance fn73 : FnOk Try.prog 73 := ⟨Try.f73, Try.func73, by kernel_rfl, by kernel_rfl⟩
instance fn74 : FnOk Try.prog 74 := ⟨Try.f74, Try.func74, by kernel_rfl, by kernel_rfl⟩
instance fn75 : FnOk Try.prog 75 := ⟨Try.f75, Try.func75, by kernel_rfl, by kernel_rfl⟩
instance fn76 : FnOk Try.prog 76 := ⟨Try.f76, Try.func76, by kernel_rfl, by kernel_rfl⟩
instance fn77 : FnOk Try.prog 77 := ⟨Try.f77, Try.func77, by kernel_rfl, by kernel_rfl⟩
instance fn78 : FnOk Try.prog 78 := ⟨Try.f78, Try.func78, by kernel_rfl, by kernel_rfl⟩
instance fn79 : FnOk Try.prog 79 := ⟨Try.f79, Try.func79, by kernel_rfl, by kernel_rfl⟩
instance fn80 : FnOk Try.prog 80 := ⟨Try.f80, Try.func80, by kernel_rfl, by kernel_rfl⟩
instance fn81 : FnOk Try.prog 81 := ⟨Try.f81, Try.func81, by kernel_rfl, by kernel_rfl⟩
instance fn82 : FnOk Try.prog 82 := ⟨Try.f82, Try.func82, by kernel_rfl, by kernel_rfl⟩
instance fn83 : FnOk Try.prog 83 := ⟨Try.f83, Try.func83, by kernel_rfl, by kernel_rfl⟩
instance fn84 : FnOk Try.prog 84 := ⟨Try.f84, Try.func84, by kernel_rfl, by kernel_rfl⟩
instance fn85 : FnOk Try.prog 85 := ⟨Try.f85, Try.func85, by kernel_rfl, by kernel_rfl⟩
instance fn86 : FnOk Try.prog 86 := ⟨Try.f86, Try.func86, by kernel_rfl, by kernel_rfl⟩
instance fn87 : FnOk Try.prog 87 := ⟨Try.f87, Try.func87, by kernel_rfl, by kernel_rfl⟩
instance fn88 : FnOk Try.prog 88 := ⟨Try.f88, Try.func88, by kernel_rfl, by kernel_rfl⟩
instance fn89 : FnOk Try.prog 89 := ⟨Try.f89, Try.func89, by kernel_rfl, by kernel_rfl⟩
instance fn90 : FnOk Try.prog 90 := ⟨Try.f90, Try.func90, by kernel_rfl, by kernel_rfl⟩
instance fn91 : FnOk Try.prog 91 := ⟨Try.f91, Try.func91, by kernel_rfl, by kernel_rfl⟩
instance fn92 : FnOk Try.prog 92 := ⟨Try.f92, Try.func92, by kernel_rfl, by kernel_rfl⟩
instance fn93 : FnOk Try.prog 93 := ⟨Try.f93, Try.func93, by kernel_rfl, by kernel_rfl⟩
instance fn94 : FnOk Try.prog 94 := ⟨Try.f94, Try.func94, by kernel_rfl, by kernel_rfl⟩
instance fn95 : FnOk Try.prog 95 := ⟨Try.f95, Try.func95, by kernel_rfl, by kernel_rfl⟩
instance fn96 : FnOk Try.prog 96 := ⟨Try.f96, Try.func96, by kernel_rfl, by kernel_rfl⟩
instance fn97 : FnOk Try.prog 97 := ⟨Try.f97, Try.func97, by kernel_rfl, by kernel_rfl⟩
instance fn98 : FnOk Try.prog 98 := ⟨Try.f98, Try.func98, by kernel_rfl, by kernel_rfl⟩
instance fn99 : FnOk Try.prog 99 := ⟨Try.f99, Try.func99, by kernel_rfl, by kernel_rfl⟩
instance fn100 : FnOk Try.prog 100 := ⟨Try.f100, Try.func100, by kernel_rfl, by kernel_rfl⟩
instance fn101 : FnOk Try.prog 101 := ⟨Try.f101, Try.func101, by kernel_rfl, by kernel_rfl⟩
instance fn102 : FnOk Try.prog 102 := ⟨Try.f102, Try.func102, by kernel_rfl, by kernel_rfl⟩
instance fn103 : FnOk Try.prog 103 := ⟨Try.f103, Try.func103, by kernel_rfl, by kernel_rfl⟩
instance fn104 : FnOk Try.prog 104 := ⟨Try.f104, Try.func104, by kernel_rfl, by kernel_rfl⟩
instance fn105 : FnOk Try.prog 105 := ⟨Try.f105, Try.func105, by kernel_rfl, by kernel_rfl⟩
instance fn106 : FnOk Try.prog 106 := ⟨Try.f106, Try.func106, by kernel_rfl, by kernel_rfl⟩
instance fn107 : FnOk Try.prog 107 := ⟨Try.f107, Try.func107, by kernel_rfl, by kernel_rfl⟩
instance fn108 : FnOk Try.prog 108 := ⟨Try.f108, Try.func108, by kernel_rfl, by kernel_rfl⟩
instance fn109 : FnOk Try.prog 109 := ⟨Try.f109, Try.func109, by kernel_rfl, by kernel_rfl⟩
instance fn110 : FnOk Try.prog 110 := ⟨Try.f110, Try.func110, by kernel_rfl, by kernel_rfl⟩
instance fn112 : FnOk Try.prog 112 := ⟨Try.f112, Try.func112, by kernel_rfl, by kernel_rfl⟩
instance fn113 : FnOk Try.prog 113 := ⟨Try.f113, Try.func113, by kernel_rfl, by kernel_rfl⟩
instance fn114 : FnOk Try.prog 114 := ⟨Try.f114, Try.func114, by kernel_rfl, by kernel_rfl⟩
instance fn115 : FnOk Try.prog 115 := ⟨Try.f115, Try.func115, by kernel_rfl, by kernel_rfl⟩
instance fn116 : FnOk Try.prog 116 := ⟨Try.f116, Try.func116, by kernel_rfl, by kernel_rfl⟩
instance fn117 : FnOk Try.prog 117 := ⟨Try.f117, Try.func117, by kernel_rfl, by kernel_rfl⟩
instance fn118 : FnOk Try.prog 118 := ⟨Try.f118, Try.func118, by kernel_rfl, by kernel_rfl⟩
instance fn119 : FnOk Try.prog 119 := ⟨Try.f119, Try.func119, by kernel_rfl, by kernel_rfl⟩
instance fn120 : FnOk Try.prog 120 := ⟨Try.f120, Try.func120, by kernel_rfl, by kernel_rfl⟩
instance fn121 : FnOk Try.prog 121 := ⟨Try.f121, Try.func121, by kernel_rfl, by kernel_rfl⟩
instance fn122 : FnOk Try.prog 122 := ⟨Try.f122, Try.func122, by kernel_rfl, by kernel_rfl⟩
instance fn123 : FnOk Try.prog 123 := ⟨Try.f123, Try.func123, by kernel_rfl, by kernel_rfl⟩
instance fn124 : FnOk Try.prog 124 := ⟨Try.f124, Try.func124, by kernel_rfl, by kernel_rfl⟩
instance fn125 : FnOk Try.prog 125 := ⟨Try.f125, Try.func125, by kernel_rfl, by kernel_rfl⟩
instance fn126 : FnOk Try.prog 126 := ⟨Try.f126, Try.func126, by kernel_rfl, by kernel_rfl⟩
instance fn127 : FnOk Try.prog 127 := ⟨Try.f127, Try.func127, by kernel_rfl, by kernel_rfl⟩
instance fn128 : FnOk Try.prog 128 := ⟨Try.f128, Try.func128, by kernel_rfl, by kernel_rfl⟩
instance fn129 : FnOk Try.prog 129 := ⟨Try.f129, Try.func129, by kernel_rfl, by kernel_rfl⟩
instance fn130 : FnOk Try.prog 130 := ⟨Try.f130, Try.func130, by kernel_rfl, by kernel_rfl⟩
instance fn131 : FnOk Try.prog 131 := ⟨Try.f131, Try.func131, by kernel_rfl, by kernel_rfl⟩
instance fn132 : FnOk Try.prog 132 := ⟨Try.f132, Try.func132, by kernel_rfl, by kernel_rfl⟩
instance fn133 : FnOk Try.prog 133 := ⟨Try.f133, Try.func133, by kernel_rfl, by kernel_rfl⟩
instance fn134 : FnOk Try.prog 134 := ⟨Try.f134, Try.func134, by kernel_rfl, by kernel_rfl⟩
instance fn135 : FnOk Try.prog 135 := ⟨Try.f135, Try.func135, by kernel_rfl, by kernel_rfl⟩
instance fn136 : FnOk Try.prog 136 := ⟨Try.f136, Try.func136, by kernel_rfl, by kernel_rfl⟩
instance fn137 : FnOk Try.prog 137 := ⟨Try.f137, Try.func137, by kernel_rfl, by kernel_rfl⟩
instance fn138 : FnOk Try.prog 138 := ⟨Try.f138, Try.func138, by kernel_rfl, by kernel_rfl⟩
instance fn139 : FnOk Try.prog 139 := ⟨Try.f139, Try.func139, by kernel_rfl, by kernel_rfl⟩
instance fn140 : FnOk Try.prog 140 := ⟨Try.f140, Try.func140, by kernel_rfl, by kernel_rfl⟩
instance fn141 : FnOk Try.prog 141 := ⟨Try.f141, Try.func141, by kernel_rfl, by kernel_rfl⟩
instance fn142 : FnOk Try.prog 142 := ⟨Try.f142, Try.func142, by kernel_rfl, by kernel_rfl⟩
instance fn143 : FnOk Try.prog 143 := ⟨Try.f143, Try.func143, by kernel_rfl, by kernel_rfl⟩
instance fn144 : FnOk Try.prog 144 := ⟨Try.f144, Try.func144, by kernel_rfl, by kernel_rfl⟩
instance fn145 : FnOk Try.prog 145 := ⟨Try.f145, Try.func145, by kernel_rfl, by kernel_rfl⟩
instance fn146 : FnOk Try.prog 146 := ⟨Try.f146, Try.func146, by kernel_rfl, by kernel_rfl⟩
instance fn147 : FnOk Try.prog 147 := ⟨Try.f147, Try.func147, by kernel_rfl, by kernel_rfl⟩
instance fn148 : FnOk Try.prog 148 := ⟨Try.f148, Try.func148, by kernel_rfl, by kernel_rfl⟩
instance fn152 : FnOk Try.prog 152 := ⟨Try.f152, Try.func152, by kernel_rfl, by kernel_rfl⟩
instance fn153 : FnOk Try.prog 153 := ⟨Try.f153, Try.func153, by kernel_rfl, by kernel_rfl⟩
instance fn154 : FnOk Try.prog 154 := ⟨Try.f154, Try.func154, by kernel_rfl, by kernel_rfl⟩
instance fn155 : FnOk Try.prog 155 := ⟨Try.f155, Try.func155, by kernel_rfl, by kernel_rfl⟩
instance fn156 : FnOk Try.prog 156 := ⟨Try.f156, Try.func156, by kernel_rfl, by kernel_rfl⟩
instance fn157 : FnOk Try.prog 157 := ⟨Try.f157, Try.func157, by kernel_rfl, by kernel_rfl⟩
instance fn158 : FnOk Try.prog 158 := ⟨Try.f158, Try.func158, by kernel_rfl, by kernel_rfl⟩
instance fn159 : FnOk Try.prog 159 := ⟨Try.f159, Try.func159, by kernel_rfl, by kernel_rfl⟩
instance fn160 : FnOk Try.prog 160 := ⟨Try.f160, Try.func160, by kernel_rfl, by kernel_rfl⟩
instance fn161 : FnOk Try.prog 161 := ⟨Try.f161, Try.func161, by kernel_rfl, by kernel_rfl⟩
instance fn162 : FnOk Try.prog 162 := ⟨Try.f162, Try.func162, by kernel_rfl, by kernel_rfl⟩
instance fn163 : FnOk Try.prog 163 := ⟨Try.f163, Try.func163, by kernel_rfl, by kernel_rfl⟩
instance fn164 : FnOk Try.prog 164 := ⟨Try.f164, Try.func164, by kernel_rfl, by kernel_rfl⟩
instance fn165 : FnOk Try.prog 165 := ⟨Try.f165, Try.func165, by kernel_rfl, by kernel_rfl⟩
instance fn166 : FnOk Try.prog 166 := ⟨Try.f166, Try.func166, by kernel_rfl, by kernel_rfl⟩
instance fn167 : FnOk Try.prog 167 := ⟨Try.f167, Try.func167, by kernel_rfl, by kernel_rfl⟩
instance fn168 : FnOk Try.prog 168 := ⟨Try.f168, Try.func168, by kernel_rfl, by kernel_rfl⟩
instance fn169 : FnOk Try.prog 169 := ⟨Try.f169, Try.func169, by kernel_rfl, by kernel_rfl⟩
instance fn172 : FnOk Try.prog 172 := ⟨Try.f172, Try.func172, by kernel_rfl, by kernel_rfl⟩
instance fn173 : FnOk Try.prog 173 := ⟨Try.f173, Try.func173, by kernel_rfl, by kernel_rfl⟩
instance fn174 : FnOk Try.prog 174 := ⟨Try.f174, Try.func174, by kernel_rfl, by kernel_rfl⟩
instance fn175 : FnOk Try.prog 175 := ⟨Try.f175, Try.func175, by kernel_rfl, by kernel_rfl⟩
instance fn176 : FnOk Try.prog 176 := ⟨Try.f176, Try.func176, by kernel_rfl, by kernel_rfl⟩
instance fn177 : FnOk Try.prog 177 := ⟨Try.f177, Try.func177, by kernel_rfl, by kernel_rfl⟩
instance fn178 : FnOk Try.prog 178 := ⟨Try.f178, Try.func178, by kernel_rfl, by kernel_rfl⟩
instance fn179 : FnOk Try.prog 179 := ⟨Try.f179, Try.func179, by kernel_rfl, by kernel_rfl⟩
instance fn180 : FnOk Try.prog 180 := ⟨Try.f180, Try.func180, by kernel_rfl, by kernel_rfl⟩
instance fn181 : FnOk Try.prog 181 := ⟨Try.f181, Try.func181, by kernel_rfl, by kernel_rfl⟩
instance fn182 : FnOk Try.prog 182 := ⟨Try.f182, Try.func182, by kernel_rfl, by kernel_rfl⟩
instance fn185 : FnOk Try.prog 185 := ⟨Try.f185, Try.func185, by kernel_rfl, by kernel_rfl⟩
instance fn186 : FnOk Try.prog 186 := ⟨Try.f186, Try.func186, by kernel_rfl, by kernel_rfl⟩
instance fn187 : FnOk Try.prog 187 := ⟨Try.f187, Try.func187, by kernel_rfl, by kernel_rfl⟩
instance fn188 : FnOk Try.prog 188 := ⟨Try.f188, Try.func188, by kernel_rfl, by kernel_rfl⟩
instance fn189 : FnOk Try.prog 189 := ⟨Try.f189, Try.func189, by kernel_rfl, by kernel_rfl⟩
instance fn190 : FnOk Try.prog 190 := ⟨Try.f190, Try.func190, by kernel_rfl, by kernel_rfl⟩
instance fn191 : FnOk Try.prog 191 := ⟨Try.f191, Try.func191, by kernel_rfl, by kernel_rfl⟩
instance fn192 : FnOk Try.prog 192 := ⟨Try.f192, Try.func192, by kernel_rfl, by kernel_rfl⟩
instance fn193 : FnOk Try.prog 193 := ⟨Try.f193, Try.func193, by kernel_rfl, by kernel_rfl⟩
instance fn194 : FnOk Try.prog 194 := ⟨Try.f194, Try.func194, by kernel_rfl, by kernel_rfl⟩
instance fn195 : FnOk Try.prog 195 := ⟨Try.f195, Try.func195, by kernel_rfl, by kernel_rfl⟩
instance fn196 : FnOk Try.prog 196 := ⟨Try.f196, Try.func196, by kernel_rfl, by kernel_rfl⟩
instance fn197 : FnOk Try.prog 197 := ⟨Try.f197, Try.func197, by kernel_rfl, by kernel_rfl⟩
instance fn198 : FnOk Try.prog 198 := ⟨Try.f198, Try.func198, by kernel_rfl, by kernel_rfl⟩
instance fn199 : FnOk Try.prog 199 := ⟨Try.f199, Try.func199, by kernel_rfl, by kernel_rfl⟩
instance fn200 : FnOk Try.prog 200 := ⟨Try.f200, Try.func200, by kernel_rfl, by kernel_rfl⟩
instance fn201 : FnOk Try.prog 201 := ⟨Try.f201, Try.func201, by kernel_rfl, by kernel_rfl⟩
instance fn202 : FnOk Try.prog 202 := ⟨Try.f202, Try.func202, by kernel_rfl, by kernel_rfl⟩
instance fn203 : FnOk Try.prog 203 := ⟨Try.f203, Try.func203, by kernel_rfl, by kernel_rfl⟩
instance fn204 : FnOk Try.prog 204 := ⟨Try.f204, Try.func204, by kernel_rfl, by kernel_rfl⟩
instance fn205 : FnOk Try.prog 205 := ⟨Try.f205, Try.func205, by kernel_rfl, by kernel_rfl⟩
instance fn206 : FnOk Try.prog 206 := ⟨Try.f206, Try.func206, by kernel_rfl, by kernel_rfl⟩
instance fn207 : FnOk Try.prog 207 := ⟨Try.f207, Try.func207, by kernel_rfl, by kernel_rfl⟩
instance fn208 : FnOk Try.prog 208 := ⟨Try.f208, Try.func208, by kernel_rfl, by kernel_rfl⟩
end Go.Proofs.Ytkadjimnamcjbaa
