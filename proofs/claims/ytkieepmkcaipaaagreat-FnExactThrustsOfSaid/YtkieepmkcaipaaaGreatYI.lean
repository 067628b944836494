/- What the seat's types are: cells, fields, zeros; which functions have bodies. -/
import Derived.Test.YtkieepmkcaipaaaGreatZ5
import Derived.Test.YtkieepmkcaipaaaGreatRows
namespace Go.Proofs.YtkieepmkcaipaaaGreat
open Go.Eng

theorem slInfo {P : Program} {T : Nat} {z : Value} {e by_ : Nat} (h : (P.info? T).map (fun i => (i.zero, i.size, i.bytes)) = some (some z, e, by_)) (hz : z.cells.size = e) :
    ∃ i z, P.info? T = some i ∧ i.zero = some z ∧ i.size = e ∧ i.bytes = by_ ∧ z.cells.size = e := by
  cases hi : P.info? T with
  | none => rw [hi] at h; simp at h
  | some i =>
    rw [hi] at h
    simp only [Option.map_some, Option.some.injEq, Prod.mk.injEq] at h
    exact ⟨i, z, rfl, h.1, h.2.1, h.2.2, hz⟩
instance ty1 : TyOk Tryz.prog 1 false 1 := ⟨fun _ => by kernel_rfl, fun _ => by kernel_rfl⟩
instance ze1 : ZeroOk Tryz.prog 1 (.nilFunc) := ⟨fun _ => by kernel_rfl⟩
instance ty3 : TyOk Tryz.prog 3 false 1 := ⟨fun _ => by kernel_rfl, fun _ => by kernel_rfl⟩
instance ze3 : ZeroOk Tryz.prog 3 (.int .i64 0) := ⟨fun _ => by kernel_rfl⟩
instance ty4 : TyOk Tryz.prog 4 false 1 := ⟨fun _ => by kernel_rfl, fun _ => by kernel_rfl⟩
instance ze4 : ZeroOk Tryz.prog 4 (.bool false) := ⟨fun _ => by kernel_rfl⟩
instance ty5 : TyOk Tryz.prog 5 false 1 := ⟨fun _ => by kernel_rfl, fun _ => by kernel_rfl⟩
instance ze5 : ZeroOk Tryz.prog 5 (.int .u8 0) := ⟨fun _ => by kernel_rfl⟩
instance ty22 : TyOk Tryz.prog 22 false 1 := ⟨fun _ => by kernel_rfl, fun _ => by kernel_rfl⟩
instance ze22 : ZeroOk Tryz.prog 22 (.slice none 0 0) := ⟨fun _ => by kernel_rfl⟩
instance ty23 : TyOk Tryz.prog 23 false 1 := ⟨fun _ => by kernel_rfl, fun _ => by kernel_rfl⟩
instance ze23 : ZeroOk Tryz.prog 23 (.nilFunc) := ⟨fun _ => by kernel_rfl⟩
instance ty24 : TyOk Tryz.prog 24 false 1 := ⟨fun _ => by kernel_rfl, fun _ => by kernel_rfl⟩
instance ze24 : ZeroOk Tryz.prog 24 (.slice none 0 0) := ⟨fun _ => by kernel_rfl⟩
instance ty26 : TyOk Tryz.prog 26 true 1 := ⟨fun _ => by kernel_rfl, fun _ => by kernel_rfl⟩
instance ze26 : ZeroOk Tryz.prog 26 (.agg #[.slice none 0 0]) := ⟨fun _ => by kernel_rfl⟩
instance ty27 : TyOk Tryz.prog 27 false 1 := ⟨fun _ => by kernel_rfl, fun _ => by kernel_rfl⟩
instance ze27 : ZeroOk Tryz.prog 27 (.slice none 0 0) := ⟨fun _ => by kernel_rfl⟩
instance ty29 : TyOk Tryz.prog 29 false 1 := ⟨fun _ => by kernel_rfl, fun _ => by kernel_rfl⟩
instance ze29 : ZeroOk Tryz.prog 29 (.nilFunc) := ⟨fun _ => by kernel_rfl⟩
instance ty30 : TyOk Tryz.prog 30 false 1 := ⟨fun _ => by kernel_rfl, fun _ => by kernel_rfl⟩
instance ze30 : ZeroOk Tryz.prog 30 (.nilFunc) := ⟨fun _ => by kernel_rfl⟩
instance ty31 : TyOk Tryz.prog 31 false 1 := ⟨fun _ => by kernel_rfl, fun _ => by kernel_rfl⟩
instance ze31 : ZeroOk Tryz.prog 31 (.slice none 0 0) := ⟨fun _ => by kernel_rfl⟩
instance ty33 : TyOk Tryz.prog 33 true 2 := ⟨fun _ => by kernel_rfl, fun _ => by kernel_rfl⟩
instance ze33 : ZeroOk Tryz.prog 33 (.agg #[.slice none 0 0, .slice none 0 0]) := ⟨fun _ => by kernel_rfl⟩
instance ty35 : TyOk Tryz.prog 35 false 1 := ⟨fun _ => by kernel_rfl, fun _ => by kernel_rfl⟩
instance ze35 : ZeroOk Tryz.prog 35 (.nilFunc) := ⟨fun _ => by kernel_rfl⟩
instance ty36 : TyOk Tryz.prog 36 false 1 := ⟨fun _ => by kernel_rfl, fun _ => by kernel_rfl⟩
instance ze36 : ZeroOk Tryz.prog 36 (.slice none 0 0) := ⟨fun _ => by kernel_rfl⟩
instance ty37 : TyOk Tryz.prog 37 false 1 := ⟨fun _ => by kernel_rfl, fun _ => by kernel_rfl⟩
instance ze37 : ZeroOk Tryz.prog 37 (.nilFunc) := ⟨fun _ => by kernel_rfl⟩
instance ty38 : TyOk Tryz.prog 38 false 1 := ⟨fun _ => by kernel_rfl, fun _ => by kernel_rfl⟩
instance ze38 : ZeroOk Tryz.prog 38 (.nilFunc) := ⟨fun _ => by kernel_rfl⟩
instance ty39 : TyOk Tryz.prog 39 false 1 := ⟨fun _ => by kernel_rfl, fun _ => by kernel_rfl⟩
instance ze39 : ZeroOk Tryz.prog 39 (.nilFunc) := ⟨fun _ => by kernel_rfl⟩
instance ty40 : TyOk Tryz.prog 40 false 1 := ⟨fun _ => by kernel_rfl, fun _ => by kernel_rfl⟩
instance ze40 : ZeroOk Tryz.prog 40 (.nilFunc) := ⟨fun _ => by kernel_rfl⟩
instance ty42 : TyOk Tryz.prog 42 false 1 := ⟨fun _ => by kernel_rfl, fun _ => by kernel_rfl⟩
instance ze42 : ZeroOk Tryz.prog 42 (.nilFunc) := ⟨fun _ => by kernel_rfl⟩
instance ty43 : TyOk Tryz.prog 43 false 1 := ⟨fun _ => by kernel_rfl, fun _ => by kernel_rfl⟩
instance ze43 : ZeroOk Tryz.prog 43 (.nilFunc) := ⟨fun _ => by kernel_rfl⟩
instance ty44 : TyOk Tryz.prog 44 false 1 := ⟨fun _ => by kernel_rfl, fun _ => by kernel_rfl⟩
instance ze44 : ZeroOk Tryz.prog 44 (.nilFunc) := ⟨fun _ => by kernel_rfl⟩
instance ty45 : TyOk Tryz.prog 45 false 1 := ⟨fun _ => by kernel_rfl, fun _ => by kernel_rfl⟩
instance ze45 : ZeroOk Tryz.prog 45 (.nilFunc) := ⟨fun _ => by kernel_rfl⟩
instance ty47 : TyOk Tryz.prog 47 false 1 := ⟨fun _ => by kernel_rfl, fun _ => by kernel_rfl⟩
instance ze47 : ZeroOk Tryz.prog 47 (.nilFunc) := ⟨fun _ => by kernel_rfl⟩
instance ty48 : TyOk Tryz.prog 48 false 1 := ⟨fun _ => by kernel_rfl, fun _ => by kernel_rfl⟩
instance ze48 : ZeroOk Tryz.prog 48 (.slice none 0 0) := ⟨fun _ => by kernel_rfl⟩
instance ty50 : TyOk Tryz.prog 50 true 1 := ⟨fun _ => by kernel_rfl, fun _ => by kernel_rfl⟩
instance ze50 : ZeroOk Tryz.prog 50 (.agg #[.slice none 0 0]) := ⟨fun _ => by kernel_rfl⟩
instance ty51 : TyOk Tryz.prog 51 false 1 := ⟨fun _ => by kernel_rfl, fun _ => by kernel_rfl⟩
instance ze51 : ZeroOk Tryz.prog 51 (.slice none 0 0) := ⟨fun _ => by kernel_rfl⟩
instance ty52 : TyOk Tryz.prog 52 false 1 := ⟨fun _ => by kernel_rfl, fun _ => by kernel_rfl⟩
instance ze52 : ZeroOk Tryz.prog 52 (.nilFunc) := ⟨fun _ => by kernel_rfl⟩
instance ty53 : TyOk Tryz.prog 53 false 1 := ⟨fun _ => by kernel_rfl, fun _ => by kernel_rfl⟩
instance ze53 : ZeroOk Tryz.prog 53 (.nilFunc) := ⟨fun _ => by kernel_rfl⟩
instance ty54 : TyOk Tryz.prog 54 false 1 := ⟨fun _ => by kernel_rfl, fun _ => by kernel_rfl⟩
instance ze54 : ZeroOk Tryz.prog 54 (.nilFunc) := ⟨fun _ => by kernel_rfl⟩
instance ty55 : TyOk Tryz.prog 55 false 1 := ⟨fun _ => by kernel_rfl, fun _ => by kernel_rfl⟩
instance ze55 : ZeroOk Tryz.prog 55 (.nilFunc) := ⟨fun _ => by kernel_rfl⟩
instance ty56 : TyOk Tryz.prog 56 false 1 := ⟨fun _ => by kernel_rfl, fun _ => by kernel_rfl⟩
instance ze56 : ZeroOk Tryz.prog 56 (.nilFunc) := ⟨fun _ => by kernel_rfl⟩
instance ty57 : TyOk Tryz.prog 57 false 1 := ⟨fun _ => by kernel_rfl, fun _ => by kernel_rfl⟩
instance ze57 : ZeroOk Tryz.prog 57 (.nilFunc) := ⟨fun _ => by kernel_rfl⟩
instance ty58 : TyOk Tryz.prog 58 false 1 := ⟨fun _ => by kernel_rfl, fun _ => by kernel_rfl⟩
instance ze58 : ZeroOk Tryz.prog 58 (.nilFunc) := ⟨fun _ => by kernel_rfl⟩
instance ty60 : TyOk Tryz.prog 60 true 4 := ⟨fun _ => by kernel_rfl, fun _ => by kernel_rfl⟩
instance ze60 : ZeroOk Tryz.prog 60 (.agg #[.int .i64 0, .int .i64 0, .int .i64 0, .int .i64 0]) := ⟨fun _ => by kernel_rfl⟩
instance ty62 : TyOk Tryz.prog 62 false 1 := ⟨fun _ => by kernel_rfl, fun _ => by kernel_rfl⟩
instance ze62 : ZeroOk Tryz.prog 62 (.nilFunc) := ⟨fun _ => by kernel_rfl⟩
instance ty63 : TyOk Tryz.prog 63 false 1 := ⟨fun _ => by kernel_rfl, fun _ => by kernel_rfl⟩
instance ze63 : ZeroOk Tryz.prog 63 (.nilFunc) := ⟨fun _ => by kernel_rfl⟩
instance ty64 : TyOk Tryz.prog 64 false 1 := ⟨fun _ => by kernel_rfl, fun _ => by kernel_rfl⟩
instance ze64 : ZeroOk Tryz.prog 64 (.nilFunc) := ⟨fun _ => by kernel_rfl⟩
instance ty65 : TyOk Tryz.prog 65 false 1 := ⟨fun _ => by kernel_rfl, fun _ => by kernel_rfl⟩
instance ze65 : ZeroOk Tryz.prog 65 (.slice none 0 0) := ⟨fun _ => by kernel_rfl⟩
instance ty66 : TyOk Tryz.prog 66 false 1 := ⟨fun _ => by kernel_rfl, fun _ => by kernel_rfl⟩
instance ze66 : ZeroOk Tryz.prog 66 (.nilFunc) := ⟨fun _ => by kernel_rfl⟩
instance ty67 : TyOk Tryz.prog 67 false 1 := ⟨fun _ => by kernel_rfl, fun _ => by kernel_rfl⟩
instance ze67 : ZeroOk Tryz.prog 67 (.nilFunc) := ⟨fun _ => by kernel_rfl⟩
instance ty68 : TyOk Tryz.prog 68 false 1 := ⟨fun _ => by kernel_rfl, fun _ => by kernel_rfl⟩
instance ze68 : ZeroOk Tryz.prog 68 (.nilFunc) := ⟨fun _ => by kernel_rfl⟩
instance ty69 : TyOk Tryz.prog 69 false 1 := ⟨fun _ => by kernel_rfl, fun _ => by kernel_rfl⟩
instance ze69 : ZeroOk Tryz.prog 69 (.nilFunc) := ⟨fun _ => by kernel_rfl⟩
instance ty70 : TyOk Tryz.prog 70 false 1 := ⟨fun _ => by kernel_rfl, fun _ => by kernel_rfl⟩
instance ze70 : ZeroOk Tryz.prog 70 (.nilFunc) := ⟨fun _ => by kernel_rfl⟩
instance ty72 : TyOk Tryz.prog 72 false 1 := ⟨fun _ => by kernel_rfl, fun _ => by kernel_rfl⟩
instance ze72 : ZeroOk Tryz.prog 72 (.nilFunc) := ⟨fun _ => by kernel_rfl⟩
instance ty74 : TyOk Tryz.prog 74 false 1 := ⟨fun _ => by kernel_rfl, fun _ => by kernel_rfl⟩
instance ze74 : ZeroOk Tryz.prog 74 (.nilFunc) := ⟨fun _ => by kernel_rfl⟩
instance ty75 : TyOk Tryz.prog 75 false 1 := ⟨fun _ => by kernel_rfl, fun _ => by kernel_rfl⟩
instance ze75 : ZeroOk Tryz.prog 75 (.nilFunc) := ⟨fun _ => by kernel_rfl⟩
instance ty77 : TyOk Tryz.prog 77 true 2 := ⟨fun _ => by kernel_rfl, fun _ => by kernel_rfl⟩
instance ze77 : ZeroOk Tryz.prog 77 (.agg #[.int .i64 0, .int .i64 0]) := ⟨fun _ => by kernel_rfl⟩
instance ty79 : TyOk Tryz.prog 79 true 4 := ⟨fun _ => by kernel_rfl, fun _ => by kernel_rfl⟩
instance ze79 : ZeroOk Tryz.prog 79 (.agg #[.int .i64 0, .int .i64 0, .int .i64 0, .int .i64 0]) := ⟨fun _ => by kernel_rfl⟩
instance ty80 : TyOk Tryz.prog 80 false 1 := ⟨fun _ => by kernel_rfl, fun _ => by kernel_rfl⟩
instance ze80 : ZeroOk Tryz.prog 80 (.nilFunc) := ⟨fun _ => by kernel_rfl⟩
instance ty82 : TyOk Tryz.prog 82 false 1 := ⟨fun _ => by kernel_rfl, fun _ => by kernel_rfl⟩
instance ze82 : ZeroOk Tryz.prog 82 (.nilFunc) := ⟨fun _ => by kernel_rfl⟩
instance ty83 : TyOk Tryz.prog 83 false 1 := ⟨fun _ => by kernel_rfl, fun _ => by kernel_rfl⟩
instance ze83 : ZeroOk Tryz.prog 83 (.nilFunc) := ⟨fun _ => by kernel_rfl⟩
instance ty84 : TyOk Tryz.prog 84 false 1 := ⟨fun _ => by kernel_rfl, fun _ => by kernel_rfl⟩
instance ze84 : ZeroOk Tryz.prog 84 (.nilFunc) := ⟨fun _ => by kernel_rfl⟩
instance ty85 : TyOk Tryz.prog 85 false 1 := ⟨fun _ => by kernel_rfl, fun _ => by kernel_rfl⟩
instance ze85 : ZeroOk Tryz.prog 85 (.nilFunc) := ⟨fun _ => by kernel_rfl⟩
instance ty87 : TyOk Tryz.prog 87 false 1 := ⟨fun _ => by kernel_rfl, fun _ => by kernel_rfl⟩
instance ze87 : ZeroOk Tryz.prog 87 (.nilFunc) := ⟨fun _ => by kernel_rfl⟩
instance ty88 : TyOk Tryz.prog 88 false 1 := ⟨fun _ => by kernel_rfl, fun _ => by kernel_rfl⟩
instance ze88 : ZeroOk Tryz.prog 88 (.nilFunc) := ⟨fun _ => by kernel_rfl⟩
instance ty89 : TyOk Tryz.prog 89 false 1 := ⟨fun _ => by kernel_rfl, fun _ => by kernel_rfl⟩
instance ze89 : ZeroOk Tryz.prog 89 (.nilFunc) := ⟨fun _ => by kernel_rfl⟩
instance ty91 : TyOk Tryz.prog 91 true 3 := ⟨fun _ => by kernel_rfl, fun _ => by kernel_rfl⟩
instance ze91 : ZeroOk Tryz.prog 91 (.agg #[.int .i64 0, .int .i64 0, .int .i64 0]) := ⟨fun _ => by kernel_rfl⟩
instance ty92 : TyOk Tryz.prog 92 false 1 := ⟨fun _ => by kernel_rfl, fun _ => by kernel_rfl⟩
instance ze92 : ZeroOk Tryz.prog 92 (.nilFunc) := ⟨fun _ => by kernel_rfl⟩
instance ty93 : TyOk Tryz.prog 93 false 1 := ⟨fun _ => by kernel_rfl, fun _ => by kernel_rfl⟩
instance ze93 : ZeroOk Tryz.prog 93 (.nilFunc) := ⟨fun _ => by kernel_rfl⟩
instance ty94 : TyOk Tryz.prog 94 false 1 := ⟨fun _ => by kernel_rfl, fun _ => by kernel_rfl⟩
instance ze94 : ZeroOk Tryz.prog 94 (.nilFunc) := ⟨fun _ => by kernel_rfl⟩
instance ty95 : TyOk Tryz.prog 95 false 1 := ⟨fun _ => by kernel_rfl, fun _ => by kernel_rfl⟩
instance ze95 : ZeroOk Tryz.prog 95 (.slice none 0 0) := ⟨fun _ => by kernel_rfl⟩
instance ty96 : TyOk Tryz.prog 96 false 1 := ⟨fun _ => by kernel_rfl, fun _ => by kernel_rfl⟩
instance ze96 : ZeroOk Tryz.prog 96 (.nilFunc) := ⟨fun _ => by kernel_rfl⟩
instance ty97 : TyOk Tryz.prog 97 false 1 := ⟨fun _ => by kernel_rfl, fun _ => by kernel_rfl⟩
instance ze97 : ZeroOk Tryz.prog 97 (.nilFunc) := ⟨fun _ => by kernel_rfl⟩
instance ty99 : TyOk Tryz.prog 99 false 1 := ⟨fun _ => by kernel_rfl, fun _ => by kernel_rfl⟩
instance ze99 : ZeroOk Tryz.prog 99 (.nilFunc) := ⟨fun _ => by kernel_rfl⟩
instance ty101 : TyOk Tryz.prog 101 false 1 := ⟨fun _ => by kernel_rfl, fun _ => by kernel_rfl⟩
instance ze101 : ZeroOk Tryz.prog 101 (.nilFunc) := ⟨fun _ => by kernel_rfl⟩
instance ty102 : TyOk Tryz.prog 102 false 1 := ⟨fun _ => by kernel_rfl, fun _ => by kernel_rfl⟩
instance ze102 : ZeroOk Tryz.prog 102 (.nilFunc) := ⟨fun _ => by kernel_rfl⟩
instance ty103 : TyOk Tryz.prog 103 false 1 := ⟨fun _ => by kernel_rfl, fun _ => by kernel_rfl⟩
instance ze103 : ZeroOk Tryz.prog 103 (.nilFunc) := ⟨fun _ => by kernel_rfl⟩
instance ty104 : TyOk Tryz.prog 104 false 1 := ⟨fun _ => by kernel_rfl, fun _ => by kernel_rfl⟩
instance ze104 : ZeroOk Tryz.prog 104 (.nilFunc) := ⟨fun _ => by kernel_rfl⟩
instance ty105 : TyOk Tryz.prog 105 false 1 := ⟨fun _ => by kernel_rfl, fun _ => by kernel_rfl⟩
instance ze105 : ZeroOk Tryz.prog 105 (.nilFunc) := ⟨fun _ => by kernel_rfl⟩
instance ty106 : TyOk Tryz.prog 106 false 1 := ⟨fun _ => by kernel_rfl, fun _ => by kernel_rfl⟩
instance ze106 : ZeroOk Tryz.prog 106 (.nilFunc) := ⟨fun _ => by kernel_rfl⟩
instance ty107 : TyOk Tryz.prog 107 false 1 := ⟨fun _ => by kernel_rfl, fun _ => by kernel_rfl⟩
instance ze107 : ZeroOk Tryz.prog 107 (.nilFunc) := ⟨fun _ => by kernel_rfl⟩
instance ty108 : TyOk Tryz.prog 108 false 1 := ⟨fun _ => by kernel_rfl, fun _ => by kernel_rfl⟩
instance ze108 : ZeroOk Tryz.prog 108 (.nilFunc) := ⟨fun _ => by kernel_rfl⟩
instance ty109 : TyOk Tryz.prog 109 true 3 := ⟨fun _ => by kernel_rfl, fun _ => by kernel_rfl⟩
instance ze109 : ZeroOk Tryz.prog 109 (.agg #[.int .i64 0, .int .i64 0, .int .i64 0]) := ⟨fun _ => by kernel_rfl⟩
instance ty110 : TyOk Tryz.prog 110 false 1 := ⟨fun _ => by kernel_rfl, fun _ => by kernel_rfl⟩
instance ze110 : ZeroOk Tryz.prog 110 (.nilFunc) := ⟨fun _ => by kernel_rfl⟩
instance ty111 : TyOk Tryz.prog 111 false 1 := ⟨fun _ => by kernel_rfl, fun _ => by kernel_rfl⟩
instance ze111 : ZeroOk Tryz.prog 111 (.nilFunc) := ⟨fun _ => by kernel_rfl⟩
instance ty112 : TyOk Tryz.prog 112 false 1 := ⟨fun _ => by kernel_rfl, fun _ => by kernel_rfl⟩
instance ze112 : ZeroOk Tryz.prog 112 (.nilFunc) := ⟨fun _ => by kernel_rfl⟩
instance ty113 : TyOk Tryz.prog 113 false 1 := ⟨fun _ => by kernel_rfl, fun _ => by kernel_rfl⟩
instance ze113 : ZeroOk Tryz.prog 113 (.nilFunc) := ⟨fun _ => by kernel_rfl⟩
instance ty114 : TyOk Tryz.prog 114 false 1 := ⟨fun _ => by kernel_rfl, fun _ => by kernel_rfl⟩
instance ze114 : ZeroOk Tryz.prog 114 (.nilFunc) := ⟨fun _ => by kernel_rfl⟩
instance ty115 : TyOk Tryz.prog 115 false 1 := ⟨fun _ => by kernel_rfl, fun _ => by kernel_rfl⟩
instance ze115 : ZeroOk Tryz.prog 115 (.nilFunc) := ⟨fun _ => by kernel_rfl⟩
instance ty116 : TyOk Tryz.prog 116 false 1 := ⟨fun _ => by kernel_rfl, fun _ => by kernel_rfl⟩
instance ze116 : ZeroOk Tryz.prog 116 (.nilFunc) := ⟨fun _ => by kernel_rfl⟩
instance ty117 : TyOk Tryz.prog 117 false 1 := ⟨fun _ => by kernel_rfl, fun _ => by kernel_rfl⟩
instance ze117 : ZeroOk Tryz.prog 117 (.nilFunc) := ⟨fun _ => by kernel_rfl⟩
instance ty118 : TyOk Tryz.prog 118 false 1 := ⟨fun _ => by kernel_rfl, fun _ => by kernel_rfl⟩
instance ze118 : ZeroOk Tryz.prog 118 (.nilFunc) := ⟨fun _ => by kernel_rfl⟩
instance ty119 : TyOk Tryz.prog 119 false 1 := ⟨fun _ => by kernel_rfl, fun _ => by kernel_rfl⟩
instance ze119 : ZeroOk Tryz.prog 119 (.nilFunc) := ⟨fun _ => by kernel_rfl⟩
instance ty120 : TyOk Tryz.prog 120 false 1 := ⟨fun _ => by kernel_rfl, fun _ => by kernel_rfl⟩
instance ze120 : ZeroOk Tryz.prog 120 (.nilFunc) := ⟨fun _ => by kernel_rfl⟩
instance ty122 : TyOk Tryz.prog 122 true 2 := ⟨fun _ => by kernel_rfl, fun _ => by kernel_rfl⟩
instance ze122 : ZeroOk Tryz.prog 122 (.agg #[.int .i64 0, .int .i64 0]) := ⟨fun _ => by kernel_rfl⟩
instance ty123 : TyOk Tryz.prog 123 false 1 := ⟨fun _ => by kernel_rfl, fun _ => by kernel_rfl⟩
instance ze123 : ZeroOk Tryz.prog 123 (.nilFunc) := ⟨fun _ => by kernel_rfl⟩
instance ty124 : TyOk Tryz.prog 124 false 1 := ⟨fun _ => by kernel_rfl, fun _ => by kernel_rfl⟩
instance ze124 : ZeroOk Tryz.prog 124 (.nilFunc) := ⟨fun _ => by kernel_rfl⟩
instance ty126 : TyOk Tryz.prog 126 false 1 := ⟨fun _ => by kernel_rfl, fun _ => by kernel_rfl⟩
instance ze126 : ZeroOk Tryz.prog 126 (.nilFunc) := ⟨fun _ => by kernel_rfl⟩
instance ty127 : TyOk Tryz.prog 127 false 1 := ⟨fun _ => by kernel_rfl, fun _ => by kernel_rfl⟩
instance ze127 : ZeroOk Tryz.prog 127 (.nilFunc) := ⟨fun _ => by kernel_rfl⟩
instance ty129 : TyOk Tryz.prog 129 true 4 := ⟨fun _ => by kernel_rfl, fun _ => by kernel_rfl⟩
instance ze129 : ZeroOk Tryz.prog 129 (.agg #[.int .i64 0, .int .i64 0, .int .i64 0, .int .i64 0]) := ⟨fun _ => by kernel_rfl⟩
instance ty130 : TyOk Tryz.prog 130 false 1 := ⟨fun _ => by kernel_rfl, fun _ => by kernel_rfl⟩
instance ze130 : ZeroOk Tryz.prog 130 (.nilFunc) := ⟨fun _ => by kernel_rfl⟩
instance ty131 : TyOk Tryz.prog 131 false 1 := ⟨fun _ => by kernel_rfl, fun _ => by kernel_rfl⟩
instance ze131 : ZeroOk Tryz.prog 131 (.nilFunc) := ⟨fun _ => by kernel_rfl⟩
instance ty132 : TyOk Tryz.prog 132 false 1 := ⟨fun _ => by kernel_rfl, fun _ => by kernel_rfl⟩
instance ze132 : ZeroOk Tryz.prog 132 (.nilFunc) := ⟨fun _ => by kernel_rfl⟩
instance ty135 : TyOk Tryz.prog 135 false 1 := ⟨fun _ => by kernel_rfl, fun _ => by kernel_rfl⟩
instance ze135 : ZeroOk Tryz.prog 135 (.nilFunc) := ⟨fun _ => by kernel_rfl⟩
instance ty136 : TyOk Tryz.prog 136 false 1 := ⟨fun _ => by kernel_rfl, fun _ => by kernel_rfl⟩
instance ze136 : ZeroOk Tryz.prog 136 (.nilFunc) := ⟨fun _ => by kernel_rfl⟩
instance ty137 : TyOk Tryz.prog 137 false 1 := ⟨fun _ => by kernel_rfl, fun _ => by kernel_rfl⟩
instance ze137 : ZeroOk Tryz.prog 137 (.nilFunc) := ⟨fun _ => by kernel_rfl⟩
instance ty138 : TyOk Tryz.prog 138 false 1 := ⟨fun _ => by kernel_rfl, fun _ => by kernel_rfl⟩
instance ze138 : ZeroOk Tryz.prog 138 (.slice none 0 0) := ⟨fun _ => by kernel_rfl⟩
instance ty140 : TyOk Tryz.prog 140 true 1 := ⟨fun _ => by kernel_rfl, fun _ => by kernel_rfl⟩
instance ze140 : ZeroOk Tryz.prog 140 (.agg #[.slice none 0 0]) := ⟨fun _ => by kernel_rfl⟩
instance ty142 : TyOk Tryz.prog 142 false 1 := ⟨fun _ => by kernel_rfl, fun _ => by kernel_rfl⟩
instance ze142 : ZeroOk Tryz.prog 142 (.nilFunc) := ⟨fun _ => by kernel_rfl⟩
instance ty143 : TyOk Tryz.prog 143 false 1 := ⟨fun _ => by kernel_rfl, fun _ => by kernel_rfl⟩
instance ze143 : ZeroOk Tryz.prog 143 (.nilFunc) := ⟨fun _ => by kernel_rfl⟩
instance ty144 : TyOk Tryz.prog 144 false 1 := ⟨fun _ => by kernel_rfl, fun _ => by kernel_rfl⟩
instance ze144 : ZeroOk Tryz.prog 144 (.nilFunc) := ⟨fun _ => by kernel_rfl⟩
instance ty145 : TyOk Tryz.prog 145 false 1 := ⟨fun _ => by kernel_rfl, fun _ => by kernel_rfl⟩
instance ze145 : ZeroOk Tryz.prog 145 (.nilFunc) := ⟨fun _ => by kernel_rfl⟩
instance ty146 : TyOk Tryz.prog 146 false 1 := ⟨fun _ => by kernel_rfl, fun _ => by kernel_rfl⟩
instance ze146 : ZeroOk Tryz.prog 146 (.nilFunc) := ⟨fun _ => by kernel_rfl⟩
instance ty147 : TyOk Tryz.prog 147 false 1 := ⟨fun _ => by kernel_rfl, fun _ => by kernel_rfl⟩
instance ze147 : ZeroOk Tryz.prog 147 (.nilFunc) := ⟨fun _ => by kernel_rfl⟩
instance ty149 : TyOk Tryz.prog 149 false 1 := ⟨fun _ => by kernel_rfl, fun _ => by kernel_rfl⟩
instance ze149 : ZeroOk Tryz.prog 149 (.nilFunc) := ⟨fun _ => by kernel_rfl⟩
instance ty150 : TyOk Tryz.prog 150 false 1 := ⟨fun _ => by kernel_rfl, fun _ => by kernel_rfl⟩
instance ze150 : ZeroOk Tryz.prog 150 (.nilFunc) := ⟨fun _ => by kernel_rfl⟩
instance ty151 : TyOk Tryz.prog 151 false 1 := ⟨fun _ => by kernel_rfl, fun _ => by kernel_rfl⟩
instance ze151 : ZeroOk Tryz.prog 151 (.nilFunc) := ⟨fun _ => by kernel_rfl⟩
instance ty152 : TyOk Tryz.prog 152 true 2 := ⟨fun _ => by kernel_rfl, fun _ => by kernel_rfl⟩
instance ze152 : ZeroOk Tryz.prog 152 (.agg #[.int .i64 0, .int .i64 0]) := ⟨fun _ => by kernel_rfl⟩
instance ty154 : TyOk Tryz.prog 154 true 4 := ⟨fun _ => by kernel_rfl, fun _ => by kernel_rfl⟩
instance ze154 : ZeroOk Tryz.prog 154 (.agg #[.int .i64 0, .int .i64 0, .int .i64 0, .int .i64 0]) := ⟨fun _ => by kernel_rfl⟩
instance ty155 : TyOk Tryz.prog 155 false 1 := ⟨fun _ => by kernel_rfl, fun _ => by kernel_rfl⟩
instance ze155 : ZeroOk Tryz.prog 155 (.nilFunc) := ⟨fun _ => by kernel_rfl⟩
instance ty156 : TyOk Tryz.prog 156 false 1 := ⟨fun _ => by kernel_rfl, fun _ => by kernel_rfl⟩
instance ze156 : ZeroOk Tryz.prog 156 (.nilFunc) := ⟨fun _ => by kernel_rfl⟩
instance ty157 : TyOk Tryz.prog 157 false 1 := ⟨fun _ => by kernel_rfl, fun _ => by kernel_rfl⟩
instance ze157 : ZeroOk Tryz.prog 157 (.nilFunc) := ⟨fun _ => by kernel_rfl⟩
instance ty158 : TyOk Tryz.prog 158 false 1 := ⟨fun _ => by kernel_rfl, fun _ => by kernel_rfl⟩
instance ze158 : ZeroOk Tryz.prog 158 (.nilFunc) := ⟨fun _ => by kernel_rfl⟩
instance ty159 : TyOk Tryz.prog 159 false 1 := ⟨fun _ => by kernel_rfl, fun _ => by kernel_rfl⟩
instance ze159 : ZeroOk Tryz.prog 159 (.slice none 0 0) := ⟨fun _ => by kernel_rfl⟩
instance ty164 : TyOk Tryz.prog 164 false 1 := ⟨fun _ => by kernel_rfl, fun _ => by kernel_rfl⟩
instance ze164 : ZeroOk Tryz.prog 164 (.int .u64 0) := ⟨fun _ => by kernel_rfl⟩
instance ty170 : TyOk Tryz.prog 170 false 1 := ⟨fun _ => by kernel_rfl, fun _ => by kernel_rfl⟩
instance ze170 : ZeroOk Tryz.prog 170 (.nilFunc) := ⟨fun _ => by kernel_rfl⟩
instance ty171 : TyOk Tryz.prog 171 false 1 := ⟨fun _ => by kernel_rfl, fun _ => by kernel_rfl⟩
instance ze171 : ZeroOk Tryz.prog 171 (.nilFunc) := ⟨fun _ => by kernel_rfl⟩
instance ty172 : TyOk Tryz.prog 172 false 1 := ⟨fun _ => by kernel_rfl, fun _ => by kernel_rfl⟩
instance ze172 : ZeroOk Tryz.prog 172 (.nilFunc) := ⟨fun _ => by kernel_rfl⟩
instance ty173 : TyOk Tryz.prog 173 false 1 := ⟨fun _ => by kernel_rfl, fun _ => by kernel_rfl⟩
instance ze173 : ZeroOk Tryz.prog 173 (.nilFunc) := ⟨fun _ => by kernel_rfl⟩
instance ty174 : TyOk Tryz.prog 174 false 1 := ⟨fun _ => by kernel_rfl, fun _ => by kernel_rfl⟩
instance ze174 : ZeroOk Tryz.prog 174 (.nilFunc) := ⟨fun _ => by kernel_rfl⟩
instance ty175 : TyOk Tryz.prog 175 false 1 := ⟨fun _ => by kernel_rfl, fun _ => by kernel_rfl⟩
instance ze175 : ZeroOk Tryz.prog 175 (.nilFunc) := ⟨fun _ => by kernel_rfl⟩
instance ty176 : TyOk Tryz.prog 176 false 1 := ⟨fun _ => by kernel_rfl, fun _ => by kernel_rfl⟩
instance ze176 : ZeroOk Tryz.prog 176 (.nilFunc) := ⟨fun _ => by kernel_rfl⟩
instance ty177 : TyOk Tryz.prog 177 false 1 := ⟨fun _ => by kernel_rfl, fun _ => by kernel_rfl⟩
instance ze177 : ZeroOk Tryz.prog 177 (.nilFunc) := ⟨fun _ => by kernel_rfl⟩
instance ty178 : TyOk Tryz.prog 178 false 1 := ⟨fun _ => by kernel_rfl, fun _ => by kernel_rfl⟩
instance ze178 : ZeroOk Tryz.prog 178 (.nilFunc) := ⟨fun _ => by kernel_rfl⟩
instance ty179 : TyOk Tryz.prog 179 false 1 := ⟨fun _ => by kernel_rfl, fun _ => by kernel_rfl⟩
instance ze179 : ZeroOk Tryz.prog 179 (.nilFunc) := ⟨fun _ => by kernel_rfl⟩
instance ty180 : TyOk Tryz.prog 180 false 1 := ⟨fun _ => by kernel_rfl, fun _ => by kernel_rfl⟩
instance ze180 : ZeroOk Tryz.prog 180 (.nilFunc) := ⟨fun _ => by kernel_rfl⟩
instance ty181 : TyOk Tryz.prog 181 false 1 := ⟨fun _ => by kernel_rfl, fun _ => by kernel_rfl⟩
instance ze181 : ZeroOk Tryz.prog 181 (.nilFunc) := ⟨fun _ => by kernel_rfl⟩
instance ty182 : TyOk Tryz.prog 182 false 1 := ⟨fun _ => by kernel_rfl, fun _ => by kernel_rfl⟩
instance ze182 : ZeroOk Tryz.prog 182 (.nilFunc) := ⟨fun _ => by kernel_rfl⟩
instance ty183 : TyOk Tryz.prog 183 false 1 := ⟨fun _ => by kernel_rfl, fun _ => by kernel_rfl⟩
instance ze183 : ZeroOk Tryz.prog 183 (.nilFunc) := ⟨fun _ => by kernel_rfl⟩
instance ty184 : TyOk Tryz.prog 184 false 1 := ⟨fun _ => by kernel_rfl, fun _ => by kernel_rfl⟩
instance ze184 : ZeroOk Tryz.prog 184 (.nilFunc) := ⟨fun _ => by kernel_rfl⟩
instance ty187 : TyOk Tryz.prog 187 false 1 := ⟨fun _ => by kernel_rfl, fun _ => by kernel_rfl⟩
instance ze187 : ZeroOk Tryz.prog 187 (.nilFunc) := ⟨fun _ => by kernel_rfl⟩
instance ty189 : TyOk Tryz.prog 189 false 1 := ⟨fun _ => by kernel_rfl, fun _ => by kernel_rfl⟩
instance ze189 : ZeroOk Tryz.prog 189 (.nilFunc) := ⟨fun _ => by kernel_rfl⟩
instance ty191 : TyOk Tryz.prog 191 false 1 := ⟨fun _ => by kernel_rfl, fun _ => by kernel_rfl⟩
instance ze191 : ZeroOk Tryz.prog 191 (.nilFunc) := ⟨fun _ => by kernel_rfl⟩
instance ty192 : TyOk Tryz.prog 192 false 1 := ⟨fun _ => by kernel_rfl, fun _ => by kernel_rfl⟩
instance ze192 : ZeroOk Tryz.prog 192 (.nilFunc) := ⟨fun _ => by kernel_rfl⟩
instance ty193 : TyOk Tryz.prog 193 false 1 := ⟨fun _ => by kernel_rfl, fun _ => by kernel_rfl⟩
instance ze193 : ZeroOk Tryz.prog 193 (.nilFunc) := ⟨fun _ => by kernel_rfl⟩
instance ty196 : TyOk Tryz.prog 196 false 1 := ⟨fun _ => by kernel_rfl, fun _ => by kernel_rfl⟩
instance ze196 : ZeroOk Tryz.prog 196 (.nilFunc) := ⟨fun _ => by kernel_rfl⟩
instance ty197 : TyOk Tryz.prog 197 false 1 := ⟨fun _ => by kernel_rfl, fun _ => by kernel_rfl⟩
instance ze197 : ZeroOk Tryz.prog 197 (.nilFunc) := ⟨fun _ => by kernel_rfl⟩
instance ty198 : TyOk Tryz.prog 198 false 1 := ⟨fun _ => by kernel_rfl, fun _ => by kernel_rfl⟩
instance ze198 : ZeroOk Tryz.prog 198 (.nilFunc) := ⟨fun _ => by kernel_rfl⟩
instance ty199 : TyOk Tryz.prog 199 false 1 := ⟨fun _ => by kernel_rfl, fun _ => by kernel_rfl⟩
instance ze199 : ZeroOk Tryz.prog 199 (.nilFunc) := ⟨fun _ => by kernel_rfl⟩
instance ty200 : TyOk Tryz.prog 200 false 1 := ⟨fun _ => by kernel_rfl, fun _ => by kernel_rfl⟩
instance ze200 : ZeroOk Tryz.prog 200 (.nilFunc) := ⟨fun _ => by kernel_rfl⟩
instance ty201 : TyOk Tryz.prog 201 false 1 := ⟨fun _ => by kernel_rfl, fun _ => by kernel_rfl⟩
instance ze201 : ZeroOk Tryz.prog 201 (.nilFunc) := ⟨fun _ => by kernel_rfl⟩
instance ty202 : TyOk Tryz.prog 202 false 1 := ⟨fun _ => by kernel_rfl, fun _ => by kernel_rfl⟩
instance ze202 : ZeroOk Tryz.prog 202 (.nilFunc) := ⟨fun _ => by kernel_rfl⟩
instance ty203 : TyOk Tryz.prog 203 false 1 := ⟨fun _ => by kernel_rfl, fun _ => by kernel_rfl⟩
instance ze203 : ZeroOk Tryz.prog 203 (.nilFunc) := ⟨fun _ => by kernel_rfl⟩
instance ty204 : TyOk Tryz.prog 204 false 1 := ⟨fun _ => by kernel_rfl, fun _ => by kernel_rfl⟩
instance ze204 : ZeroOk Tryz.prog 204 (.nilFunc) := ⟨fun _ => by kernel_rfl⟩
instance ty205 : TyOk Tryz.prog 205 false 1 := ⟨fun _ => by kernel_rfl, fun _ => by kernel_rfl⟩
instance ze205 : ZeroOk Tryz.prog 205 (.nilFunc) := ⟨fun _ => by kernel_rfl⟩
instance ty206 : TyOk Tryz.prog 206 false 1 := ⟨fun _ => by kernel_rfl, fun _ => by kernel_rfl⟩
instance ze206 : ZeroOk Tryz.prog 206 (.nilFunc) := ⟨fun _ => by kernel_rfl⟩
instance ty207 : TyOk Tryz.prog 207 false 1 := ⟨fun _ => by kernel_rfl, fun _ => by kernel_rfl⟩
instance ze207 : ZeroOk Tryz.prog 207 (.nilFunc) := ⟨fun _ => by kernel_rfl⟩
instance ty208 : TyOk Tryz.prog 208 false 1 := ⟨fun _ => by kernel_rfl, fun _ => by kernel_rfl⟩
instance ze208 : ZeroOk Tryz.prog 208 (.nilFunc) := ⟨fun _ => by kernel_rfl⟩
instance ty210 : TyOk Tryz.prog 210 false 1 := ⟨fun _ => by kernel_rfl, fun _ => by kernel_rfl⟩
instance ze210 : ZeroOk Tryz.prog 210 (.nilFunc) := ⟨fun _ => by kernel_rfl⟩
instance ty212 : TyOk Tryz.prog 212 false 1 := ⟨fun _ => by kernel_rfl, fun _ => by kernel_rfl⟩
instance ze212 : ZeroOk Tryz.prog 212 (.nilFunc) := ⟨fun _ => by kernel_rfl⟩
instance ty213 : TyOk Tryz.prog 213 false 1 := ⟨fun _ => by kernel_rfl, fun _ => by kernel_rfl⟩
instance ze213 : ZeroOk Tryz.prog 213 (.nilFunc) := ⟨fun _ => by kernel_rfl⟩
instance ty216 : TyOk Tryz.prog 216 false 1 := ⟨fun _ => by kernel_rfl, fun _ => by kernel_rfl⟩
instance ze216 : ZeroOk Tryz.prog 216 (.nilFunc) := ⟨fun _ => by kernel_rfl⟩
instance ty217 : TyOk Tryz.prog 217 false 1 := ⟨fun _ => by kernel_rfl, fun _ => by kernel_rfl⟩
instance ze217 : ZeroOk Tryz.prog 217 (.nilFunc) := ⟨fun _ => by kernel_rfl⟩
instance ty218 : TyOk Tryz.prog 218 false 1 := ⟨fun _ => by kernel_rfl, fun _ => by kernel_rfl⟩
instance ze218 : ZeroOk Tryz.prog 218 (.nilFunc) := ⟨fun _ => by kernel_rfl⟩
instance ty219 : TyOk Tryz.prog 219 false 1 := ⟨fun _ => by kernel_rfl, fun _ => by kernel_rfl⟩
instance ze219 : ZeroOk Tryz.prog 219 (.nilFunc) := ⟨fun _ => by kernel_rfl⟩
instance ty220 : TyOk Tryz.prog 220 false 1 := ⟨fun _ => by kernel_rfl, fun _ => by kernel_rfl⟩
instance ze220 : ZeroOk Tryz.prog 220 (.nilFunc) := ⟨fun _ => by kernel_rfl⟩
instance ty226 : TyOk Tryz.prog 226 false 1 := ⟨fun _ => by kernel_rfl, fun _ => by kernel_rfl⟩
instance ze226 : ZeroOk Tryz.prog 226 (.nilFunc) := ⟨fun _ => by kernel_rfl⟩
instance ty229 : TyOk Tryz.prog 229 false 1 := ⟨fun _ => by kernel_rfl, fun _ => by kernel_rfl⟩
instance ze229 : ZeroOk Tryz.prog 229 (.nilFunc) := ⟨fun _ => by kernel_rfl⟩
instance ty235 : TyOk Tryz.prog 235 false 1 := ⟨fun _ => by kernel_rfl, fun _ => by kernel_rfl⟩
instance ze235 : ZeroOk Tryz.prog 235 (.nilFunc) := ⟨fun _ => by kernel_rfl⟩
instance zc1 : ZcOk Tryz.prog 1 [.v (.nilFunc)] := ⟨_, ze1, rfl⟩
instance zc3 : ZcOk Tryz.prog 3 [.v (.int .i64 0)] := ⟨_, ze3, rfl⟩
instance zc4 : ZcOk Tryz.prog 4 [.v (.bool false)] := ⟨_, ze4, rfl⟩
instance zc5 : ZcOk Tryz.prog 5 [.v (.int .u8 0)] := ⟨_, ze5, rfl⟩
instance zc22 : ZcOk Tryz.prog 22 [.v (.slice none 0 0)] := ⟨_, ze22, rfl⟩
instance zc23 : ZcOk Tryz.prog 23 [.v (.nilFunc)] := ⟨_, ze23, rfl⟩
instance zc24 : ZcOk Tryz.prog 24 [.v (.slice none 0 0)] := ⟨_, ze24, rfl⟩
instance fl26_0 : FldOk Tryz.prog 26 0 0 false 1 := ⟨⟨_, _, Tryz.underlying26, rfl, rfl, ty24⟩, by decide⟩
instance zc26 : ZcOk Tryz.prog 26 [.v (.slice none 0 0)] := ⟨_, ze26, rfl⟩
instance bl26 : BldOk Tryz.prog 26 [.slice none 0 0] [(0, 1)] := ⟨_, _, ze26.zero, rfl, Tryz.underlying26, fun _ => by kernel_rfl⟩
instance zc27 : ZcOk Tryz.prog 27 [.v (.slice none 0 0)] := ⟨_, ze27, rfl⟩
instance zc29 : ZcOk Tryz.prog 29 [.v (.nilFunc)] := ⟨_, ze29, rfl⟩
instance zc30 : ZcOk Tryz.prog 30 [.v (.nilFunc)] := ⟨_, ze30, rfl⟩
instance zc31 : ZcOk Tryz.prog 31 [.v (.slice none 0 0)] := ⟨_, ze31, rfl⟩
instance fl33_0 : FldOk Tryz.prog 33 0 0 false 1 := ⟨⟨_, _, Tryz.underlying33, rfl, rfl, ty31⟩, by decide⟩
instance fl33_1 : FldOk Tryz.prog 33 1 1 false 1 := ⟨⟨_, _, Tryz.underlying33, rfl, rfl, ty31⟩, by decide⟩
instance zc33 : ZcOk Tryz.prog 33 [.v (.slice none 0 0), .v (.slice none 0 0)] := ⟨_, ze33, rfl⟩
instance bl33 : BldOk Tryz.prog 33 [.slice none 0 0, .slice none 0 0] [(0, 1), (1, 1)] := ⟨_, _, ze33.zero, rfl, Tryz.underlying33, fun _ => by kernel_rfl⟩
instance zc35 : ZcOk Tryz.prog 35 [.v (.nilFunc)] := ⟨_, ze35, rfl⟩
instance zc36 : ZcOk Tryz.prog 36 [.v (.slice none 0 0)] := ⟨_, ze36, rfl⟩
instance zc37 : ZcOk Tryz.prog 37 [.v (.nilFunc)] := ⟨_, ze37, rfl⟩
instance zc38 : ZcOk Tryz.prog 38 [.v (.nilFunc)] := ⟨_, ze38, rfl⟩
instance zc39 : ZcOk Tryz.prog 39 [.v (.nilFunc)] := ⟨_, ze39, rfl⟩
instance zc40 : ZcOk Tryz.prog 40 [.v (.nilFunc)] := ⟨_, ze40, rfl⟩
instance zc42 : ZcOk Tryz.prog 42 [.v (.nilFunc)] := ⟨_, ze42, rfl⟩
instance zc43 : ZcOk Tryz.prog 43 [.v (.nilFunc)] := ⟨_, ze43, rfl⟩
instance zc44 : ZcOk Tryz.prog 44 [.v (.nilFunc)] := ⟨_, ze44, rfl⟩
instance zc45 : ZcOk Tryz.prog 45 [.v (.nilFunc)] := ⟨_, ze45, rfl⟩
instance zc47 : ZcOk Tryz.prog 47 [.v (.nilFunc)] := ⟨_, ze47, rfl⟩
instance zc48 : ZcOk Tryz.prog 48 [.v (.slice none 0 0)] := ⟨_, ze48, rfl⟩
instance fl50_0 : FldOk Tryz.prog 50 0 0 false 1 := ⟨⟨_, _, Tryz.underlying50, rfl, rfl, ty48⟩, by decide⟩
instance zc50 : ZcOk Tryz.prog 50 [.v (.slice none 0 0)] := ⟨_, ze50, rfl⟩
instance bl50 : BldOk Tryz.prog 50 [.slice none 0 0] [(0, 1)] := ⟨_, _, ze50.zero, rfl, Tryz.underlying50, fun _ => by kernel_rfl⟩
instance zc51 : ZcOk Tryz.prog 51 [.v (.slice none 0 0)] := ⟨_, ze51, rfl⟩
instance zc52 : ZcOk Tryz.prog 52 [.v (.nilFunc)] := ⟨_, ze52, rfl⟩
instance zc53 : ZcOk Tryz.prog 53 [.v (.nilFunc)] := ⟨_, ze53, rfl⟩
instance zc54 : ZcOk Tryz.prog 54 [.v (.nilFunc)] := ⟨_, ze54, rfl⟩
instance zc55 : ZcOk Tryz.prog 55 [.v (.nilFunc)] := ⟨_, ze55, rfl⟩
instance zc56 : ZcOk Tryz.prog 56 [.v (.nilFunc)] := ⟨_, ze56, rfl⟩
instance zc57 : ZcOk Tryz.prog 57 [.v (.nilFunc)] := ⟨_, ze57, rfl⟩
instance zc58 : ZcOk Tryz.prog 58 [.v (.nilFunc)] := ⟨_, ze58, rfl⟩
instance fl60_0 : FldOk Tryz.prog 60 0 0 false 1 := ⟨⟨_, _, Tryz.underlying60, rfl, rfl, ty3⟩, by decide⟩
instance fl60_1 : FldOk Tryz.prog 60 1 1 false 1 := ⟨⟨_, _, Tryz.underlying60, rfl, rfl, ty3⟩, by decide⟩
instance fl60_2 : FldOk Tryz.prog 60 2 2 false 1 := ⟨⟨_, _, Tryz.underlying60, rfl, rfl, ty3⟩, by decide⟩
instance fl60_3 : FldOk Tryz.prog 60 3 3 false 1 := ⟨⟨_, _, Tryz.underlying60, rfl, rfl, ty3⟩, by decide⟩
instance zc60 : ZcOk Tryz.prog 60 [.v (.int .i64 0), .v (.int .i64 0), .v (.int .i64 0), .v (.int .i64 0)] := ⟨_, ze60, rfl⟩
instance bl60 : BldOk Tryz.prog 60 [.int .i64 0, .int .i64 0, .int .i64 0, .int .i64 0] [(0, 1), (1, 1), (2, 1), (3, 1)] := ⟨_, _, ze60.zero, rfl, Tryz.underlying60, fun _ => by kernel_rfl⟩
instance zc62 : ZcOk Tryz.prog 62 [.v (.nilFunc)] := ⟨_, ze62, rfl⟩
instance zc63 : ZcOk Tryz.prog 63 [.v (.nilFunc)] := ⟨_, ze63, rfl⟩
instance zc64 : ZcOk Tryz.prog 64 [.v (.nilFunc)] := ⟨_, ze64, rfl⟩
instance zc65 : ZcOk Tryz.prog 65 [.v (.slice none 0 0)] := ⟨_, ze65, rfl⟩
instance zc66 : ZcOk Tryz.prog 66 [.v (.nilFunc)] := ⟨_, ze66, rfl⟩
instance zc67 : ZcOk Tryz.prog 67 [.v (.nilFunc)] := ⟨_, ze67, rfl⟩
instance zc68 : ZcOk Tryz.prog 68 [.v (.nilFunc)] := ⟨_, ze68, rfl⟩
instance zc69 : ZcOk Tryz.prog 69 [.v (.nilFunc)] := ⟨_, ze69, rfl⟩
instance zc70 : ZcOk Tryz.prog 70 [.v (.nilFunc)] := ⟨_, ze70, rfl⟩
instance zc72 : ZcOk Tryz.prog 72 [.v (.nilFunc)] := ⟨_, ze72, rfl⟩
instance zc74 : ZcOk Tryz.prog 74 [.v (.nilFunc)] := ⟨_, ze74, rfl⟩
instance zc75 : ZcOk Tryz.prog 75 [.v (.nilFunc)] := ⟨_, ze75, rfl⟩
instance fl77_0 : FldOk Tryz.prog 77 0 0 false 1 := ⟨⟨_, _, Tryz.underlying77, rfl, rfl, ty3⟩, by decide⟩
instance fl77_1 : FldOk Tryz.prog 77 1 1 false 1 := ⟨⟨_, _, Tryz.underlying77, rfl, rfl, ty3⟩, by decide⟩
instance zc77 : ZcOk Tryz.prog 77 [.v (.int .i64 0), .v (.int .i64 0)] := ⟨_, ze77, rfl⟩
instance bl77 : BldOk Tryz.prog 77 [.int .i64 0, .int .i64 0] [(0, 1), (1, 1)] := ⟨_, _, ze77.zero, rfl, Tryz.underlying77, fun _ => by kernel_rfl⟩
instance fl79_0 : FldOk Tryz.prog 79 0 0 true 2 := ⟨⟨_, _, Tryz.underlying79, rfl, rfl, ty77⟩, by decide⟩
instance fl79_1 : FldOk Tryz.prog 79 1 2 true 2 := ⟨⟨_, _, Tryz.underlying79, rfl, rfl, ty77⟩, by decide⟩
instance zc79 : ZcOk Tryz.prog 79 [.v (.int .i64 0), .v (.int .i64 0), .v (.int .i64 0), .v (.int .i64 0)] := ⟨_, ze79, rfl⟩
instance bl79 : BldOk Tryz.prog 79 [.int .i64 0, .int .i64 0, .int .i64 0, .int .i64 0] [(0, 2), (2, 2)] := ⟨_, _, ze79.zero, rfl, Tryz.underlying79, fun _ => by kernel_rfl⟩
instance zc80 : ZcOk Tryz.prog 80 [.v (.nilFunc)] := ⟨_, ze80, rfl⟩
instance zc82 : ZcOk Tryz.prog 82 [.v (.nilFunc)] := ⟨_, ze82, rfl⟩
instance zc83 : ZcOk Tryz.prog 83 [.v (.nilFunc)] := ⟨_, ze83, rfl⟩
instance zc84 : ZcOk Tryz.prog 84 [.v (.nilFunc)] := ⟨_, ze84, rfl⟩
instance zc85 : ZcOk Tryz.prog 85 [.v (.nilFunc)] := ⟨_, ze85, rfl⟩
instance zc87 : ZcOk Tryz.prog 87 [.v (.nilFunc)] := ⟨_, ze87, rfl⟩
instance zc88 : ZcOk Tryz.prog 88 [.v (.nilFunc)] := ⟨_, ze88, rfl⟩
instance zc89 : ZcOk Tryz.prog 89 [.v (.nilFunc)] := ⟨_, ze89, rfl⟩
instance fl91_0 : FldOk Tryz.prog 91 0 0 false 1 := ⟨⟨_, _, Tryz.underlying91, rfl, rfl, ty3⟩, by decide⟩
instance fl91_1 : FldOk Tryz.prog 91 1 1 false 1 := ⟨⟨_, _, Tryz.underlying91, rfl, rfl, ty3⟩, by decide⟩
instance fl91_2 : FldOk Tryz.prog 91 2 2 false 1 := ⟨⟨_, _, Tryz.underlying91, rfl, rfl, ty3⟩, by decide⟩
instance zc91 : ZcOk Tryz.prog 91 [.v (.int .i64 0), .v (.int .i64 0), .v (.int .i64 0)] := ⟨_, ze91, rfl⟩
instance bl91 : BldOk Tryz.prog 91 [.int .i64 0, .int .i64 0, .int .i64 0] [(0, 1), (1, 1), (2, 1)] := ⟨_, _, ze91.zero, rfl, Tryz.underlying91, fun _ => by kernel_rfl⟩
instance zc92 : ZcOk Tryz.prog 92 [.v (.nilFunc)] := ⟨_, ze92, rfl⟩
instance zc93 : ZcOk Tryz.prog 93 [.v (.nilFunc)] := ⟨_, ze93, rfl⟩
instance zc94 : ZcOk Tryz.prog 94 [.v (.nilFunc)] := ⟨_, ze94, rfl⟩
instance zc95 : ZcOk Tryz.prog 95 [.v (.slice none 0 0)] := ⟨_, ze95, rfl⟩
instance zc96 : ZcOk Tryz.prog 96 [.v (.nilFunc)] := ⟨_, ze96, rfl⟩
instance zc97 : ZcOk Tryz.prog 97 [.v (.nilFunc)] := ⟨_, ze97, rfl⟩
instance zc99 : ZcOk Tryz.prog 99 [.v (.nilFunc)] := ⟨_, ze99, rfl⟩
instance zc101 : ZcOk Tryz.prog 101 [.v (.nilFunc)] := ⟨_, ze101, rfl⟩
instance zc102 : ZcOk Tryz.prog 102 [.v (.nilFunc)] := ⟨_, ze102, rfl⟩
instance zc103 : ZcOk Tryz.prog 103 [.v (.nilFunc)] := ⟨_, ze103, rfl⟩
instance zc104 : ZcOk Tryz.prog 104 [.v (.nilFunc)] := ⟨_, ze104, rfl⟩
instance zc105 : ZcOk Tryz.prog 105 [.v (.nilFunc)] := ⟨_, ze105, rfl⟩
instance zc106 : ZcOk Tryz.prog 106 [.v (.nilFunc)] := ⟨_, ze106, rfl⟩
instance zc107 : ZcOk Tryz.prog 107 [.v (.nilFunc)] := ⟨_, ze107, rfl⟩
instance zc108 : ZcOk Tryz.prog 108 [.v (.nilFunc)] := ⟨_, ze108, rfl⟩
instance fl109_0 : FldOk Tryz.prog 109 0 0 false 1 := ⟨⟨_, _, Tryz.underlying109, rfl, rfl, ty3⟩, by decide⟩
instance fl109_1 : FldOk Tryz.prog 109 1 1 false 1 := ⟨⟨_, _, Tryz.underlying109, rfl, rfl, ty3⟩, by decide⟩
instance fl109_2 : FldOk Tryz.prog 109 2 2 false 1 := ⟨⟨_, _, Tryz.underlying109, rfl, rfl, ty3⟩, by decide⟩
instance zc109 : ZcOk Tryz.prog 109 [.v (.int .i64 0), .v (.int .i64 0), .v (.int .i64 0)] := ⟨_, ze109, rfl⟩
instance bl109 : BldOk Tryz.prog 109 [.int .i64 0, .int .i64 0, .int .i64 0] [(0, 1), (1, 1), (2, 1)] := ⟨_, _, ze109.zero, rfl, Tryz.underlying109, fun _ => by kernel_rfl⟩
instance zc110 : ZcOk Tryz.prog 110 [.v (.nilFunc)] := ⟨_, ze110, rfl⟩
instance zc111 : ZcOk Tryz.prog 111 [.v (.nilFunc)] := ⟨_, ze111, rfl⟩
instance zc112 : ZcOk Tryz.prog 112 [.v (.nilFunc)] := ⟨_, ze112, rfl⟩
instance zc113 : ZcOk Tryz.prog 113 [.v (.nilFunc)] := ⟨_, ze113, rfl⟩
instance zc114 : ZcOk Tryz.prog 114 [.v (.nilFunc)] := ⟨_, ze114, rfl⟩
instance zc115 : ZcOk Tryz.prog 115 [.v (.nilFunc)] := ⟨_, ze115, rfl⟩
instance zc116 : ZcOk Tryz.prog 116 [.v (.nilFunc)] := ⟨_, ze116, rfl⟩
instance zc117 : ZcOk Tryz.prog 117 [.v (.nilFunc)] := ⟨_, ze117, rfl⟩
instance zc118 : ZcOk Tryz.prog 118 [.v (.nilFunc)] := ⟨_, ze118, rfl⟩
instance zc119 : ZcOk Tryz.prog 119 [.v (.nilFunc)] := ⟨_, ze119, rfl⟩
instance zc120 : ZcOk Tryz.prog 120 [.v (.nilFunc)] := ⟨_, ze120, rfl⟩
instance fl122_0 : FldOk Tryz.prog 122 0 0 false 1 := ⟨⟨_, _, Tryz.underlying122, rfl, rfl, ty3⟩, by decide⟩
instance fl122_1 : FldOk Tryz.prog 122 1 1 false 1 := ⟨⟨_, _, Tryz.underlying122, rfl, rfl, ty3⟩, by decide⟩
instance zc122 : ZcOk Tryz.prog 122 [.v (.int .i64 0), .v (.int .i64 0)] := ⟨_, ze122, rfl⟩
instance bl122 : BldOk Tryz.prog 122 [.int .i64 0, .int .i64 0] [(0, 1), (1, 1)] := ⟨_, _, ze122.zero, rfl, Tryz.underlying122, fun _ => by kernel_rfl⟩
instance zc123 : ZcOk Tryz.prog 123 [.v (.nilFunc)] := ⟨_, ze123, rfl⟩
instance zc124 : ZcOk Tryz.prog 124 [.v (.nilFunc)] := ⟨_, ze124, rfl⟩
instance zc126 : ZcOk Tryz.prog 126 [.v (.nilFunc)] := ⟨_, ze126, rfl⟩
instance zc127 : ZcOk Tryz.prog 127 [.v (.nilFunc)] := ⟨_, ze127, rfl⟩
instance fl129_0 : FldOk Tryz.prog 129 0 0 false 1 := ⟨⟨_, _, Tryz.underlying129, rfl, rfl, ty3⟩, by decide⟩
instance fl129_1 : FldOk Tryz.prog 129 1 1 false 1 := ⟨⟨_, _, Tryz.underlying129, rfl, rfl, ty3⟩, by decide⟩
instance fl129_2 : FldOk Tryz.prog 129 2 2 false 1 := ⟨⟨_, _, Tryz.underlying129, rfl, rfl, ty3⟩, by decide⟩
instance fl129_3 : FldOk Tryz.prog 129 3 3 false 1 := ⟨⟨_, _, Tryz.underlying129, rfl, rfl, ty3⟩, by decide⟩
instance zc129 : ZcOk Tryz.prog 129 [.v (.int .i64 0), .v (.int .i64 0), .v (.int .i64 0), .v (.int .i64 0)] := ⟨_, ze129, rfl⟩
instance bl129 : BldOk Tryz.prog 129 [.int .i64 0, .int .i64 0, .int .i64 0, .int .i64 0] [(0, 1), (1, 1), (2, 1), (3, 1)] := ⟨_, _, ze129.zero, rfl, Tryz.underlying129, fun _ => by kernel_rfl⟩
instance zc130 : ZcOk Tryz.prog 130 [.v (.nilFunc)] := ⟨_, ze130, rfl⟩
instance zc131 : ZcOk Tryz.prog 131 [.v (.nilFunc)] := ⟨_, ze131, rfl⟩
instance zc132 : ZcOk Tryz.prog 132 [.v (.nilFunc)] := ⟨_, ze132, rfl⟩
instance zc135 : ZcOk Tryz.prog 135 [.v (.nilFunc)] := ⟨_, ze135, rfl⟩
instance zc136 : ZcOk Tryz.prog 136 [.v (.nilFunc)] := ⟨_, ze136, rfl⟩
instance zc137 : ZcOk Tryz.prog 137 [.v (.nilFunc)] := ⟨_, ze137, rfl⟩
instance zc138 : ZcOk Tryz.prog 138 [.v (.slice none 0 0)] := ⟨_, ze138, rfl⟩
instance fl140_0 : FldOk Tryz.prog 140 0 0 false 1 := ⟨⟨_, _, Tryz.underlying140, rfl, rfl, ty138⟩, by decide⟩
instance zc140 : ZcOk Tryz.prog 140 [.v (.slice none 0 0)] := ⟨_, ze140, rfl⟩
instance bl140 : BldOk Tryz.prog 140 [.slice none 0 0] [(0, 1)] := ⟨_, _, ze140.zero, rfl, Tryz.underlying140, fun _ => by kernel_rfl⟩
instance zc142 : ZcOk Tryz.prog 142 [.v (.nilFunc)] := ⟨_, ze142, rfl⟩
instance zc143 : ZcOk Tryz.prog 143 [.v (.nilFunc)] := ⟨_, ze143, rfl⟩
instance zc144 : ZcOk Tryz.prog 144 [.v (.nilFunc)] := ⟨_, ze144, rfl⟩
instance zc145 : ZcOk Tryz.prog 145 [.v (.nilFunc)] := ⟨_, ze145, rfl⟩
instance zc146 : ZcOk Tryz.prog 146 [.v (.nilFunc)] := ⟨_, ze146, rfl⟩
instance zc147 : ZcOk Tryz.prog 147 [.v (.nilFunc)] := ⟨_, ze147, rfl⟩
instance zc149 : ZcOk Tryz.prog 149 [.v (.nilFunc)] := ⟨_, ze149, rfl⟩
instance zc150 : ZcOk Tryz.prog 150 [.v (.nilFunc)] := ⟨_, ze150, rfl⟩
instance zc151 : ZcOk Tryz.prog 151 [.v (.nilFunc)] := ⟨_, ze151, rfl⟩
instance fl152_0 : FldOk Tryz.prog 152 0 0 false 1 := ⟨⟨_, _, Tryz.underlying152, rfl, rfl, ty3⟩, by decide⟩
instance fl152_1 : FldOk Tryz.prog 152 1 1 false 1 := ⟨⟨_, _, Tryz.underlying152, rfl, rfl, ty3⟩, by decide⟩
instance zc152 : ZcOk Tryz.prog 152 [.v (.int .i64 0), .v (.int .i64 0)] := ⟨_, ze152, rfl⟩
instance bl152 : BldOk Tryz.prog 152 [.int .i64 0, .int .i64 0] [(0, 1), (1, 1)] := ⟨_, _, ze152.zero, rfl, Tryz.underlying152, fun _ => by kernel_rfl⟩
instance fl154_0 : FldOk Tryz.prog 154 0 0 true 2 := ⟨⟨_, _, Tryz.underlying154, rfl, rfl, ty152⟩, by decide⟩
instance fl154_1 : FldOk Tryz.prog 154 1 2 true 2 := ⟨⟨_, _, Tryz.underlying154, rfl, rfl, ty152⟩, by decide⟩
instance zc154 : ZcOk Tryz.prog 154 [.v (.int .i64 0), .v (.int .i64 0), .v (.int .i64 0), .v (.int .i64 0)] := ⟨_, ze154, rfl⟩
instance bl154 : BldOk Tryz.prog 154 [.int .i64 0, .int .i64 0, .int .i64 0, .int .i64 0] [(0, 2), (2, 2)] := ⟨_, _, ze154.zero, rfl, Tryz.underlying154, fun _ => by kernel_rfl⟩
instance zc155 : ZcOk Tryz.prog 155 [.v (.nilFunc)] := ⟨_, ze155, rfl⟩
instance zc156 : ZcOk Tryz.prog 156 [.v (.nilFunc)] := ⟨_, ze156, rfl⟩
instance zc157 : ZcOk Tryz.prog 157 [.v (.nilFunc)] := ⟨_, ze157, rfl⟩
instance zc158 : ZcOk Tryz.prog 158 [.v (.nilFunc)] := ⟨_, ze158, rfl⟩
instance zc159 : ZcOk Tryz.prog 159 [.v (.slice none 0 0)] := ⟨_, ze159, rfl⟩
instance zc164 : ZcOk Tryz.prog 164 [.v (.int .u64 0)] := ⟨_, ze164, rfl⟩
instance zc170 : ZcOk Tryz.prog 170 [.v (.nilFunc)] := ⟨_, ze170, rfl⟩
instance zc171 : ZcOk Tryz.prog 171 [.v (.nilFunc)] := ⟨_, ze171, rfl⟩
instance zc172 : ZcOk Tryz.prog 172 [.v (.nilFunc)] := ⟨_, ze172, rfl⟩
instance zc173 : ZcOk Tryz.prog 173 [.v (.nilFunc)] := ⟨_, ze173, rfl⟩
instance zc174 : ZcOk Tryz.prog 174 [.v (.nilFunc)] := ⟨_, ze174, rfl⟩
instance zc175 : ZcOk Tryz.prog 175 [.v (.nilFunc)] := ⟨_, ze175, rfl⟩
instance zc176 : ZcOk Tryz.prog 176 [.v (.nilFunc)] := ⟨_, ze176, rfl⟩
instance zc177 : ZcOk Tryz.prog 177 [.v (.nilFunc)] := ⟨_, ze177, rfl⟩
instance zc178 : ZcOk Tryz.prog 178 [.v (.nilFunc)] := ⟨_, ze178, rfl⟩
instance zc179 : ZcOk Tryz.prog 179 [.v (.nilFunc)] := ⟨_, ze179, rfl⟩
instance zc180 : ZcOk Tryz.prog 180 [.v (.nilFunc)] := ⟨_, ze180, rfl⟩
instance zc181 : ZcOk Tryz.prog 181 [.v (.nilFunc)] := ⟨_, ze181, rfl⟩
instance zc182 : ZcOk Tryz.prog 182 [.v (.nilFunc)] := ⟨_, ze182, rfl⟩
instance zc183 : ZcOk Tryz.prog 183 [.v (.nilFunc)] := ⟨_, ze183, rfl⟩
instance zc184 : ZcOk Tryz.prog 184 [.v (.nilFunc)] := ⟨_, ze184, rfl⟩
instance zc187 : ZcOk Tryz.prog 187 [.v (.nilFunc)] := ⟨_, ze187, rfl⟩
instance zc189 : ZcOk Tryz.prog 189 [.v (.nilFunc)] := ⟨_, ze189, rfl⟩
instance zc191 : ZcOk Tryz.prog 191 [.v (.nilFunc)] := ⟨_, ze191, rfl⟩
instance zc192 : ZcOk Tryz.prog 192 [.v (.nilFunc)] := ⟨_, ze192, rfl⟩
instance zc193 : ZcOk Tryz.prog 193 [.v (.nilFunc)] := ⟨_, ze193, rfl⟩
instance zc196 : ZcOk Tryz.prog 196 [.v (.nilFunc)] := ⟨_, ze196, rfl⟩
instance zc197 : ZcOk Tryz.prog 197 [.v (.nilFunc)] := ⟨_, ze197, rfl⟩
instance zc198 : ZcOk Tryz.prog 198 [.v (.nilFunc)] := ⟨_, ze198, rfl⟩
instance zc199 : ZcOk Tryz.prog 199 [.v (.nilFunc)] := ⟨_, ze199, rfl⟩
instance zc200 : ZcOk Tryz.prog 200 [.v (.nilFunc)] := ⟨_, ze200, rfl⟩
instance zc201 : ZcOk Tryz.prog 201 [.v (.nilFunc)] := ⟨_, ze201, rfl⟩
instance zc202 : ZcOk Tryz.prog 202 [.v (.nilFunc)] := ⟨_, ze202, rfl⟩
instance zc203 : ZcOk Tryz.prog 203 [.v (.nilFunc)] := ⟨_, ze203, rfl⟩
instance zc204 : ZcOk Tryz.prog 204 [.v (.nilFunc)] := ⟨_, ze204, rfl⟩
instance zc205 : ZcOk Tryz.prog 205 [.v (.nilFunc)] := ⟨_, ze205, rfl⟩
instance zc206 : ZcOk Tryz.prog 206 [.v (.nilFunc)] := ⟨_, ze206, rfl⟩
instance zc207 : ZcOk Tryz.prog 207 [.v (.nilFunc)] := ⟨_, ze207, rfl⟩
instance zc208 : ZcOk Tryz.prog 208 [.v (.nilFunc)] := ⟨_, ze208, rfl⟩
instance zc210 : ZcOk Tryz.prog 210 [.v (.nilFunc)] := ⟨_, ze210, rfl⟩
instance zc212 : ZcOk Tryz.prog 212 [.v (.nilFunc)] := ⟨_, ze212, rfl⟩
instance zc213 : ZcOk Tryz.prog 213 [.v (.nilFunc)] := ⟨_, ze213, rfl⟩
instance zc216 : ZcOk Tryz.prog 216 [.v (.nilFunc)] := ⟨_, ze216, rfl⟩
instance zc217 : ZcOk Tryz.prog 217 [.v (.nilFunc)] := ⟨_, ze217, rfl⟩
instance zc218 : ZcOk Tryz.prog 218 [.v (.nilFunc)] := ⟨_, ze218, rfl⟩
instance zc219 : ZcOk Tryz.prog 219 [.v (.nilFunc)] := ⟨_, ze219, rfl⟩
instance zc220 : ZcOk Tryz.prog 220 [.v (.nilFunc)] := ⟨_, ze220, rfl⟩
instance zc226 : ZcOk Tryz.prog 226 [.v (.nilFunc)] := ⟨_, ze226, rfl⟩
instance zc229 : ZcOk Tryz.prog 229 [.v (.nilFunc)] := ⟨_, ze229, rfl⟩
instance zc235 : ZcOk Tryz.prog 235 [.v (.nilFunc)] := ⟨_, ze235, rfl⟩
theorem in22 : (Tryz.prog.info? 5).map (fun i => (i.zero, i.size, i.bytes)) = some (some (.int .u8 0), 1, 1) := by kernel_rfl
instance sl22 : SlOk Tryz.prog 22 5 1 1 := ⟨Tryz.underlying22, slInfo in22 rfl, by decide⟩
instance zs22 : ZSlOk Tryz.prog 22 5 1 1 [.int .u8 0] := ⟨sl22, _, ze5.zero, rfl⟩
theorem in24 : (Tryz.prog.info? 79).map (fun i => (i.zero, i.size, i.bytes)) = some (some (.agg #[.int .i64 0, .int .i64 0, .int .i64 0, .int .i64 0]), 4, 32) := by kernel_rfl
instance sl24 : SlOk Tryz.prog 24 79 4 32 := ⟨Tryz.underlying24, slInfo in24 rfl, by decide⟩
instance zs24 : ZSlOk Tryz.prog 24 79 4 32 [.int .i64 0, .int .i64 0, .int .i64 0, .int .i64 0] := ⟨sl24, _, ze79.zero, rfl⟩
theorem in27 : (Tryz.prog.info? 91).map (fun i => (i.zero, i.size, i.bytes)) = some (some (.agg #[.int .i64 0, .int .i64 0, .int .i64 0]), 3, 24) := by kernel_rfl
instance sl27 : SlOk Tryz.prog 27 91 3 24 := ⟨Tryz.underlying27, slInfo in27 rfl, by decide⟩
instance zs27 : ZSlOk Tryz.prog 27 91 3 24 [.int .i64 0, .int .i64 0, .int .i64 0] := ⟨sl27, _, ze91.zero, rfl⟩
theorem in31 : (Tryz.prog.info? 3).map (fun i => (i.zero, i.size, i.bytes)) = some (some (.int .i64 0), 1, 8) := by kernel_rfl
instance sl31 : SlOk Tryz.prog 31 3 1 8 := ⟨Tryz.underlying31, slInfo in31 rfl, by decide⟩
instance zs31 : ZSlOk Tryz.prog 31 3 1 8 [.int .i64 0] := ⟨sl31, _, ze3.zero, rfl⟩
theorem in36 : (Tryz.prog.info? 129).map (fun i => (i.zero, i.size, i.bytes)) = some (some (.agg #[.int .i64 0, .int .i64 0, .int .i64 0, .int .i64 0]), 4, 32) := by kernel_rfl
instance sl36 : SlOk Tryz.prog 36 129 4 32 := ⟨Tryz.underlying36, slInfo in36 rfl, by decide⟩
instance zs36 : ZSlOk Tryz.prog 36 129 4 32 [.int .i64 0, .int .i64 0, .int .i64 0, .int .i64 0] := ⟨sl36, _, ze129.zero, rfl⟩
theorem in48 : (Tryz.prog.info? 154).map (fun i => (i.zero, i.size, i.bytes)) = some (some (.agg #[.int .i64 0, .int .i64 0, .int .i64 0, .int .i64 0]), 4, 32) := by kernel_rfl
instance sl48 : SlOk Tryz.prog 48 154 4 32 := ⟨Tryz.underlying48, slInfo in48 rfl, by decide⟩
instance zs48 : ZSlOk Tryz.prog 48 154 4 32 [.int .i64 0, .int .i64 0, .int .i64 0, .int .i64 0] := ⟨sl48, _, ze154.zero, rfl⟩
theorem in51 : (Tryz.prog.info? 109).map (fun i => (i.zero, i.size, i.bytes)) = some (some (.agg #[.int .i64 0, .int .i64 0, .int .i64 0]), 3, 24) := by kernel_rfl
instance sl51 : SlOk Tryz.prog 51 109 3 24 := ⟨Tryz.underlying51, slInfo in51 rfl, by decide⟩
instance zs51 : ZSlOk Tryz.prog 51 109 3 24 [.int .i64 0, .int .i64 0, .int .i64 0] := ⟨sl51, _, ze109.zero, rfl⟩
theorem in65 : (Tryz.prog.info? 60).map (fun i => (i.zero, i.size, i.bytes)) = some (some (.agg #[.int .i64 0, .int .i64 0, .int .i64 0, .int .i64 0]), 4, 32) := by kernel_rfl
instance sl65 : SlOk Tryz.prog 65 60 4 32 := ⟨Tryz.underlying65, slInfo in65 rfl, by decide⟩
instance zs65 : ZSlOk Tryz.prog 65 60 4 32 [.int .i64 0, .int .i64 0, .int .i64 0, .int .i64 0] := ⟨sl65, _, ze60.zero, rfl⟩
theorem in95 : (Tryz.prog.info? 122).map (fun i => (i.zero, i.size, i.bytes)) = some (some (.agg #[.int .i64 0, .int .i64 0]), 2, 16) := by kernel_rfl
instance sl95 : SlOk Tryz.prog 95 122 2 16 := ⟨Tryz.underlying95, slInfo in95 rfl, by decide⟩
instance zs95 : ZSlOk Tryz.prog 95 122 2 16 [.int .i64 0, .int .i64 0] := ⟨sl95, _, ze122.zero, rfl⟩
theorem in138 : (Tryz.prog.info? 77).map (fun i => (i.zero, i.size, i.bytes)) = some (some (.agg #[.int .i64 0, .int .i64 0]), 2, 16) := by kernel_rfl
instance sl138 : SlOk Tryz.prog 138 77 2 16 := ⟨Tryz.underlying138, slInfo in138 rfl, by decide⟩
instance zs138 : ZSlOk Tryz.prog 138 77 2 16 [.int .i64 0, .int .i64 0] := ⟨sl138, _, ze77.zero, rfl⟩
theorem in159 : (Tryz.prog.info? 65).map (fun i => (i.zero, i.size, i.bytes)) = some (some (.slice none 0 0), 1, 24) := by kernel_rfl
instance sl159 : SlOk Tryz.prog 159 65 1 24 := ⟨Tryz.underlying159, slInfo in159 rfl, by decide⟩
instance zs159 : ZSlOk Tryz.prog 159 65 1 24 [.slice none 0 0] := ⟨sl159, _, ze65.zero, rfl⟩
instance fn3 : FnOk Tryz.prog 3 := ⟨Tryz.f3, Tryz.func3, by kernel_rfl, by kernel_rfl⟩
instance fn4 : FnOk Tryz.prog 4 := ⟨Tryz.f4, Tryz.func4, by kernel_rfl, by kernel_rfl⟩
instance fn5 : FnOk Tryz.prog 5 := ⟨Tryz.f5, Tryz.func5, by kernel_rfl, by kernel_rfl⟩
instance fn6 : FnOk Tryz.prog 6 := ⟨Tryz.f6, Tryz.func6, by kernel_rfl, by kernel_rfl⟩
instance fn7 : FnOk Tryz.prog 7 := ⟨Tryz.f7, Tryz.func7, by kernel_rfl, by kernel_rfl⟩
instance fn8 : FnOk Tryz.prog 8 := ⟨Tryz.f8, Tryz.func8, by kernel_rfl, by kernel_rfl⟩
instance fn9 : FnOk Tryz.prog 9 := ⟨Tryz.f9, Tryz.func9, by kernel_rfl, by kernel_rfl⟩
instance fn10 : FnOk Tryz.prog 10 := ⟨Tryz.f10, Tryz.func10, by kernel_rfl, by kernel_rfl⟩
instance fn11 : FnOk Tryz.prog 11 := ⟨Tryz.f11, Tryz.func11, by kernel_rfl, by kernel_rfl⟩
instance fn12 : FnOk Tryz.prog 12 := ⟨Tryz.f12, Tryz.func12, by kernel_rfl, by kernel_rfl⟩
instance fn13 : FnOk Tryz.prog 13 := ⟨Tryz.f13, Tryz.func13, by kernel_rfl, by kernel_rfl⟩
instance fn14 : FnOk Tryz.prog 14 := ⟨Tryz.f14, Tryz.func14, by kernel_rfl, by kernel_rfl⟩
instance fn15 : FnOk Tryz.prog 15 := ⟨Tryz.f15, Tryz.func15, by kernel_rfl, by kernel_rfl⟩
instance fn16 : FnOk Tryz.prog 16 := ⟨Tryz.f16, Tryz.func16, by kernel_rfl, by kernel_rfl⟩
instance fn17 : FnOk Tryz.prog 17 := ⟨Tryz.f17, Tryz.func17, by kernel_rfl, by kernel_rfl⟩
instance fn18 : FnOk Tryz.prog 18 := ⟨Tryz.f18, Tryz.func18, by kernel_rfl, by kernel_rfl⟩
instance fn19 : FnOk Tryz.prog 19 := ⟨Tryz.f19, Tryz.func19, by kernel_rfl, by kernel_rfl⟩
instance fn20 : FnOk Tryz.prog 20 := ⟨Tryz.f20, Tryz.func20, by kernel_rfl, by kernel_rfl⟩
instance fn21 : FnOk Tryz.prog 21 := ⟨Tryz.f21, Tryz.func21, by kernel_rfl, by kernel_rfl⟩
instance fn22 : FnOk Tryz.prog 22 := ⟨Tryz.f22, Tryz.func22, by kernel_rfl, by kernel_rfl⟩
instance fn23 : FnOk Tryz.prog 23 := ⟨Tryz.f23, Tryz.func23, by kernel_rfl, by kernel_rfl⟩
instance fn24 : FnOk Tryz.prog 24 := ⟨Tryz.f24, Tryz.func24, by kernel_rfl, by kernel_rfl⟩
instance fn25 : FnOk Tryz.prog 25 := ⟨Tryz.f25, Tryz.func25, by kernel_rfl, by kernel_rfl⟩
instance fn26 : FnOk Tryz.prog 26 := ⟨Tryz.f26, Tryz.func26, by kernel_rfl, by kernel_rfl⟩
instance fn27 : FnOk Tryz.prog 27 := ⟨Tryz.f27, Tryz.func27, by kernel_rfl, by kernel_rfl⟩
instance fn28 : FnOk Tryz.prog 28 := ⟨Tryz.f28, Tryz.func28, by kernel_rfl, by kernel_rfl⟩
instance fn29 : FnOk Tryz.prog 29 := ⟨Tryz.f29, Tryz.func29, by kernel_rfl, by kernel_rfl⟩
instance fn30 : FnOk Tryz.prog 30 := ⟨Tryz.f30, Tryz.func30, by kernel_rfl, by kernel_rfl⟩
instance fn31 : FnOk Tryz.prog 31 := ⟨Tryz.f31, Tryz.func31, by kernel_rfl, by kernel_rfl⟩
instance fn32 : FnOk Tryz.prog 32 := ⟨Tryz.f32, Tryz.func32, by kernel_rfl, by kernel_rfl⟩
instance fn33 : FnOk Tryz.prog 33 := ⟨Tryz.f33, Tryz.func33, by kernel_rfl, by kernel_rfl⟩
instance fn34 : FnOk Tryz.prog 34 := ⟨Tryz.f34, Tryz.func34, by kernel_rfl, by kernel_rfl⟩
instance fn35 : FnOk Tryz.prog 35 := ⟨Tryz.f35, Tryz.func35, by kernel_rfl, by kernel_rfl⟩
instance fn36 : FnOk Tryz.prog 36 := ⟨Tryz.f36, Tryz.func36, by kernel_rfl, by kernel_rfl⟩
instance fn37 : FnOk Tryz.prog 37 := ⟨Tryz.f37, Tryz.func37, by kernel_rfl, by kernel_rfl⟩
instance fn38 : FnOk Tryz.prog 38 := ⟨Tryz.f38, Tryz.func38, by kernel_rfl, by kernel_rfl⟩
instance fn39 : FnOk Tryz.prog 39 := ⟨Tryz.f39, Tryz.func39, by kernel_rfl, by kernel_rfl⟩
instance fn40 : FnOk Tryz.prog 40 := ⟨Tryz.f40, Tryz.func40, by kernel_rfl, by kernel_rfl⟩
instance fn41 : FnOk Tryz.prog 41 := ⟨Tryz.f41, Tryz.func41, by kernel_rfl, by kernel_rfl⟩
instance fn42 : FnOk Tryz.prog 42 := ⟨Tryz.f42, Tryz.func42, by kernel_rfl, by kernel_rfl⟩
instance fn43 : FnOk Tryz.prog 43 := ⟨Tryz.f43, Tryz.func43, by kernel_rfl, by kernel_rfl⟩
instance fn44 : FnOk Tryz.prog 44 := ⟨Tryz.f44, Tryz.func44, by kernel_rfl, by kernel_rfl⟩
instance fn45 : FnOk Tryz.prog 45 := ⟨Tryz.f45, Tryz.func45, by kernel_rfl, by kernel_rfl⟩
instance fn46 : FnOk Tryz.prog 46 := ⟨Tryz.f46, Tryz.func46, by kernel_rfl, by kernel_rfl⟩
instance fn47 : FnOk Tryz.prog 47 := ⟨Tryz.f47, Tryz.func47, by kernel_rfl, by kernel_rfl⟩
instance fn48 : FnOk Tryz.prog 48 := ⟨Tryz.f48, Tryz.func48, by kernel_rfl, by kernel_rfl⟩
instance fn49 : FnOk Tryz.prog 49 := ⟨Tryz.f49, Tryz.func49, by kernel_rfl, by kernel_rfl⟩
instance fn50 : FnOk Tryz.prog 50 := ⟨Tryz.f50, Tryz.func50, by kernel_rfl, by kernel_rfl⟩
instance fn51 : FnOk Tryz.prog 51 := ⟨Tryz.f51, Tryz.func51, by kernel_rfl, by kernel_rfl⟩
instance fn52 : FnOk Tryz.prog 52 := ⟨Tryz.f52, Tryz.func52, by kernel_rfl, by kernel_rfl⟩
instance fn53 : FnOk Tryz.prog 53 := ⟨Tryz.f53, Tryz.func53, by kernel_rfl, by kernel_rfl⟩
instance fn54 : FnOk Tryz.prog 54 := ⟨Tryz.f54, Tryz.func54, by kernel_rfl, by kernel_rfl⟩
instance fn55 : FnOk Tryz.prog 55 := ⟨Tryz.f55, Tryz.func55, by kernel_rfl, by kernel_rfl⟩
instance fn56 : FnOk Tryz.prog 56 := ⟨Tryz.f56, Tryz.func56, by kernel_rfl, by kernel_rfl⟩
instance fn57 : FnOk Tryz.prog 57 := ⟨Tryz.f57, Tryz.func57, by kernel_rfl, by kernel_rfl⟩
instance fn58 : FnOk Tryz.prog 58 := ⟨Tryz.f58, Tryz.func58, by kernel_rfl, by kernel_rfl⟩
instance fn59 : FnOk Tryz.prog 59 := ⟨Tryz.f59, Tryz.func59, by kernel_rfl, by kernel_rfl⟩
instance fn60 : FnOk Tryz.prog 60 := ⟨Tryz.f60, Tryz.func60, by kernel_rfl, by kernel_rfl⟩
instance fn61 : FnOk Tryz.prog 61 := ⟨Tryz.f61, Tryz.func61, by kernel_rfl, by kernel_rfl⟩
instance fn62 : FnOk Tryz.prog 62 := ⟨Tryz.f62, Tryz.func62, by kernel_rfl, by kernel_rfl⟩
instance fn63 : FnOk Tryz.prog 63 := ⟨Tryz.f63, Tryz.func63, by kernel_rfl, by kernel_rfl⟩
instance fn64 : FnOk Tryz.prog 64 := ⟨Tryz.f64, Tryz.func64, by kernel_rfl, by kernel_rfl⟩
instance fn65 : FnOk Tryz.prog 65 := ⟨Tryz.f65, Tryz.func65, by kernel_rfl, by kernel_rfl⟩
instance fn66 : FnOk Tryz.prog 66 := ⟨Tryz.f66, Tryz.func66, by kernel_rfl, by kernel_rfl⟩
instance fn67 : FnOk Tryz.prog 67 := ⟨Tryz.f67, Tryz.func67, by kernel_rfl, by kernel_rfl⟩
instance fn68 : FnOk Tryz.prog 68 := ⟨Tryz.f68, Tryz.func68, by kernel_rfl, by kernel_rfl⟩
instance fn69 : FnOk Tryz.prog 69 := ⟨Tryz.f69, Tryz.func69, by kernel_rfl, by kernel_rfl⟩
instance fn70 : FnOk Tryz.prog 70 := ⟨Tryz.f70, Tryz.func70, by kernel_rfl, by kernel_rfl⟩
instance fn71 : FnOk Tryz.prog 71 := ⟨Tryz.f71, Tryz.func71, by kernel_rfl, by kernel_rfl⟩
instance fn72 : FnOk Tryz.prog 72 := ⟨Tryz.f72, Tryz.func72, by kernel_rfl, by kernel_rfl⟩
instance fn73 : FnOk Tryz.prog 73 := ⟨Tryz.f73, Tryz.func73, by kernel_rfl, by kernel_rfl⟩
instance fn74 : FnOk Tryz.prog 74 := ⟨Tryz.f74, Tryz.func74, by kernel_rfl, by kernel_rfl⟩
instance fn75 : FnOk Tryz.prog 75 := ⟨Tryz.f75, Tryz.func75, by kernel_rfl, by kernel_rfl⟩
instance fn76 : FnOk Tryz.prog 76 := ⟨Tryz.f76, Tryz.func76, by kernel_rfl, by kernel_rfl⟩
instance fn77 : FnOk Tryz.prog 77 := ⟨Tryz.f77, Tryz.func77, by kernel_rfl, by kernel_rfl⟩
instance fn78 : FnOk Tryz.prog 78 := ⟨Tryz.f78, Tryz.func78, by kernel_rfl, by kernel_rfl⟩
instance fn79 : FnOk Tryz.prog 79 := ⟨Tryz.f79, Tryz.func79, by kernel_rfl, by kernel_rfl⟩
instance fn80 : FnOk Tryz.prog 80 := ⟨Tryz.f80, Tryz.func80, by kernel_rfl, by kernel_rfl⟩
instance fn81 : FnOk Tryz.prog 81 := ⟨Tryz.f81, Tryz.func81, by kernel_rfl, by kernel_rfl⟩
instance fn82 : FnOk Tryz.prog 82 := ⟨Tryz.f82, Tryz.func82, by kernel_rfl, by kernel_rfl⟩
instance fn83 : FnOk Tryz.prog 83 := ⟨Tryz.f83, Tryz.func83, by kernel_rfl, by kernel_rfl⟩
instance fn84 : FnOk Tryz.prog 84 := ⟨Tryz.f84, Tryz.func84, by kernel_rfl, by kernel_rfl⟩
instance fn85 : FnOk Tryz.prog 85 := ⟨Tryz.f85, Tryz.func85, by kernel_rfl, by kernel_rfl⟩
instance fn86 : FnOk Tryz.prog 86 := ⟨Tryz.f86, Tryz.func86, by kernel_rfl, by kernel_rfl⟩
instance fn87 : FnOk Tryz.prog 87 := ⟨Tryz.f87, Tryz.func87, by kernel_rfl, by kernel_rfl⟩
instance fn88 : FnOk Tryz.prog 88 := ⟨Tryz.f88, Tryz.func88, by kernel_rfl, by kernel_rfl⟩
instance fn89 : FnOk Tryz.prog 89 := ⟨Tryz.f89, Tryz.func89, by kernel_rfl, by kernel_rfl⟩
instance fn90 : FnOk Tryz.prog 90 := ⟨Tryz.f90, Tryz.func90, by kernel_rfl, by kernel_rfl⟩
instance fn91 : FnOk Tryz.prog 91 := ⟨Tryz.f91, Tryz.func91, by kernel_rfl, by kernel_rfl⟩
instance fn92 : FnOk Tryz.prog 92 := ⟨Tryz.f92, Tryz.func92, by kernel_rfl, by kernel_rfl⟩
instance fn93 : FnOk Tryz.prog 93 := ⟨Tryz.f93, Tryz.func93, by kernel_rfl, by kernel_rfl⟩
instance fn94 : FnOk Tryz.prog 94 := ⟨Tryz.f94, Tryz.func94, by kernel_rfl, by kernel_rfl⟩
instance fn95 : FnOk Tryz.prog 95 := ⟨Tryz.f95, Tryz.func95, by kernel_rfl, by kernel_rfl⟩
instance fn96 : FnOk Tryz.prog 96 := ⟨Tryz.f96, Tryz.func96, by kernel_rfl, by kernel_rfl⟩
instance fn97 : FnOk Tryz.prog 97 := ⟨Tryz.f97, Tryz.func97, by kernel_rfl, by kernel_rfl⟩
instance fn98 : FnOk Tryz.prog 98 := ⟨Tryz.f98, Tryz.func98, by kernel_rfl, by kernel_rfl⟩
instance fn99 : FnOk Tryz.prog 99 := ⟨Tryz.f99, Tryz.func99, by kernel_rfl, by kernel_rfl⟩
instance fn100 : FnOk Tryz.prog 100 := ⟨Tryz.f100, Tryz.func100, by kernel_rfl, by kernel_rfl⟩
instance fn101 : FnOk Tryz.prog 101 := ⟨Tryz.f101, Tryz.func101, by kernel_rfl, by kernel_rfl⟩
instance fn102 : FnOk Tryz.prog 102 := ⟨Tryz.f102, Tryz.func102, by kernel_rfl, by kernel_rfl⟩
instance fn103 : FnOk Tryz.prog 103 := ⟨Tryz.f103, Tryz.func103, by kernel_rfl, by kernel_rfl⟩
instance fn104 : FnOk Tryz.prog 104 := ⟨Tryz.f104, Tryz.func104, by kernel_rfl, by kernel_rfl⟩
instance fn105 : FnOk Tryz.prog 105 := ⟨Tryz.f105, Tryz.func105, by kernel_rfl, by kernel_rfl⟩
instance fn106 : FnOk Tryz.prog 106 := ⟨Tryz.f106, Tryz.func106, by kernel_rfl, by kernel_rfl⟩
instance fn107 : FnOk Tryz.prog 107 := ⟨Tryz.f107, Tryz.func107, by kernel_rfl, by kernel_rfl⟩
instance fn108 : FnOk Tryz.prog 108 := ⟨Tryz.f108, Tryz.func108, by kernel_rfl, by kernel_rfl⟩
instance fn109 : FnOk Tryz.prog 109 := ⟨Tryz.f109, Tryz.func109, by kernel_rfl, by kernel_rfl⟩
instance fn110 : FnOk Tryz.prog 110 := ⟨Tryz.f110, Tryz.func110, by kernel_rfl, by kernel_rfl⟩
instance fn111 : FnOk Tryz.prog 111 := ⟨Tryz.f111, Tryz.func111, by kernel_rfl, by kernel_rfl⟩
instance fn112 : FnOk Tryz.prog 112 := ⟨Tryz.f112, Tryz.func112, by kernel_rfl, by kernel_rfl⟩
instance fn113 : FnOk Tryz.prog 113 := ⟨Tryz.f113, Tryz.func113, by kernel_rfl, by kernel_rfl⟩
instance fn114 : FnOk Tryz.prog 114 := ⟨Tryz.f114, Tryz.func114, by kernel_rfl, by kernel_rfl⟩
instance fn115 : FnOk Tryz.prog 115 := ⟨Tryz.f115, Tryz.func115, by kernel_rfl, by kernel_rfl⟩
instance fn116 : FnOk Tryz.prog 116 := ⟨Tryz.f116, Tryz.func116, by kernel_rfl, by kernel_rfl⟩
instance fn117 : FnOk Tryz.prog 117 := ⟨Tryz.f117, Tryz.func117, by kernel_rfl, by kernel_rfl⟩
instance fn118 : FnOk Tryz.prog 118 := ⟨Tryz.f118, Tryz.func118, by kernel_rfl, by kernel_rfl⟩
instance fn119 : FnOk Tryz.prog 119 := ⟨Tryz.f119, Tryz.func119, by kernel_rfl, by kernel_rfl⟩
instance fn120 : FnOk Tryz.prog 120 := ⟨Tryz.f120, Tryz.func120, by kernel_rfl, by kernel_rfl⟩
instance fn121 : FnOk Tryz.prog 121 := ⟨Tryz.f121, Tryz.func121, by kernel_rfl, by kernel_rfl⟩
instance fn122 : FnOk Tryz.prog 122 := ⟨Tryz.f122, Tryz.func122, by kernel_rfl, by kernel_rfl⟩
instance fn123 : FnOk Tryz.prog 123 := ⟨Tryz.f123, Tryz.func123, by kernel_rfl, by kernel_rfl⟩
instance fn124 : FnOk Tryz.prog 124 := ⟨Tryz.f124, Tryz.func124, by kernel_rfl, by kernel_rfl⟩
instance fn125 : FnOk Tryz.prog 125 := ⟨Tryz.f125, Tryz.func125, by kernel_rfl, by kernel_rfl⟩
instance fn126 : FnOk Tryz.prog 126 := ⟨Tryz.f126, Tryz.func126, by kernel_rfl, by kernel_rfl⟩
instance fn127 : FnOk Tryz.prog 127 := ⟨Tryz.f127, Tryz.func127, by kernel_rfl, by kernel_rfl⟩
instance fn128 : FnOk Tryz.prog 128 := ⟨Tryz.f128, Tryz.func128, by kernel_rfl, by kernel_rfl⟩
instance fn129 : FnOk Tryz.prog 129 := ⟨Tryz.f129, Tryz.func129, by kernel_rfl, by kernel_rfl⟩
instance fn130 : FnOk Tryz.prog 130 := ⟨Tryz.f130, Tryz.func130, by kernel_rfl, by kernel_rfl⟩
instance fn131 : FnOk Tryz.prog 131 := ⟨Tryz.f131, Tryz.func131, by kernel_rfl, by kernel_rfl⟩
instance fn132 : FnOk Tryz.prog 132 := ⟨Tryz.f132, Tryz.func132, by kernel_rfl, by kernel_rfl⟩
instance fn133 : FnOk Tryz.prog 133 := ⟨Tryz.f133, Tryz.func133, by kernel_rfl, by kernel_rfl⟩
instance fn134 : FnOk Tryz.prog 134 := ⟨Tryz.f134, Tryz.func134, by kernel_rfl, by kernel_rfl⟩
instance fn135 : FnOk Tryz.prog 135 := ⟨Tryz.f135, Tryz.func135, by kernel_rfl, by kernel_rfl⟩
instance fn136 : FnOk Tryz.prog 136 := ⟨Tryz.f136, Tryz.func136, by kernel_rfl, by kernel_rfl⟩
instance fn137 : FnOk Tryz.prog 137 := ⟨Tryz.f137, Tryz.func137, by kernel_rfl, by kernel_rfl⟩
instance fn138 : FnOk Tryz.prog 138 := ⟨Tryz.f138, Tryz.func138, by kernel_rfl, by kernel_rfl⟩
instance fn139 : FnOk Tryz.prog 139 := ⟨Tryz.f139, Tryz.func139, by kernel_rfl, by kernel_rfl⟩
instance fn141 : FnOk Tryz.prog 141 := ⟨Tryz.f141, Tryz.func141, by kernel_rfl, by kernel_rfl⟩
instance fn143 : FnOk Tryz.prog 143 := ⟨Tryz.f143, Tryz.func143, by kernel_rfl, by kernel_rfl⟩
instance fn145 : FnOk Tryz.prog 145 := ⟨Tryz.f145, Tryz.func145, by kernel_rfl, by kernel_rfl⟩
instance fn146 : FnOk Tryz.prog 146 := ⟨Tryz.f146, Tryz.func146, by kernel_rfl, by kernel_rfl⟩
instance fn147 : FnOk Tryz.prog 147 := ⟨Tryz.f147, Tryz.func147, by kernel_rfl, by kernel_rfl⟩
instance fn148 : FnOk Tryz.prog 148 := ⟨Tryz.f148, Tryz.func148, by kernel_rfl, by kernel_rfl⟩
instance fn149 : FnOk Tryz.prog 149 := ⟨Tryz.f149, Tryz.func149, by kernel_rfl, by kernel_rfl⟩
instance fn150 : FnOk Tryz.prog 150 := ⟨Tryz.f150, Tryz.func150, by kernel_rfl, by kernel_rfl⟩
instance fn151 : FnOk Tryz.prog 151 := ⟨Tryz.f151, Tryz.func151, by kernel_rfl, by kernel_rfl⟩
instance fn152 : FnOk Tryz.prog 152 := ⟨Tryz.f152, Tryz.func152, by kernel_rfl, by kernel_rfl⟩
instance fn153 : FnOk Tryz.prog 153 := ⟨Tryz.f153, Tryz.func153, by kernel_rfl, by kernel_rfl⟩
instance fn154 : FnOk Tryz.prog 154 := ⟨Tryz.f154, Tryz.func154, by kernel_rfl, by kernel_rfl⟩
instance fn155 : FnOk Tryz.prog 155 := ⟨Tryz.f155, Tryz.func155, by kernel_rfl, by kernel_rfl⟩
instance fn156 : FnOk Tryz.prog 156 := ⟨Tryz.f156, Tryz.func156, by kernel_rfl, by kernel_rfl⟩
instance fn157 : FnOk Tryz.prog 157 := ⟨Tryz.f157, Tryz.func157, by kernel_rfl, by kernel_rfl⟩
instance fn158 : FnOk Tryz.prog 158 := ⟨Tryz.f158, Tryz.func158, by kernel_rfl, by kernel_rfl⟩
instance fn159 : FnOk Tryz.prog 159 := ⟨Tryz.f159, Tryz.func159, by kernel_rfl, by kernel_rfl⟩
instance fn160 : FnOk Tryz.prog 160 := ⟨Tryz.f160, Tryz.func160, by kernel_rfl, by kernel_rfl⟩
instance fn161 : FnOk Tryz.prog 161 := ⟨Tryz.f161, Tryz.func161, by kernel_rfl, by kernel_rfl⟩
instance fn162 : FnOk Tryz.prog 162 := ⟨Tryz.f162, Tryz.func162, by kernel_rfl, by kernel_rfl⟩
instance fn163 : FnOk Tryz.prog 163 := ⟨Tryz.f163, Tryz.func163, by kernel_rfl, by kernel_rfl⟩
instance fn164 : FnOk Tryz.prog 164 := ⟨Tryz.f164, Tryz.func164, by kernel_rfl, by kernel_rfl⟩
instance fn165 : FnOk Tryz.prog 165 := ⟨Tryz.f165, Tryz.func165, by kernel_rfl, by kernel_rfl⟩
instance fn166 : FnOk Tryz.prog 166 := ⟨Tryz.f166, Tryz.func166, by kernel_rfl, by kernel_rfl⟩
instance fn180 : FnOk Tryz.prog 180 := ⟨Tryz.f180, Tryz.func180, by kernel_rfl, by kernel_rfl⟩
instance fn186 : FnOk Tryz.prog 186 := ⟨Tryz.f186, Tryz.func186, by kernel_rfl, by kernel_rfl⟩
instance fn187 : FnOk Tryz.prog 187 := ⟨Tryz.f187, Tryz.func187, by kernel_rfl, by kernel_rfl⟩
instance fn188 : FnOk Tryz.prog 188 := ⟨Tryz.f188, Tryz.func188, by kernel_rfl, by kernel_rfl⟩
instance fn189 : FnOk Tryz.prog 189 := ⟨Tryz.f189, Tryz.func189, by kernel_rfl, by kernel_rfl⟩
instance fn190 : FnOk Tryz.prog 190 := ⟨Tryz.f190, Tryz.func190, by kernel_rfl, by kernel_rfl⟩
instance fn191 : FnOk Tryz.prog 191 := ⟨Tryz.f191, Tryz.func191, by kernel_rfl, by kernel_rfl⟩
instance fn192 : FnOk Tryz.prog 192 := ⟨Tryz.f192, Tryz.func192, by kernel_rfl, by kernel_rfl⟩
instance fn193 : FnOk Tryz.prog 193 := ⟨Tryz.f193, Tryz.func193, by kernel_rfl, by kernel_rfl⟩
instance fn194 : FnOk Tryz.prog 194 := ⟨Tryz.f194, Tryz.func194, by kernel_rfl, by kernel_rfl⟩
instance fn195 : FnOk Tryz.prog 195 := ⟨Tryz.f195, Tryz.func195, by kernel_rfl, by kernel_rfl⟩
instance fn196 : FnOk Tryz.prog 196 := ⟨Tryz.f196, Tryz.func196, by kernel_rfl, by kernel_rfl⟩
instance fn197 : FnOk Tryz.prog 197 := ⟨Tryz.f197, Tryz.func197, by kernel_rfl, by kernel_rfl⟩
instance fn198 : FnOk Tryz.prog 198 := ⟨Tryz.f198, Tryz.func198, by kernel_rfl, by kernel_rfl⟩
instance fn199 : FnOk Tryz.prog 199 := ⟨Tryz.f199, Tryz.func199, by kernel_rfl, by kernel_rfl⟩
instance fn200 : FnOk Tryz.prog 200 := ⟨Tryz.f200, Tryz.func200, by kernel_rfl, by kernel_rfl⟩
instance fn205 : FnOk Tryz.prog 205 := ⟨Tryz.f205, Tryz.func205, by kernel_rfl, by kernel_rfl⟩
instance fn206 : FnOk Tryz.prog 206 := ⟨Tryz.f206, Tryz.func206, by kernel_rfl, by kernel_rfl⟩
instance fn208 : FnOk Tryz.prog 208 := ⟨Tryz.f208, Tryz.func208, by kernel_rfl, by kernel_rfl⟩
instance fn209 : FnOk Tryz.prog 209 := ⟨Tryz.f209, Tryz.func209, by kernel_rfl, by kernel_rfl⟩
end Go.Proofs.YtkieepmkcaipaaaGreat
