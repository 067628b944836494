/- What the seat's types are: cells, fields, zeros; which functions have bodies. -/
import Derived.Test.YtkaffcdjhbaifaaZ2
import Derived.Test.YtkaffcdjhbaifaaRows
namespace Go.Proofs.Ytkaffcdjhbaifaa
open Go.Eng

theorem slInfo {P : Program} {T : Nat} {z : Value} {e by_ : Nat} (h : (P.info? T).map (fun i => (i.zero, i.size, i.bytes)) = some (some z, e, by_)) (hz : z.cells.size = e) :
    ∃ i z, P.info? T = some i ∧ i.zero = some z ∧ i.size = e ∧ i.bytes = by_ ∧ z.cells.size = e := by
  cases hi : P.info? T with
  | none => rw [hi] at h; simp at h
  | some i =>
    rw [hi] at h
    simp only [Option.map_some, Option.some.injEq, Prod.mk.injEq] at h
    exact ⟨i, z, rfl, h.1, h.2.1, h.2.2, hz⟩
instance ty1 : TyOk Try.prog 1 false 1 := ⟨fun _ => by kernel_rfl, fun _ => by kernel_rfl⟩
instance ze1 : ZeroOk Try.prog 1 (.nilFunc) := ⟨fun _ => by kernel_rfl⟩
instance ty3 : TyOk Try.prog 3 false 1 := ⟨fun _ => by kernel_rfl, fun _ => by kernel_rfl⟩
instance ze3 : ZeroOk Try.prog 3 (.int .i64 0) := ⟨fun _ => by kernel_rfl⟩
instance ty4 : TyOk Try.prog 4 false 1 := ⟨fun _ => by kernel_rfl, fun _ => by kernel_rfl⟩
instance ze4 : ZeroOk Try.prog 4 (.bool false) := ⟨fun _ => by kernel_rfl⟩
instance ty5 : TyOk Try.prog 5 false 1 := ⟨fun _ => by kernel_rfl, fun _ => by kernel_rfl⟩
instance ze5 : ZeroOk Try.prog 5 (.int .u8 0) := ⟨fun _ => by kernel_rfl⟩
instance ty22 : TyOk Try.prog 22 false 1 := ⟨fun _ => by kernel_rfl, fun _ => by kernel_rfl⟩
instance ze22 : ZeroOk Try.prog 22 (.slice none 0 0) := ⟨fun _ => by kernel_rfl⟩
instance ty23 : TyOk Try.prog 23 false 1 := ⟨fun _ => by kernel_rfl, fun _ => by kernel_rfl⟩
instance ze23 : ZeroOk Try.prog 23 (.nilFunc) := ⟨fun _ => by kernel_rfl⟩
instance ty25 : TyOk Try.prog 25 true 2 := ⟨fun _ => by kernel_rfl, fun _ => by kernel_rfl⟩
instance ze25 : ZeroOk Try.prog 25 (.agg #[.int .i64 0, .int .i64 0]) := ⟨fun _ => by kernel_rfl⟩
instance ty27 : TyOk Try.prog 27 false 1 := ⟨fun _ => by kernel_rfl, fun _ => by kernel_rfl⟩
instance ze27 : ZeroOk Try.prog 27 (.nilFunc) := ⟨fun _ => by kernel_rfl⟩
instance ty28 : TyOk Try.prog 28 false 1 := ⟨fun _ => by kernel_rfl, fun _ => by kernel_rfl⟩
instance ze28 : ZeroOk Try.prog 28 (.nilFunc) := ⟨fun _ => by kernel_rfl⟩
instance ty29 : TyOk Try.prog 29 false 1 := ⟨fun _ => by kernel_rfl, fun _ => by kernel_rfl⟩
instance ze29 : ZeroOk Try.prog 29 (.nilFunc) := ⟨fun _ => by kernel_rfl⟩
instance ty30 : TyOk Try.prog 30 false 1 := ⟨fun _ => by kernel_rfl, fun _ => by kernel_rfl⟩
instance ze30 : ZeroOk Try.prog 30 (.nilFunc) := ⟨fun _ => by kernel_rfl⟩
instance ty31 : TyOk Try.prog 31 false 1 := ⟨fun _ => by kernel_rfl, fun _ => by kernel_rfl⟩
instance ze31 : ZeroOk Try.prog 31 (.nilFunc) := ⟨fun _ => by kernel_rfl⟩
instance ty32 : TyOk Try.prog 32 false 1 := ⟨fun _ => by kernel_rfl, fun _ => by kernel_rfl⟩
instance ze32 : ZeroOk Try.prog 32 (.slice none 0 0) := ⟨fun _ => by kernel_rfl⟩
instance ty34 : TyOk Try.prog 34 true 1 := ⟨fun _ => by kernel_rfl, fun _ => by kernel_rfl⟩
instance ze34 : ZeroOk Try.prog 34 (.agg #[.slice none 0 0]) := ⟨fun _ => by kernel_rfl⟩
instance ty35 : TyOk Try.prog 35 false 1 := ⟨fun _ => by kernel_rfl, fun _ => by kernel_rfl⟩
instance ze35 : ZeroOk Try.prog 35 (.slice none 0 0) := ⟨fun _ => by kernel_rfl⟩
instance ty37 : TyOk Try.prog 37 false 1 := ⟨fun _ => by kernel_rfl, fun _ => by kernel_rfl⟩
instance ze37 : ZeroOk Try.prog 37 (.nilFunc) := ⟨fun _ => by kernel_rfl⟩
instance ty39 : TyOk Try.prog 39 true 4 := ⟨fun _ => by kernel_rfl, fun _ => by kernel_rfl⟩
instance ze39 : ZeroOk Try.prog 39 (.agg #[.int .i64 0, .int .i64 0, .int .i64 0, .int .i64 0]) := ⟨fun _ => by kernel_rfl⟩
instance ty41 : TyOk Try.prog 41 false 1 := ⟨fun _ => by kernel_rfl, fun _ => by kernel_rfl⟩
instance ze41 : ZeroOk Try.prog 41 (.nilFunc) := ⟨fun _ => by kernel_rfl⟩
instance ty43 : TyOk Try.prog 43 false 1 := ⟨fun _ => by kernel_rfl, fun _ => by kernel_rfl⟩
instance ze43 : ZeroOk Try.prog 43 (.nilFunc) := ⟨fun _ => by kernel_rfl⟩
instance ty44 : TyOk Try.prog 44 false 1 := ⟨fun _ => by kernel_rfl, fun _ => by kernel_rfl⟩
instance ze44 : ZeroOk Try.prog 44 (.nilFunc) := ⟨fun _ => by kernel_rfl⟩
instance ty46 : TyOk Try.prog 46 false 1 := ⟨fun _ => by kernel_rfl, fun _ => by kernel_rfl⟩
instance ze46 : ZeroOk Try.prog 46 (.nilFunc) := ⟨fun _ => by kernel_rfl⟩
instance ty47 : TyOk Try.prog 47 false 1 := ⟨fun _ => by kernel_rfl, fun _ => by kernel_rfl⟩
instance ze47 : ZeroOk Try.prog 47 (.nilFunc) := ⟨fun _ => by kernel_rfl⟩
instance ty48 : TyOk Try.prog 48 false 1 := ⟨fun _ => by kernel_rfl, fun _ => by kernel_rfl⟩
instance ze48 : ZeroOk Try.prog 48 (.nilFunc) := ⟨fun _ => by kernel_rfl⟩
instance ty50 : TyOk Try.prog 50 true 3 := ⟨fun _ => by kernel_rfl, fun _ => by kernel_rfl⟩
instance ze50 : ZeroOk Try.prog 50 (.agg #[.int .i64 0, .int .i64 0, .int .i64 0]) := ⟨fun _ => by kernel_rfl⟩
instance ty51 : TyOk Try.prog 51 false 1 := ⟨fun _ => by kernel_rfl, fun _ => by kernel_rfl⟩
instance ze51 : ZeroOk Try.prog 51 (.nilFunc) := ⟨fun _ => by kernel_rfl⟩
instance ty52 : TyOk Try.prog 52 false 1 := ⟨fun _ => by kernel_rfl, fun _ => by kernel_rfl⟩
instance ze52 : ZeroOk Try.prog 52 (.nilFunc) := ⟨fun _ => by kernel_rfl⟩
instance ty53 : TyOk Try.prog 53 false 1 := ⟨fun _ => by kernel_rfl, fun _ => by kernel_rfl⟩
instance ze53 : ZeroOk Try.prog 53 (.nilFunc) := ⟨fun _ => by kernel_rfl⟩
instance ty54 : TyOk Try.prog 54 false 1 := ⟨fun _ => by kernel_rfl, fun _ => by kernel_rfl⟩
instance ze54 : ZeroOk Try.prog 54 (.nilFunc) := ⟨fun _ => by kernel_rfl⟩
instance ty55 : TyOk Try.prog 55 false 1 := ⟨fun _ => by kernel_rfl, fun _ => by kernel_rfl⟩
instance ze55 : ZeroOk Try.prog 55 (.nilFunc) := ⟨fun _ => by kernel_rfl⟩
instance ty56 : TyOk Try.prog 56 false 1 := ⟨fun _ => by kernel_rfl, fun _ => by kernel_rfl⟩
instance ze56 : ZeroOk Try.prog 56 (.nilFunc) := ⟨fun _ => by kernel_rfl⟩
instance ty57 : TyOk Try.prog 57 false 1 := ⟨fun _ => by kernel_rfl, fun _ => by kernel_rfl⟩
instance ze57 : ZeroOk Try.prog 57 (.nilFunc) := ⟨fun _ => by kernel_rfl⟩
instance ty58 : TyOk Try.prog 58 false 1 := ⟨fun _ => by kernel_rfl, fun _ => by kernel_rfl⟩
instance ze58 : ZeroOk Try.prog 58 (.nilFunc) := ⟨fun _ => by kernel_rfl⟩
instance ty61 : TyOk Try.prog 61 false 1 := ⟨fun _ => by kernel_rfl, fun _ => by kernel_rfl⟩
instance ze61 : ZeroOk Try.prog 61 (.nilFunc) := ⟨fun _ => by kernel_rfl⟩
instance ty64 : TyOk Try.prog 64 false 1 := ⟨fun _ => by kernel_rfl, fun _ => by kernel_rfl⟩
instance ze64 : ZeroOk Try.prog 64 (.nilFunc) := ⟨fun _ => by kernel_rfl⟩
instance ty65 : TyOk Try.prog 65 false 1 := ⟨fun _ => by kernel_rfl, fun _ => by kernel_rfl⟩
instance ze65 : ZeroOk Try.prog 65 (.nilFunc) := ⟨fun _ => by kernel_rfl⟩
instance ty66 : TyOk Try.prog 66 false 1 := ⟨fun _ => by kernel_rfl, fun _ => by kernel_rfl⟩
instance ze66 : ZeroOk Try.prog 66 (.nilFunc) := ⟨fun _ => by kernel_rfl⟩
instance ty67 : TyOk Try.prog 67 false 1 := ⟨fun _ => by kernel_rfl, fun _ => by kernel_rfl⟩
instance ze67 : ZeroOk Try.prog 67 (.nilFunc) := ⟨fun _ => by kernel_rfl⟩
instance ty68 : TyOk Try.prog 68 false 1 := ⟨fun _ => by kernel_rfl, fun _ => by kernel_rfl⟩
instance ze68 : ZeroOk Try.prog 68 (.slice none 0 0) := ⟨fun _ => by kernel_rfl⟩
instance ty69 : TyOk Try.prog 69 false 1 := ⟨fun _ => by kernel_rfl, fun _ => by kernel_rfl⟩
instance ze69 : ZeroOk Try.prog 69 (.nilFunc) := ⟨fun _ => by kernel_rfl⟩
instance ty70 : TyOk Try.prog 70 false 1 := ⟨fun _ => by kernel_rfl, fun _ => by kernel_rfl⟩
instance ze70 : ZeroOk Try.prog 70 (.nilFunc) := ⟨fun _ => by kernel_rfl⟩
instance ty71 : TyOk Try.prog 71 false 1 := ⟨fun _ => by kernel_rfl, fun _ => by kernel_rfl⟩
instance ze71 : ZeroOk Try.prog 71 (.nilFunc) := ⟨fun _ => by kernel_rfl⟩
instance ty72 : TyOk Try.prog 72 false 1 := ⟨fun _ => by kernel_rfl, fun _ => by kernel_rfl⟩
instance ze72 : ZeroOk Try.prog 72 (.slice none 0 0) := ⟨fun _ => by kernel_rfl⟩
instance ty73 : TyOk Try.prog 73 false 1 := ⟨fun _ => by kernel_rfl, fun _ => by kernel_rfl⟩
instance ze73 : ZeroOk Try.prog 73 (.nilFunc) := ⟨fun _ => by kernel_rfl⟩
instance ty74 : TyOk Try.prog 74 false 1 := ⟨fun _ => by kernel_rfl, fun _ => by kernel_rfl⟩
instance ze74 : ZeroOk Try.prog 74 (.slice none 0 0) := ⟨fun _ => by kernel_rfl⟩
instance ty76 : TyOk Try.prog 76 false 1 := ⟨fun _ => by kernel_rfl, fun _ => by kernel_rfl⟩
instance ze76 : ZeroOk Try.prog 76 (.nilFunc) := ⟨fun _ => by kernel_rfl⟩
instance ty78 : TyOk Try.prog 78 false 1 := ⟨fun _ => by kernel_rfl, fun _ => by kernel_rfl⟩
instance ze78 : ZeroOk Try.prog 78 (.nilFunc) := ⟨fun _ => by kernel_rfl⟩
instance ty79 : TyOk Try.prog 79 false 1 := ⟨fun _ => by kernel_rfl, fun _ => by kernel_rfl⟩
instance ze79 : ZeroOk Try.prog 79 (.nilFunc) := ⟨fun _ => by kernel_rfl⟩
instance ty81 : TyOk Try.prog 81 true 2 := ⟨fun _ => by kernel_rfl, fun _ => by kernel_rfl⟩
instance ze81 : ZeroOk Try.prog 81 (.agg #[.int .i64 0, .int .i64 0]) := ⟨fun _ => by kernel_rfl⟩
instance ty83 : TyOk Try.prog 83 true 4 := ⟨fun _ => by kernel_rfl, fun _ => by kernel_rfl⟩
instance ze83 : ZeroOk Try.prog 83 (.agg #[.int .i64 0, .int .i64 0, .int .i64 0, .int .i64 0]) := ⟨fun _ => by kernel_rfl⟩
instance ty84 : TyOk Try.prog 84 false 1 := ⟨fun _ => by kernel_rfl, fun _ => by kernel_rfl⟩
instance ze84 : ZeroOk Try.prog 84 (.nilFunc) := ⟨fun _ => by kernel_rfl⟩
instance ty85 : TyOk Try.prog 85 false 1 := ⟨fun _ => by kernel_rfl, fun _ => by kernel_rfl⟩
instance ze85 : ZeroOk Try.prog 85 (.nilFunc) := ⟨fun _ => by kernel_rfl⟩
instance ty87 : TyOk Try.prog 87 true 3 := ⟨fun _ => by kernel_rfl, fun _ => by kernel_rfl⟩
instance ze87 : ZeroOk Try.prog 87 (.agg #[.int .i64 0, .int .i64 0, .int .i64 0]) := ⟨fun _ => by kernel_rfl⟩
instance ty88 : TyOk Try.prog 88 false 1 := ⟨fun _ => by kernel_rfl, fun _ => by kernel_rfl⟩
instance ze88 : ZeroOk Try.prog 88 (.nilFunc) := ⟨fun _ => by kernel_rfl⟩
instance ty89 : TyOk Try.prog 89 false 1 := ⟨fun _ => by kernel_rfl, fun _ => by kernel_rfl⟩
instance ze89 : ZeroOk Try.prog 89 (.nilFunc) := ⟨fun _ => by kernel_rfl⟩
instance ty91 : TyOk Try.prog 91 true 4 := ⟨fun _ => by kernel_rfl, fun _ => by kernel_rfl⟩
instance ze91 : ZeroOk Try.prog 91 (.agg #[.int .i64 0, .int .i64 0, .int .i64 0, .int .i64 0]) := ⟨fun _ => by kernel_rfl⟩
instance ty92 : TyOk Try.prog 92 false 1 := ⟨fun _ => by kernel_rfl, fun _ => by kernel_rfl⟩
instance ze92 : ZeroOk Try.prog 92 (.nilFunc) := ⟨fun _ => by kernel_rfl⟩
instance ty93 : TyOk Try.prog 93 false 1 := ⟨fun _ => by kernel_rfl, fun _ => by kernel_rfl⟩
instance ze93 : ZeroOk Try.prog 93 (.nilFunc) := ⟨fun _ => by kernel_rfl⟩
instance ty94 : TyOk Try.prog 94 false 1 := ⟨fun _ => by kernel_rfl, fun _ => by kernel_rfl⟩
instance ze94 : ZeroOk Try.prog 94 (.slice none 0 0) := ⟨fun _ => by kernel_rfl⟩
instance ty95 : TyOk Try.prog 95 false 1 := ⟨fun _ => by kernel_rfl, fun _ => by kernel_rfl⟩
instance ze95 : ZeroOk Try.prog 95 (.nilFunc) := ⟨fun _ => by kernel_rfl⟩
instance ty97 : TyOk Try.prog 97 true 2 := ⟨fun _ => by kernel_rfl, fun _ => by kernel_rfl⟩
instance ze97 : ZeroOk Try.prog 97 (.agg #[.int .i64 0, .int .i64 0]) := ⟨fun _ => by kernel_rfl⟩
instance ty98 : TyOk Try.prog 98 false 1 := ⟨fun _ => by kernel_rfl, fun _ => by kernel_rfl⟩
instance ze98 : ZeroOk Try.prog 98 (.nilFunc) := ⟨fun _ => by kernel_rfl⟩
instance ty99 : TyOk Try.prog 99 false 1 := ⟨fun _ => by kernel_rfl, fun _ => by kernel_rfl⟩
instance ze99 : ZeroOk Try.prog 99 (.slice none 0 0) := ⟨fun _ => by kernel_rfl⟩
instance ty101 : TyOk Try.prog 101 true 1 := ⟨fun _ => by kernel_rfl, fun _ => by kernel_rfl⟩
instance ze101 : ZeroOk Try.prog 101 (.agg #[.slice none 0 0]) := ⟨fun _ => by kernel_rfl⟩
instance ty103 : TyOk Try.prog 103 false 1 := ⟨fun _ => by kernel_rfl, fun _ => by kernel_rfl⟩
instance ze103 : ZeroOk Try.prog 103 (.nilFunc) := ⟨fun _ => by kernel_rfl⟩
instance ty104 : TyOk Try.prog 104 false 1 := ⟨fun _ => by kernel_rfl, fun _ => by kernel_rfl⟩
instance ze104 : ZeroOk Try.prog 104 (.nilFunc) := ⟨fun _ => by kernel_rfl⟩
instance ty105 : TyOk Try.prog 105 false 1 := ⟨fun _ => by kernel_rfl, fun _ => by kernel_rfl⟩
instance ze105 : ZeroOk Try.prog 105 (.nilFunc) := ⟨fun _ => by kernel_rfl⟩
instance ty106 : TyOk Try.prog 106 false 1 := ⟨fun _ => by kernel_rfl, fun _ => by kernel_rfl⟩
instance ze106 : ZeroOk Try.prog 106 (.nilFunc) := ⟨fun _ => by kernel_rfl⟩
instance ty107 : TyOk Try.prog 107 false 1 := ⟨fun _ => by kernel_rfl, fun _ => by kernel_rfl⟩
instance ze107 : ZeroOk Try.prog 107 (.nilFunc) := ⟨fun _ => by kernel_rfl⟩
instance ty108 : TyOk Try.prog 108 false 1 := ⟨fun _ => by kernel_rfl, fun _ => by kernel_rfl⟩
instance ze108 : ZeroOk Try.prog 108 (.nilFunc) := ⟨fun _ => by kernel_rfl⟩
instance ty110 : TyOk Try.prog 110 false 1 := ⟨fun _ => by kernel_rfl, fun _ => by kernel_rfl⟩
instance ze110 : ZeroOk Try.prog 110 (.nilFunc) := ⟨fun _ => by kernel_rfl⟩
instance ty111 : TyOk Try.prog 111 false 1 := ⟨fun _ => by kernel_rfl, fun _ => by kernel_rfl⟩
instance ze111 : ZeroOk Try.prog 111 (.nilFunc) := ⟨fun _ => by kernel_rfl⟩
instance ty112 : TyOk Try.prog 112 false 1 := ⟨fun _ => by kernel_rfl, fun _ => by kernel_rfl⟩
instance ze112 : ZeroOk Try.prog 112 (.nilFunc) := ⟨fun _ => by kernel_rfl⟩
instance ty113 : TyOk Try.prog 113 false 1 := ⟨fun _ => by kernel_rfl, fun _ => by kernel_rfl⟩
instance ze113 : ZeroOk Try.prog 113 (.nilFunc) := ⟨fun _ => by kernel_rfl⟩
instance ty114 : TyOk Try.prog 114 false 1 := ⟨fun _ => by kernel_rfl, fun _ => by kernel_rfl⟩
instance ze114 : ZeroOk Try.prog 114 (.nilFunc) := ⟨fun _ => by kernel_rfl⟩
instance ty115 : TyOk Try.prog 115 false 1 := ⟨fun _ => by kernel_rfl, fun _ => by kernel_rfl⟩
instance ze115 : ZeroOk Try.prog 115 (.nilFunc) := ⟨fun _ => by kernel_rfl⟩
instance ty116 : TyOk Try.prog 116 false 1 := ⟨fun _ => by kernel_rfl, fun _ => by kernel_rfl⟩
instance ze116 : ZeroOk Try.prog 116 (.nilFunc) := ⟨fun _ => by kernel_rfl⟩
instance ty118 : TyOk Try.prog 118 false 1 := ⟨fun _ => by kernel_rfl, fun _ => by kernel_rfl⟩
instance ze118 : ZeroOk Try.prog 118 (.nilFunc) := ⟨fun _ => by kernel_rfl⟩
instance ty119 : TyOk Try.prog 119 false 1 := ⟨fun _ => by kernel_rfl, fun _ => by kernel_rfl⟩
instance ze119 : ZeroOk Try.prog 119 (.nilFunc) := ⟨fun _ => by kernel_rfl⟩
instance ty120 : TyOk Try.prog 120 false 1 := ⟨fun _ => by kernel_rfl, fun _ => by kernel_rfl⟩
instance ze120 : ZeroOk Try.prog 120 (.nilFunc) := ⟨fun _ => by kernel_rfl⟩
instance ty121 : TyOk Try.prog 121 false 1 := ⟨fun _ => by kernel_rfl, fun _ => by kernel_rfl⟩
instance ze121 : ZeroOk Try.prog 121 (.nilFunc) := ⟨fun _ => by kernel_rfl⟩
instance ty122 : TyOk Try.prog 122 false 1 := ⟨fun _ => by kernel_rfl, fun _ => by kernel_rfl⟩
instance ze122 : ZeroOk Try.prog 122 (.nilFunc) := ⟨fun _ => by kernel_rfl⟩
instance ty123 : TyOk Try.prog 123 false 1 := ⟨fun _ => by kernel_rfl, fun _ => by kernel_rfl⟩
instance ze123 : ZeroOk Try.prog 123 (.nilFunc) := ⟨fun _ => by kernel_rfl⟩
instance ty124 : TyOk Try.prog 124 false 1 := ⟨fun _ => by kernel_rfl, fun _ => by kernel_rfl⟩
instance ze124 : ZeroOk Try.prog 124 (.int .u64 0) := ⟨fun _ => by kernel_rfl⟩
instance ty125 : TyOk Try.prog 125 false 1 := ⟨fun _ => by kernel_rfl, fun _ => by kernel_rfl⟩
instance ze125 : ZeroOk Try.prog 125 (.nilFunc) := ⟨fun _ => by kernel_rfl⟩
instance ty126 : TyOk Try.prog 126 false 1 := ⟨fun _ => by kernel_rfl, fun _ => by kernel_rfl⟩
instance ze126 : ZeroOk Try.prog 126 (.nilFunc) := ⟨fun _ => by kernel_rfl⟩
instance ty127 : TyOk Try.prog 127 false 1 := ⟨fun _ => by kernel_rfl, fun _ => by kernel_rfl⟩
instance ze127 : ZeroOk Try.prog 127 (.nilFunc) := ⟨fun _ => by kernel_rfl⟩
instance ty128 : TyOk Try.prog 128 false 1 := ⟨fun _ => by kernel_rfl, fun _ => by kernel_rfl⟩
instance ze128 : ZeroOk Try.prog 128 (.nilFunc) := ⟨fun _ => by kernel_rfl⟩
instance ty134 : TyOk Try.prog 134 false 1 := ⟨fun _ => by kernel_rfl, fun _ => by kernel_rfl⟩
instance ze134 : ZeroOk Try.prog 134 (.nilFunc) := ⟨fun _ => by kernel_rfl⟩
instance ty138 : TyOk Try.prog 138 false 1 := ⟨fun _ => by kernel_rfl, fun _ => by kernel_rfl⟩
instance ze138 : ZeroOk Try.prog 138 (.nilFunc) := ⟨fun _ => by kernel_rfl⟩
instance ty144 : TyOk Try.prog 144 false 1 := ⟨fun _ => by kernel_rfl, fun _ => by kernel_rfl⟩
instance ze144 : ZeroOk Try.prog 144 (.nilFunc) := ⟨fun _ => by kernel_rfl⟩
instance zc1 : ZcOk Try.prog 1 [.v (.nilFunc)] := ⟨_, ze1, rfl⟩
instance zc3 : ZcOk Try.prog 3 [.v (.int .i64 0)] := ⟨_, ze3, rfl⟩
instance zc4 : ZcOk Try.prog 4 [.v (.bool false)] := ⟨_, ze4, rfl⟩
instance zc5 : ZcOk Try.prog 5 [.v (.int .u8 0)] := ⟨_, ze5, rfl⟩
instance zc22 : ZcOk Try.prog 22 [.v (.slice none 0 0)] := ⟨_, ze22, rfl⟩
instance zc23 : ZcOk Try.prog 23 [.v (.nilFunc)] := ⟨_, ze23, rfl⟩
instance fl25_0 : FldOk Try.prog 25 0 0 false 1 := ⟨⟨_, _, Try.underlying25, rfl, rfl, ty3⟩, by decide⟩
instance fl25_1 : FldOk Try.prog 25 1 1 false 1 := ⟨⟨_, _, Try.underlying25, rfl, rfl, ty3⟩, by decide⟩
instance zc25 : ZcOk Try.prog 25 [.v (.int .i64 0), .v (.int .i64 0)] := ⟨_, ze25, rfl⟩
instance bl25 : BldOk Try.prog 25 [.int .i64 0, .int .i64 0] [(0, 1), (1, 1)] := ⟨_, _, ze25.zero, rfl, Try.underlying25, fun _ => by kernel_rfl⟩
instance zc27 : ZcOk Try.prog 27 [.v (.nilFunc)] := ⟨_, ze27, rfl⟩
instance zc28 : ZcOk Try.prog 28 [.v (.nilFunc)] := ⟨_, ze28, rfl⟩
instance zc29 : ZcOk Try.prog 29 [.v (.nilFunc)] := ⟨_, ze29, rfl⟩
instance zc30 : ZcOk Try.prog 30 [.v (.nilFunc)] := ⟨_, ze30, rfl⟩
instance zc31 : ZcOk Try.prog 31 [.v (.nilFunc)] := ⟨_, ze31, rfl⟩
instance zc32 : ZcOk Try.prog 32 [.v (.slice none 0 0)] := ⟨_, ze32, rfl⟩
instance fl34_0 : FldOk Try.prog 34 0 0 false 1 := ⟨⟨_, _, Try.underlying34, rfl, rfl, ty32⟩, by decide⟩
instance zc34 : ZcOk Try.prog 34 [.v (.slice none 0 0)] := ⟨_, ze34, rfl⟩
instance bl34 : BldOk Try.prog 34 [.slice none 0 0] [(0, 1)] := ⟨_, _, ze34.zero, rfl, Try.underlying34, fun _ => by kernel_rfl⟩
instance zc35 : ZcOk Try.prog 35 [.v (.slice none 0 0)] := ⟨_, ze35, rfl⟩
instance zc37 : ZcOk Try.prog 37 [.v (.nilFunc)] := ⟨_, ze37, rfl⟩
instance fl39_0 : FldOk Try.prog 39 0 0 false 1 := ⟨⟨_, _, Try.underlying39, rfl, rfl, ty3⟩, by decide⟩
instance fl39_1 : FldOk Try.prog 39 1 1 false 1 := ⟨⟨_, _, Try.underlying39, rfl, rfl, ty3⟩, by decide⟩
instance fl39_2 : FldOk Try.prog 39 2 2 false 1 := ⟨⟨_, _, Try.underlying39, rfl, rfl, ty3⟩, by decide⟩
instance fl39_3 : FldOk Try.prog 39 3 3 false 1 := ⟨⟨_, _, Try.underlying39, rfl, rfl, ty3⟩, by decide⟩
instance zc39 : ZcOk Try.prog 39 [.v (.int .i64 0), .v (.int .i64 0), .v (.int .i64 0), .v (.int .i64 0)] := ⟨_, ze39, rfl⟩
instance bl39 : BldOk Try.prog 39 [.int .i64 0, .int .i64 0, .int .i64 0, .int .i64 0] [(0, 1), (1, 1), (2, 1), (3, 1)] := ⟨_, _, ze39.zero, rfl, Try.underlying39, fun _ => by kernel_rfl⟩
instance zc41 : ZcOk Try.prog 41 [.v (.nilFunc)] := ⟨_, ze41, rfl⟩
instance zc43 : ZcOk Try.prog 43 [.v (.nilFunc)] := ⟨_, ze43, rfl⟩
instance zc44 : ZcOk Try.prog 44 [.v (.nilFunc)] := ⟨_, ze44, rfl⟩
instance zc46 : ZcOk Try.prog 46 [.v (.nilFunc)] := ⟨_, ze46, rfl⟩
instance zc47 : ZcOk Try.prog 47 [.v (.nilFunc)] := ⟨_, ze47, rfl⟩
instance zc48 : ZcOk Try.prog 48 [.v (.nilFunc)] := ⟨_, ze48, rfl⟩
instance fl50_0 : FldOk Try.prog 50 0 0 false 1 := ⟨⟨_, _, Try.underlying50, rfl, rfl, ty3⟩, by decide⟩
instance fl50_1 : FldOk Try.prog 50 1 1 false 1 := ⟨⟨_, _, Try.underlying50, rfl, rfl, ty3⟩, by decide⟩
instance fl50_2 : FldOk Try.prog 50 2 2 false 1 := ⟨⟨_, _, Try.underlying50, rfl, rfl, ty3⟩, by decide⟩
instance zc50 : ZcOk Try.prog 50 [.v (.int .i64 0), .v (.int .i64 0), .v (.int .i64 0)] := ⟨_, ze50, rfl⟩
instance bl50 : BldOk Try.prog 50 [.int .i64 0, .int .i64 0, .int .i64 0] [(0, 1), (1, 1), (2, 1)] := ⟨_, _, ze50.zero, rfl, Try.underlying50, fun _ => by kernel_rfl⟩
instance zc51 : ZcOk Try.prog 51 [.v (.nilFunc)] := ⟨_, ze51, rfl⟩
instance zc52 : ZcOk Try.prog 52 [.v (.nilFunc)] := ⟨_, ze52, rfl⟩
instance zc53 : ZcOk Try.prog 53 [.v (.nilFunc)] := ⟨_, ze53, rfl⟩
instance zc54 : ZcOk Try.prog 54 [.v (.nilFunc)] := ⟨_, ze54, rfl⟩
instance zc55 : ZcOk Try.prog 55 [.v (.nilFunc)] := ⟨_, ze55, rfl⟩
instance zc56 : ZcOk Try.prog 56 [.v (.nilFunc)] := ⟨_, ze56, rfl⟩
instance zc57 : ZcOk Try.prog 57 [.v (.nilFunc)] := ⟨_, ze57, rfl⟩
instance zc58 : ZcOk Try.prog 58 [.v (.nilFunc)] := ⟨_, ze58, rfl⟩
instance zc61 : ZcOk Try.prog 61 [.v (.nilFunc)] := ⟨_, ze61, rfl⟩
instance zc64 : ZcOk Try.prog 64 [.v (.nilFunc)] := ⟨_, ze64, rfl⟩
instance zc65 : ZcOk Try.prog 65 [.v (.nilFunc)] := ⟨_, ze65, rfl⟩
instance zc66 : ZcOk Try.prog 66 [.v (.nilFunc)] := ⟨_, ze66, rfl⟩
instance zc67 : ZcOk Try.prog 67 [.v (.nilFunc)] := ⟨_, ze67, rfl⟩
instance zc68 : ZcOk Try.prog 68 [.v (.slice none 0 0)] := ⟨_, ze68, rfl⟩
instance zc69 : ZcOk Try.prog 69 [.v (.nilFunc)] := ⟨_, ze69, rfl⟩
instance zc70 : ZcOk Try.prog 70 [.v (.nilFunc)] := ⟨_, ze70, rfl⟩
instance zc71 : ZcOk Try.prog 71 [.v (.nilFunc)] := ⟨_, ze71, rfl⟩
instance zc72 : ZcOk Try.prog 72 [.v (.slice none 0 0)] := ⟨_, ze72, rfl⟩
instance zc73 : ZcOk Try.prog 73 [.v (.nilFunc)] := ⟨_, ze73, rfl⟩
instance zc74 : ZcOk Try.prog 74 [.v (.slice none 0 0)] := ⟨_, ze74, rfl⟩
instance zc76 : ZcOk Try.prog 76 [.v (.nilFunc)] := ⟨_, ze76, rfl⟩
instance zc78 : ZcOk Try.prog 78 [.v (.nilFunc)] := ⟨_, ze78, rfl⟩
instance zc79 : ZcOk Try.prog 79 [.v (.nilFunc)] := ⟨_, ze79, rfl⟩
instance fl81_0 : FldOk Try.prog 81 0 0 false 1 := ⟨⟨_, _, Try.underlying81, rfl, rfl, ty3⟩, by decide⟩
instance fl81_1 : FldOk Try.prog 81 1 1 false 1 := ⟨⟨_, _, Try.underlying81, rfl, rfl, ty3⟩, by decide⟩
instance zc81 : ZcOk Try.prog 81 [.v (.int .i64 0), .v (.int .i64 0)] := ⟨_, ze81, rfl⟩
instance bl81 : BldOk Try.prog 81 [.int .i64 0, .int .i64 0] [(0, 1), (1, 1)] := ⟨_, _, ze81.zero, rfl, Try.underlying81, fun _ => by kernel_rfl⟩
instance fl83_0 : FldOk Try.prog 83 0 0 true 2 := ⟨⟨_, _, Try.underlying83, rfl, rfl, ty81⟩, by decide⟩
instance fl83_1 : FldOk Try.prog 83 1 2 true 2 := ⟨⟨_, _, Try.underlying83, rfl, rfl, ty81⟩, by decide⟩
instance zc83 : ZcOk Try.prog 83 [.v (.int .i64 0), .v (.int .i64 0), .v (.int .i64 0), .v (.int .i64 0)] := ⟨_, ze83, rfl⟩
instance bl83 : BldOk Try.prog 83 [.int .i64 0, .int .i64 0, .int .i64 0, .int .i64 0] [(0, 2), (2, 2)] := ⟨_, _, ze83.zero, rfl, Try.underlying83, fun _ => by kernel_rfl⟩
instance zc84 : ZcOk Try.prog 84 [.v (.nilFunc)] := ⟨_, ze84, rfl⟩
instance zc85 : ZcOk Try.prog 85 [.v (.nilFunc)] := ⟨_, ze85, rfl⟩
instance fl87_0 : FldOk Try.prog 87 0 0 false 1 := ⟨⟨_, _, Try.underlying87, rfl, rfl, ty3⟩, by decide⟩
instance fl87_1 : FldOk Try.prog 87 1 1 false 1 := ⟨⟨_, _, Try.underlying87, rfl, rfl, ty3⟩, by decide⟩
instance fl87_2 : FldOk Try.prog 87 2 2 false 1 := ⟨⟨_, _, Try.underlying87, rfl, rfl, ty3⟩, by decide⟩
instance zc87 : ZcOk Try.prog 87 [.v (.int .i64 0), .v (.int .i64 0), .v (.int .i64 0)] := ⟨_, ze87, rfl⟩
instance bl87 : BldOk Try.prog 87 [.int .i64 0, .int .i64 0, .int .i64 0] [(0, 1), (1, 1), (2, 1)] := ⟨_, _, ze87.zero, rfl, Try.underlying87, fun _ => by kernel_rfl⟩
instance zc88 : ZcOk Try.prog 88 [.v (.nilFunc)] := ⟨_, ze88, rfl⟩
instance zc89 : ZcOk Try.prog 89 [.v (.nilFunc)] := ⟨_, ze89, rfl⟩
instance fl91_0 : FldOk Try.prog 91 0 0 false 1 := ⟨⟨_, _, Try.underlying91, rfl, rfl, ty3⟩, by decide⟩
instance fl91_1 : FldOk Try.prog 91 1 1 false 1 := ⟨⟨_, _, Try.underlying91, rfl, rfl, ty3⟩, by decide⟩
instance fl91_2 : FldOk Try.prog 91 2 2 false 1 := ⟨⟨_, _, Try.underlying91, rfl, rfl, ty3⟩, by decide⟩
instance fl91_3 : FldOk Try.prog 91 3 3 false 1 := ⟨⟨_, _, Try.underlying91, rfl, rfl, ty3⟩, by decide⟩
instance zc91 : ZcOk Try.prog 91 [.v (.int .i64 0), .v (.int .i64 0), .v (.int .i64 0), .v (.int .i64 0)] := ⟨_, ze91, rfl⟩
instance bl91 : BldOk Try.prog 91 [.int .i64 0, .int .i64 0, .int .i64 0, .int .i64 0] [(0, 1), (1, 1), (2, 1), (3, 1)] := ⟨_, _, ze91.zero, rfl, Try.underlying91, fun _ => by kernel_rfl⟩
instance zc92 : ZcOk Try.prog 92 [.v (.nilFunc)] := ⟨_, ze92, rfl⟩
instance zc93 : ZcOk Try.prog 93 [.v (.nilFunc)] := ⟨_, ze93, rfl⟩
instance zc94 : ZcOk Try.prog 94 [.v (.slice none 0 0)] := ⟨_, ze94, rfl⟩
instance zc95 : ZcOk Try.prog 95 [.v (.nilFunc)] := ⟨_, ze95, rfl⟩
instance fl97_0 : FldOk Try.prog 97 0 0 false 1 := ⟨⟨_, _, Try.underlying97, rfl, rfl, ty3⟩, by decide⟩
instance fl97_1 : FldOk Try.prog 97 1 1 false 1 := ⟨⟨_, _, Try.underlying97, rfl, rfl, ty3⟩, by decide⟩
instance zc97 : ZcOk Try.prog 97 [.v (.int .i64 0), .v (.int .i64 0)] := ⟨_, ze97, rfl⟩
instance bl97 : BldOk Try.prog 97 [.int .i64 0, .int .i64 0] [(0, 1), (1, 1)] := ⟨_, _, ze97.zero, rfl, Try.underlying97, fun _ => by kernel_rfl⟩
instance zc98 : ZcOk Try.prog 98 [.v (.nilFunc)] := ⟨_, ze98, rfl⟩
instance zc99 : ZcOk Try.prog 99 [.v (.slice none 0 0)] := ⟨_, ze99, rfl⟩
instance fl101_0 : FldOk Try.prog 101 0 0 false 1 := ⟨⟨_, _, Try.underlying101, rfl, rfl, ty99⟩, by decide⟩
instance zc101 : ZcOk Try.prog 101 [.v (.slice none 0 0)] := ⟨_, ze101, rfl⟩
instance bl101 : BldOk Try.prog 101 [.slice none 0 0] [(0, 1)] := ⟨_, _, ze101.zero, rfl, Try.underlying101, fun _ => by kernel_rfl⟩
instance zc103 : ZcOk Try.prog 103 [.v (.nilFunc)] := ⟨_, ze103, rfl⟩
instance zc104 : ZcOk Try.prog 104 [.v (.nilFunc)] := ⟨_, ze104, rfl⟩
instance zc105 : ZcOk Try.prog 105 [.v (.nilFunc)] := ⟨_, ze105, rfl⟩
instance zc106 : ZcOk Try.prog 106 [.v (.nilFunc)] := ⟨_, ze106, rfl⟩
instance zc107 : ZcOk Try.prog 107 [.v (.nilFunc)] := ⟨_, ze107, rfl⟩
instance zc108 : ZcOk Try.prog 108 [.v (.nilFunc)] := ⟨_, ze108, rfl⟩
instance zc110 : ZcOk Try.prog 110 [.v (.nilFunc)] := ⟨_, ze110, rfl⟩
instance zc111 : ZcOk Try.prog 111 [.v (.nilFunc)] := ⟨_, ze111, rfl⟩
instance zc112 : ZcOk Try.prog 112 [.v (.nilFunc)] := ⟨_, ze112, rfl⟩
instance zc113 : ZcOk Try.prog 113 [.v (.nilFunc)] := ⟨_, ze113, rfl⟩
instance zc114 : ZcOk Try.prog 114 [.v (.nilFunc)] := ⟨_, ze114, rfl⟩
instance zc115 : ZcOk Try.prog 115 [.v (.nilFunc)] := ⟨_, ze115, rfl⟩
instance zc116 : ZcOk Try.prog 116 [.v (.nilFunc)] := ⟨_, ze116, rfl⟩
instance zc118 : ZcOk Try.prog 118 [.v (.nilFunc)] := ⟨_, ze118, rfl⟩
instance zc119 : ZcOk Try.prog 119 [.v (.nilFunc)] := ⟨_, ze119, rfl⟩
instance zc120 : ZcOk Try.prog 120 [.v (.nilFunc)] := ⟨_, ze120, rfl⟩
instance zc121 : ZcOk Try.prog 121 [.v (.nilFunc)] := ⟨_, ze121, rfl⟩
instance zc122 : ZcOk Try.prog 122 [.v (.nilFunc)] := ⟨_, ze122, rfl⟩
instance zc123 : ZcOk Try.prog 123 [.v (.nilFunc)] := ⟨_, ze123, rfl⟩
instance zc124 : ZcOk Try.prog 124 [.v (.int .u64 0)] := ⟨_, ze124, rfl⟩
instance zc125 : ZcOk Try.prog 125 [.v (.nilFunc)] := ⟨_, ze125, rfl⟩
instance zc126 : ZcOk Try.prog 126 [.v (.nilFunc)] := ⟨_, ze126, rfl⟩
instance zc127 : ZcOk Try.prog 127 [.v (.nilFunc)] := ⟨_, ze127, rfl⟩
instance zc128 : ZcOk Try.prog 128 [.v (.nilFunc)] := ⟨_, ze128, rfl⟩
instance zc134 : ZcOk Try.prog 134 [.v (.nilFunc)] := ⟨_, ze134, rfl⟩
instance zc138 : ZcOk Try.prog 138 [.v (.nilFunc)] := ⟨_, ze138, rfl⟩
instance zc144 : ZcOk Try.prog 144 [.v (.nilFunc)] := ⟨_, ze144, rfl⟩
theorem in22 : (Try.prog.info? 5).map (fun i => (i.zero, i.size, i.bytes)) = some (some (.int .u8 0), 1, 1) := by kernel_rfl
instance sl22 : SlOk Try.prog 22 5 1 1 := ⟨Try.underlying22, slInfo in22 rfl, by decide⟩
instance zs22 : ZSlOk Try.prog 22 5 1 1 [.int .u8 0] := ⟨sl22, _, ze5.zero, rfl⟩
theorem in32 : (Try.prog.info? 83).map (fun i => (i.zero, i.size, i.bytes)) = some (some (.agg #[.int .i64 0, .int .i64 0, .int .i64 0, .int .i64 0]), 4, 32) := by kernel_rfl
instance sl32 : SlOk Try.prog 32 83 4 32 := ⟨Try.underlying32, slInfo in32 rfl, by decide⟩
instance zs32 : ZSlOk Try.prog 32 83 4 32 [.int .i64 0, .int .i64 0, .int .i64 0, .int .i64 0] := ⟨sl32, _, ze83.zero, rfl⟩
theorem in35 : (Try.prog.info? 87).map (fun i => (i.zero, i.size, i.bytes)) = some (some (.agg #[.int .i64 0, .int .i64 0, .int .i64 0]), 3, 24) := by kernel_rfl
instance sl35 : SlOk Try.prog 35 87 3 24 := ⟨Try.underlying35, slInfo in35 rfl, by decide⟩
instance zs35 : ZSlOk Try.prog 35 87 3 24 [.int .i64 0, .int .i64 0, .int .i64 0] := ⟨sl35, _, ze87.zero, rfl⟩
theorem in68 : (Try.prog.info? 39).map (fun i => (i.zero, i.size, i.bytes)) = some (some (.agg #[.int .i64 0, .int .i64 0, .int .i64 0, .int .i64 0]), 4, 32) := by kernel_rfl
instance sl68 : SlOk Try.prog 68 39 4 32 := ⟨Try.underlying68, slInfo in68 rfl, by decide⟩
instance zs68 : ZSlOk Try.prog 68 39 4 32 [.int .i64 0, .int .i64 0, .int .i64 0, .int .i64 0] := ⟨sl68, _, ze39.zero, rfl⟩
theorem in72 : (Try.prog.info? 91).map (fun i => (i.zero, i.size, i.bytes)) = some (some (.agg #[.int .i64 0, .int .i64 0, .int .i64 0, .int .i64 0]), 4, 32) := by kernel_rfl
instance sl72 : SlOk Try.prog 72 91 4 32 := ⟨Try.underlying72, slInfo in72 rfl, by decide⟩
instance zs72 : ZSlOk Try.prog 72 91 4 32 [.int .i64 0, .int .i64 0, .int .i64 0, .int .i64 0] := ⟨sl72, _, ze91.zero, rfl⟩
theorem in74 : (Try.prog.info? 3).map (fun i => (i.zero, i.size, i.bytes)) = some (some (.int .i64 0), 1, 8) := by kernel_rfl
instance sl74 : SlOk Try.prog 74 3 1 8 := ⟨Try.underlying74, slInfo in74 rfl, by decide⟩
instance zs74 : ZSlOk Try.prog 74 3 1 8 [.int .i64 0] := ⟨sl74, _, ze3.zero, rfl⟩
theorem in94 : (Try.prog.info? 97).map (fun i => (i.zero, i.size, i.bytes)) = some (some (.agg #[.int .i64 0, .int .i64 0]), 2, 16) := by kernel_rfl
instance sl94 : SlOk Try.prog 94 97 2 16 := ⟨Try.underlying94, slInfo in94 rfl, by decide⟩
instance zs94 : ZSlOk Try.prog 94 97 2 16 [.int .i64 0, .int .i64 0] := ⟨sl94, _, ze97.zero, rfl⟩
theorem in99 : (Try.prog.info? 81).map (fun i => (i.zero, i.size, i.bytes)) = some (some (.agg #[.int .i64 0, .int .i64 0]), 2, 16) := by kernel_rfl
instance sl99 : SlOk Try.prog 99 81 2 16 := ⟨Try.underlying99, slInfo in99 rfl, by decide⟩
instance zs99 : ZSlOk Try.prog 99 81 2 16 [.int .i64 0, .int .i64 0] := ⟨sl99, _, ze81.zero, rfl⟩
instance fn3 : FnOk Try.prog 3 := ⟨Try.f3, Try.func3, by kernel_rfl, by kernel_rfl⟩
instance fn4 : FnOk Try.prog 4 := ⟨Try.f4, Try.func4, by kernel_rfl, by kernel_rfl⟩
instance fn5 : FnOk Try.prog 5 := ⟨Try.f5, Try.func5, by kernel_rfl, by kernel_rfl⟩
instance fn6 : FnOk Try.prog 6 := ⟨Try.f6, Try.func6, by kernel_rfl, by kernel_rfl⟩
instance fn7 : FnOk Try.prog 7 := ⟨Try.f7, Try.func7, by kernel_rfl, by kernel_rfl⟩
instance fn8 : FnOk Try.prog 8 := ⟨Try.f8, Try.func8, by kernel_rfl, by kernel_rfl⟩
instance fn9 : FnOk Try.prog 9 := ⟨Try.f9, Try.func9, by kernel_rfl, by kernel_rfl⟩
instance fn10 : FnOk Try.prog 10 := ⟨Try.f10, Try.func10, by kernel_rfl, by kernel_rfl⟩
instance fn11 : FnOk Try.prog 11 := ⟨Try.f11, Try.func11, by kernel_rfl, by kernel_rfl⟩
instance fn12 : FnOk Try.prog 12 := ⟨Try.f12, Try.func12, by kernel_rfl, by kernel_rfl⟩
instance fn13 : FnOk Try.prog 13 := ⟨Try.f13, Try.func13, by kernel_rfl, by kernel_rfl⟩
instance fn14 : FnOk Try.prog 14 := ⟨Try.f14, Try.func14, by kernel_rfl, by kernel_rfl⟩
instance fn15 : FnOk Try.prog 15 := ⟨Try.f15, Try.func15, by kernel_rfl, by kernel_rfl⟩
instance fn16 : FnOk Try.prog 16 := ⟨Try.f16, Try.func16, by kernel_rfl, by kernel_rfl⟩
instance fn17 : FnOk Try.prog 17 := ⟨Try.f17, Try.func17, by kernel_rfl, by kernel_rfl⟩
instance fn18 : FnOk Try.prog 18 := ⟨Try.f18, Try.func18, by kernel_rfl, by kernel_rfl⟩
instance fn19 : FnOk Try.prog 19 := ⟨Try.f19, Try.func19, by kernel_rfl, by kernel_rfl⟩
instance fn20 : FnOk Try.prog 20 := ⟨Try.f20, Try.func20, by kernel_rfl, by kernel_rfl⟩
instance fn21 : FnOk Try.prog 21 := ⟨Try.f21, Try.func21, by kernel_rfl, by kernel_rfl⟩
instance fn22 : FnOk Try.prog 22 := ⟨Try.f22, Try.func22, by kernel_rfl, by kernel_rfl⟩
instance fn23 : FnOk Try.prog 23 := ⟨Try.f23, Try.func23, by kernel_rfl, by kernel_rfl⟩
instance fn24 : FnOk Try.prog 24 := ⟨Try.f24, Try.func24, by kernel_rfl, by kernel_rfl⟩
instance fn25 : FnOk Try.prog 25 := ⟨Try.f25, Try.func25, by kernel_rfl, by kernel_rfl⟩
instance fn26 : FnOk Try.prog 26 := ⟨Try.f26, Try.func26, by kernel_rfl, by kernel_rfl⟩
instance fn27 : FnOk Try.prog 27 := ⟨Try.f27, Try.func27, by kernel_rfl, by kernel_rfl⟩
instance fn28 : FnOk Try.prog 28 := ⟨Try.f28, Try.func28, by kernel_rfl, by kernel_rfl⟩
instance fn29 : FnOk Try.prog 29 := ⟨Try.f29, Try.func29, by kernel_rfl, by kernel_rfl⟩
instance fn30 : FnOk Try.prog 30 := ⟨Try.f30, Try.func30, by kernel_rfl, by kernel_rfl⟩
instance fn31 : FnOk Try.prog 31 := ⟨Try.f31, Try.func31, by kernel_rfl, by kernel_rfl⟩
instance fn32 : FnOk Try.prog 32 := ⟨Try.f32, Try.func32, by kernel_rfl, by kernel_rfl⟩
instance fn33 : FnOk Try.prog 33 := ⟨Try.f33, Try.func33, by kernel_rfl, by kernel_rfl⟩
instance fn34 : FnOk Try.prog 34 := ⟨Try.f34, Try.func34, by kernel_rfl, by kernel_rfl⟩
instance fn35 : FnOk Try.prog 35 := ⟨Try.f35, Try.func35, by kernel_rfl, by kernel_rfl⟩
instance fn36 : FnOk Try.prog 36 := ⟨Try.f36, Try.func36, by kernel_rfl, by kernel_rfl⟩
instance fn37 : FnOk Try.prog 37 := ⟨Try.f37, Try.func37, by kernel_rfl, by kernel_rfl⟩
instance fn38 : FnOk Try.prog 38 := ⟨Try.f38, Try.func38, by kernel_rfl, by kernel_rfl⟩
instance fn39 : FnOk Try.prog 39 := ⟨Try.f39, Try.func39, by kernel_rfl, by kernel_rfl⟩
instance fn40 : FnOk Try.prog 40 := ⟨Try.f40, Try.func40, by kernel_rfl, by kernel_rfl⟩
instance fn41 : FnOk Try.prog 41 := ⟨Try.f41, Try.func41, by kernel_rfl, by kernel_rfl⟩
instance fn42 : FnOk Try.prog 42 := ⟨Try.f42, Try.func42, by kernel_rfl, by kernel_rfl⟩
instance fn43 : FnOk Try.prog 43 := ⟨Try.f43, Try.func43, by kernel_rfl, by kernel_rfl⟩
instance fn44 : FnOk Try.prog 44 := ⟨Try.f44, Try.func44, by kernel_rfl, by kernel_rfl⟩
instance fn45 : FnOk Try.prog 45 := ⟨Try.f45, Try.func45, by kernel_rfl, by kernel_rfl⟩
instance fn46 : FnOk Try.prog 46 := ⟨Try.f46, Try.func46, by kernel_rfl, by kernel_rfl⟩
instance fn47 : FnOk Try.prog 47 := ⟨Try.f47, Try.func47, by kernel_rfl, by kernel_rfl⟩
instance fn48 : FnOk Try.prog 48 := ⟨Try.f48, Try.func48, by kernel_rfl, by kernel_rfl⟩
instance fn49 : FnOk Try.prog 49 := ⟨Try.f49, Try.func49, by kernel_rfl, by kernel_rfl⟩
instance fn50 : FnOk Try.prog 50 := ⟨Try.f50, Try.func50, by kernel_rfl, by kernel_rfl⟩
instance fn51 : FnOk Try.prog 51 := ⟨Try.f51, Try.func51, by kernel_rfl, by kernel_rfl⟩
instance fn52 : FnOk Try.prog 52 := ⟨Try.f52, Try.func52, by kernel_rfl, by kernel_rfl⟩
instance fn53 : FnOk Try.prog 53 := ⟨Try.f53, Try.func53, by kernel_rfl, by kernel_rfl⟩
instance fn54 : FnOk Try.prog 54 := ⟨Try.f54, Try.func54, by kernel_rfl, by kernel_rfl⟩
instance fn55 : FnOk Try.prog 55 := ⟨Try.f55, Try.func55, by kernel_rfl, by kernel_rfl⟩
instance fn56 : FnOk Try.prog 56 := ⟨Try.f56, Try.func56, by kernel_rfl, by kernel_rfl⟩
instance fn57 : FnOk Try.prog 57 := ⟨Try.f57, Try.func57, by kernel_rfl, by kernel_rfl⟩
instance fn58 : FnOk Try.prog 58 := ⟨Try.f58, Try.func58, by kernel_rfl, by kernel_rfl⟩
instance fn59 : FnOk Try.prog 59 := ⟨Try.f59, Try.func59, by kernel_rfl, by kernel_rfl⟩
instance fn60 : FnOk Try.prog 60 := ⟨Try.f60, Try.func60, by kernel_rfl, by kernel_rfl⟩
instance fn61 : FnOk Try.prog 61 := ⟨Try.f61, Try.func61, by kernel_rfl, by kernel_rfl⟩
instance fn62 : FnOk Try.prog 62 := ⟨Try.f62, Try.func62, by kernel_rfl, by kernel_rfl⟩
instance fn63 : FnOk Try.prog 63 := ⟨Try.f63, Try.func63, by kernel_rfl, by kernel_rfl⟩
instance fn64 : FnOk Try.prog 64 := ⟨Try.f64, Try.func64, by kernel_rfl, by kernel_rfl⟩
instance fn65 : FnOk Try.prog 65 := ⟨Try.f65, Try.func65, by kernel_rfl, by kernel_rfl⟩
instance fn66 : FnOk Try.prog 66 := ⟨Try.f66, Try.func66, by kernel_rfl, by kernel_rfl⟩
instance fn67 : FnOk Try.prog 67 := ⟨Try.f67, Try.func67, by kernel_rfl, by kernel_rfl⟩
instance fn68 : FnOk Try.prog 68 := ⟨Try.f68, Try.func68, by kernel_rfl, by kernel_rfl⟩
instance fn69 : FnOk Try.prog 69 := ⟨Try.f69, Try.func69, by kernel_rfl, by kernel_rfl⟩
instance fn70 : FnOk Try.prog 70 := ⟨Try.f70, Try.func70, by kernel_rfl, by kernel_rfl⟩
instance fn71 : FnOk Try.prog 71 := ⟨Try.f71, Try.func71, by kernel_rfl, by kernel_rfl⟩
instance fn72 : FnOk Try.prog 72 := ⟨Try.f72, Try.func72, by kernel_rfl, by kernel_rfl⟩
instance fn73 : FnOk Try.prog 73 := ⟨Try.f73, Try.func73, by kernel_rfl, by kernel_rfl⟩
instance fn74 : FnOk Try.prog 74 := ⟨Try.f74, Try.func74, by kernel_rfl, by kernel_rfl⟩
instance fn75 : FnOk Try.prog 75 := ⟨Try.f75, Try.func75, by kernel_rfl, by kernel_rfl⟩
instance fn76 : FnOk Try.prog 76 := ⟨Try.f76, Try.func76, by kernel_rfl, by kernel_rfl⟩
instance fn77 : FnOk Try.prog 77 := ⟨Try.f77, Try.func77, by kernel_rfl, by kernel_rfl⟩
instance fn78 : FnOk Try.prog 78 := ⟨Try.f78, Try.func78, by kernel_rfl, by kernel_rfl⟩
instance fn79 : FnOk Try.prog 79 := ⟨Try.f79, Try.func79, by kernel_rfl, by kernel_rfl⟩
instance fn80 : FnOk Try.prog 80 := ⟨Try.f80, Try.func80, by kernel_rfl, by kernel_rfl⟩
instance fn81 : FnOk Try.prog 81 := ⟨Try.f81, Try.func81, by kernel_rfl, by kernel_rfl⟩
instance fn82 : FnOk Try.prog 82 := ⟨Try.f82, Try.func82, by kernel_rfl, by kernel_rfl⟩
instance fn83 : FnOk Try.prog 83 := ⟨Try.f83, Try.func83, by kernel_rfl, by kernel_rfl⟩
instance fn84 : FnOk Try.prog 84 := ⟨Try.f84, Try.func84, by kernel_rfl, by kernel_rfl⟩
instance fn85 : FnOk Try.prog 85 := ⟨Try.f85, Try.func85, by kernel_rfl, by kernel_rfl⟩
instance fn86 : FnOk Try.prog 86 := ⟨Try.f86, Try.func86, by kernel_rfl, by kernel_rfl⟩
instance fn87 : FnOk Try.prog 87 := ⟨Try.f87, Try.func87, by kernel_rfl, by kernel_rfl⟩
instance fn88 : FnOk Try.prog 88 := ⟨Try.f88, Try.func88, by kernel_rfl, by kernel_rfl⟩
end Go.Proofs.Ytkaffcdjhbaifaa
