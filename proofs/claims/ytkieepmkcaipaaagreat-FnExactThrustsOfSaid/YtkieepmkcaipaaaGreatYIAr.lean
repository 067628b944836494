/- Arrays: what the seat's types are. -/
import Derived.Test.YtkieepmkcaipaaaGreatZ7
import Derived.Test.YtkieepmkcaipaaaGreatYI
namespace Go.Proofs.YtkieepmkcaipaaaGreat
open Go.Eng
instance ty9 : TyOk Tryz.prog 9 false 1 := ⟨fun _ => by kernel_rfl, fun _ => by kernel_rfl⟩
instance ze9 : ZeroOk Tryz.prog 9 (.string ⟨#[]⟩) := ⟨fun _ => by kernel_rfl⟩
instance ty185 : TyOk Tryz.prog 185 true 3 := ⟨fun _ => by kernel_rfl, fun _ => by kernel_rfl⟩
instance ze185 : ZeroOk Tryz.prog 185 (.agg #[.int .i64 0, .int .i64 0, .int .i64 0]) := ⟨fun _ => by kernel_rfl⟩
instance zc9 : ZcOk Tryz.prog 9 [.v (.string ⟨#[]⟩)] := ⟨_, ze9, rfl⟩
instance zc185 : ZcOk Tryz.prog 185 [.v (.int .i64 0), .v (.int .i64 0), .v (.int .i64 0)] := ⟨_, ze185, rfl⟩
instance ar185 : ArOk Tryz.prog 185 3 3 1 := ⟨Tryz.underlying185, by kernel_rfl⟩
end Go.Proofs.YtkieepmkcaipaaaGreat
