/- Arrays: what the seat's types are. -/
import Derived.Test.YtkaffcdjhbaifaaZ2
import Derived.Test.YtkaffcdjhbaifaaYI
namespace Go.Proofs.Ytkaffcdjhbaifaa
open Go.Eng
instance ty9 : TyOk Try.prog 9 false 1 := ⟨fun _ => by kernel_rfl, fun _ => by kernel_rfl⟩
instance ze9 : ZeroOk Try.prog 9 (.string ⟨#[]⟩) := ⟨fun _ => by kernel_rfl⟩
instance ty117 : TyOk Try.prog 117 true 3 := ⟨fun _ => by kernel_rfl, fun _ => by kernel_rfl⟩
instance ze117 : ZeroOk Try.prog 117 (.agg #[.int .i64 0, .int .i64 0, .int .i64 0]) := ⟨fun _ => by kernel_rfl⟩
instance zc9 : ZcOk Try.prog 9 [.v (.string ⟨#[]⟩)] := ⟨_, ze9, rfl⟩
instance zc117 : ZcOk Try.prog 117 [.v (.int .i64 0), .v (.int .i64 0), .v (.int .i64 0)] := ⟨_, ze117, rfl⟩
instance ar117 : ArOk Try.prog 117 3 3 1 := ⟨Try.underlying117, by kernel_rfl⟩
end Go.Proofs.Ytkaffcdjhbaifaa
