/- Arrays: what the seat's types are. -/
import Derived.Test.YtkadjimnamcjbaaZ2
import Derived.Test.YtkadjimnamcjbaaYI
namespace Go.Proofs.Ytkadjimnamcjbaa
open Go.Eng
instance ty9 : TyOk Try.prog 9 false 1 := ⟨fun _ => by kernel_rfl, fun _ => by kernel_rfl⟩
instance ze9 : ZeroOk Try.prog 9 (.string ⟨#[]⟩) := ⟨fun _ => by kernel_rfl⟩
instance ty132 : TyOk Try.prog 132 false 1 := ⟨fun _ => by kernel_rfl, fun _ => by kernel_rfl⟩
instance ze132 : ZeroOk Try.prog 132 (.slice none 0 0) := ⟨fun _ => by kernel_rfl⟩
instance ty206 : TyOk Try.prog 206 true 20 := ⟨fun _ => by kernel_rfl, fun _ => by kernel_rfl⟩
instance ze206 : ZeroOk Try.prog 206 (.agg #[.int .u8 0, .int .u8 0, .int .u8 0, .int .u8 0, .int .u8 0, .int .u8 0, .int .u8 0, .int .u8 0, .int .u8 0, .int .u8 0, .int .u8 0, .int .u8 0, .int .u8 0, .int .u8 0, .int .u8 0, .int .u8 0, .int .u8 0, .int .u8 0, .int .u8 0, .int .u8 0]) := ⟨fun _ => by kernel_rfl⟩
instance ty232 : TyOk Try.prog 232 true 3 := ⟨fun _ => by kernel_rfl, fun _ => by kernel_rfl⟩
instance ze232 : ZeroOk Try.prog 232 (.agg #[.int .i64 0, .int .i64 0, .int .i64 0]) := ⟨fun _ => by kernel_rfl⟩
instance zc9 : ZcOk Try.prog 9 [.v (.string ⟨#[]⟩)] := ⟨_, ze9, rfl⟩
instance zc132 : ZcOk Try.prog 132 [.v (.slice none 0 0)] := ⟨_, ze132, rfl⟩
instance zc206 : ZcOk Try.prog 206 [.v (.int .u8 0), .v (.int .u8 0), .v (.int .u8 0), .v (.int .u8 0), .v (.int .u8 0), .v (.int .u8 0), .v (.int .u8 0), .v (.int .u8 0), .v (.int .u8 0), .v (.int .u8 0), .v (.int .u8 0), .v (.int .u8 0), .v (.int .u8 0), .v (.int .u8 0), .v (.int .u8 0), .v (.int .u8 0), .v (.int .u8 0), .v (.int .u8 0), .v (.int .u8 0), .v (.int .u8 0)] := ⟨_, ze206, rfl⟩
instance zc232 : ZcOk Try.prog 232 [.v (.int .i64 0), .v (.int .i64 0), .v (.int .i64 0)] := ⟨_, ze232, rfl⟩
theorem in132 : (Try.prog.info? 9).map (fun i => (i.zero, i.size, i.bytes)) = some (some (.string ⟨#[]⟩), 1, 16) := by kernel_rfl
instance sl132 : SlOk Try.prog 132 9 1 16 := ⟨Try.underlying132, slInfo in132 rfl, by decide⟩
instance zs132 : ZSlOk Try.prog 132 9 1 16 [.string ⟨#[]⟩] := ⟨sl132, _, ze9.zero, rfl⟩
instance ar206 : ArOk Try.prog 206 5 20 1 := ⟨Try.underlying206, by kernel_rfl⟩
instance ar232 : ArOk Try.prog 232 3 3 1 := ⟨Try.underlying232, by kernel_rfl⟩
instance fn111 : FnOk Try.prog 111 := ⟨Try.f111, Try.func111, by kernel_rfl, by kernel_rfl⟩
end Go.Proofs.Ytkadjimnamcjbaa
