/- Which types of the seat are structs of numbers and truths. -/
import Derived.Test.YtkaffcdjhbaifaaYI
import Derived.Test.YtkaffcdjhbaifaaZ2
namespace Go.Proofs.Ytkaffcdjhbaifaa
open Go.Eng
instance eq25 : FlatOk Try.prog 25 [true, true] := ⟨_, Try.underlying25, by kernel_rfl, by kernel_rfl, .int (by decide) rfl ty3 Try.underlying3 (.int (by decide) rfl ty3 Try.underlying3 (.nil))⟩
instance eq39 : FlatOk Try.prog 39 [true, true, true, true] := ⟨_, Try.underlying39, by kernel_rfl, by kernel_rfl, .int (by decide) rfl ty3 Try.underlying3 (.int (by decide) rfl ty3 Try.underlying3 (.int (by decide) rfl ty3 Try.underlying3 (.int (by decide) rfl ty3 Try.underlying3 (.nil))))⟩
instance eq50 : FlatOk Try.prog 50 [true, true, true] := ⟨_, Try.underlying50, by kernel_rfl, by kernel_rfl, .int (by decide) rfl ty3 Try.underlying3 (.int (by decide) rfl ty3 Try.underlying3 (.int (by decide) rfl ty3 Try.underlying3 (.nil)))⟩
instance eq81 : FlatOk Try.prog 81 [true, true] := ⟨_, Try.underlying81, by kernel_rfl, by kernel_rfl, .int (by decide) rfl ty3 Try.underlying3 (.int (by decide) rfl ty3 Try.underlying3 (.nil))⟩
instance eq87 : FlatOk Try.prog 87 [true, true, true] := ⟨_, Try.underlying87, by kernel_rfl, by kernel_rfl, .int (by decide) rfl ty3 Try.underlying3 (.int (by decide) rfl ty3 Try.underlying3 (.int (by decide) rfl ty3 Try.underlying3 (.nil)))⟩
instance eq91 : FlatOk Try.prog 91 [true, true, true, true] := ⟨_, Try.underlying91, by kernel_rfl, by kernel_rfl, .int (by decide) rfl ty3 Try.underlying3 (.int (by decide) rfl ty3 Try.underlying3 (.int (by decide) rfl ty3 Try.underlying3 (.int (by decide) rfl ty3 Try.underlying3 (.nil))))⟩
instance eq97 : FlatOk Try.prog 97 [true, true] := ⟨_, Try.underlying97, by kernel_rfl, by kernel_rfl, .int (by decide) rfl ty3 Try.underlying3 (.int (by decide) rfl ty3 Try.underlying3 (.nil))⟩
end Go.Proofs.Ytkaffcdjhbaifaa
