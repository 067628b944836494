/- Which types of the seat are structs of numbers and truths. -/
import Derived.Test.YtkadjimnamcjbaaYI
import Derived.Test.YtkadjimnamcjbaaZ2
namespace Go.Proofs.Ytkadjimnamcjbaa
open Go.Eng
instance eq31 : FlatOk Try.prog 31 [true, true] := ⟨_, Try.underlying31, by kernel_rfl, by kernel_rfl, .int (by decide) rfl ty3 Try.underlying3 (.int (by decide) rfl ty3 Try.underlying3 (.nil))⟩
instance eq98 : FlatOk Try.prog 98 [true, true, true, true] := ⟨_, Try.underlying98, by kernel_rfl, by kernel_rfl, .int (by decide) rfl ty3 Try.underlying3 (.int (by decide) rfl ty3 Try.underlying3 (.int (by decide) rfl ty3 Try.underlying3 (.int (by decide) rfl ty3 Try.underlying3 (.nil))))⟩
instance eq100 : FlatOk Try.prog 100 [true, true, true, true] := ⟨_, Try.underlying100, by kernel_rfl, by kernel_rfl, .int (by decide) rfl ty3 Try.underlying3 (.int (by decide) rfl ty3 Try.underlying3 (.int (by decide) rfl ty3 Try.underlying3 (.int (by decide) rfl ty3 Try.underlying3 (.nil))))⟩
instance eq145 : FlatOk Try.prog 145 [true, true, true] := ⟨_, Try.underlying145, by kernel_rfl, by kernel_rfl, .int (by decide) rfl ty3 Try.underlying3 (.int (by decide) rfl ty3 Try.underlying3 (.int (by decide) rfl ty3 Try.underlying3 (.nil)))⟩
instance eq147 : FlatOk Try.prog 147 [true, true, true] := ⟨_, Try.underlying147, by kernel_rfl, by kernel_rfl, .int (by decide) rfl ty3 Try.underlying3 (.int (by decide) rfl ty3 Try.underlying3 (.int (by decide) rfl ty3 Try.underlying3 (.nil)))⟩
instance eq151 : FlatOk Try.prog 151 [true, false] := ⟨_, Try.underlying151, by kernel_rfl, by kernel_rfl, .int (by decide) rfl ty3 Try.underlying3 (.bool (by decide) rfl ty4 Try.underlying4 (.nil))⟩
instance eq157 : FlatOk Try.prog 157 [true, true] := ⟨_, Try.underlying157, by kernel_rfl, by kernel_rfl, .int (by decide) rfl ty3 Try.underlying3 (.int (by decide) rfl ty3 Try.underlying3 (.nil))⟩
instance eq167 : FlatOk Try.prog 167 [true, true] := ⟨_, Try.underlying167, by kernel_rfl, by kernel_rfl, .int (by decide) rfl ty3 Try.underlying3 (.int (by decide) rfl ty3 Try.underlying3 (.nil))⟩
instance eq197 : FlatOk Try.prog 197 [true, true, true, true] := ⟨_, Try.underlying197, by kernel_rfl, by kernel_rfl, .int (by decide) rfl ty3 Try.underlying3 (.int (by decide) rfl ty3 Try.underlying3 (.int (by decide) rfl ty3 Try.underlying3 (.int (by decide) rfl ty3 Try.underlying3 (.nil))))⟩
instance eq216 : FlatOk Try.prog 216 [true, true] := ⟨_, Try.underlying216, by kernel_rfl, by kernel_rfl, .int (by decide) rfl ty3 Try.underlying3 (.int (by decide) rfl ty3 Try.underlying3 (.nil))⟩
end Go.Proofs.Ytkadjimnamcjbaa
