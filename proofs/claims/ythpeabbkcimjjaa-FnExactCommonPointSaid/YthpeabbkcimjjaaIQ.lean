/- Which types of the seat are structs of numbers and truths. -/
import Derived.Test.YthpeabbkcimjjaaI
import Derived.Test.YthpeabbkcimjjaaEQ
namespace Go.Proofs.Ythpeabbkcimjjaa
open Go.Eng
instance eq64 : FlatOk Try.prog 64 [true, true, true, true] := ⟨_, Try.underlying64, by kernel_rfl, by kernel_rfl, .int (by decide) rfl ty3 Try.underlying3 (.int (by decide) rfl ty3 Try.underlying3 (.int (by decide) rfl ty3 Try.underlying3 (.int (by decide) rfl ty3 Try.underlying3 (.nil))))⟩
instance eq67 : FlatOk Try.prog 67 [true, true, true, true] := ⟨_, Try.underlying67, by kernel_rfl, by kernel_rfl, .int (by decide) rfl ty3 Try.underlying3 (.int (by decide) rfl ty3 Try.underlying3 (.int (by decide) rfl ty3 Try.underlying3 (.int (by decide) rfl ty3 Try.underlying3 (.nil))))⟩
instance eq76 : FlatOk Try.prog 76 [true, true, true] := ⟨_, Try.underlying76, by kernel_rfl, by kernel_rfl, .int (by decide) rfl ty3 Try.underlying3 (.int (by decide) rfl ty3 Try.underlying3 (.int (by decide) rfl ty3 Try.underlying3 (.nil)))⟩
instance eq81 : FlatOk Try.prog 81 [true, true, true] := ⟨_, Try.underlying81, by kernel_rfl, by kernel_rfl, .int (by decide) rfl ty3 Try.underlying3 (.int (by decide) rfl ty3 Try.underlying3 (.int (by decide) rfl ty3 Try.underlying3 (.nil)))⟩
instance eq88 : FlatOk Try.prog 88 [true, true] := ⟨_, Try.underlying88, by kernel_rfl, by kernel_rfl, .int (by decide) rfl ty3 Try.underlying3 (.int (by decide) rfl ty3 Try.underlying3 (.nil))⟩
instance eq98 : FlatOk Try.prog 98 [true, true] := ⟨_, Try.underlying98, by kernel_rfl, by kernel_rfl, .int (by decide) rfl ty3 Try.underlying3 (.int (by decide) rfl ty3 Try.underlying3 (.nil))⟩
instance eq109 : FlatOk Try.prog 109 [true, true, true] := ⟨_, Try.underlying109, by kernel_rfl, by kernel_rfl, .int (by decide) rfl ty3 Try.underlying3 (.int (by decide) rfl ty3 Try.underlying3 (.int (by decide) rfl ty3 Try.underlying3 (.nil)))⟩
instance eq117 : FlatOk Try.prog 117 [true, true] := ⟨_, Try.underlying117, by kernel_rfl, by kernel_rfl, .int (by decide) rfl ty3 Try.underlying3 (.int (by decide) rfl ty3 Try.underlying3 (.nil))⟩
instance eq127 : FlatOk Try.prog 127 [true, false] := ⟨_, Try.underlying127, by kernel_rfl, by kernel_rfl, .int (by decide) rfl ty3 Try.underlying3 (.bool (by decide) rfl ty4 Try.underlying4 (.nil))⟩
instance eq145 : FlatOk Try.prog 145 [true, true, true, true] := ⟨_, Try.underlying145, by kernel_rfl, by kernel_rfl, .int (by decide) rfl ty3 Try.underlying3 (.int (by decide) rfl ty3 Try.underlying3 (.int (by decide) rfl ty3 Try.underlying3 (.int (by decide) rfl ty3 Try.underlying3 (.nil))))⟩
end Go.Proofs.Ythpeabbkcimjjaa
