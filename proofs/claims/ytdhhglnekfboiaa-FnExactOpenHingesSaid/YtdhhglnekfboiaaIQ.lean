/- Which types of the seat are structs of numbers and truths. -/
import Derived.Test.YtdhhglnekfboiaaI
import Derived.Test.YtdhhglnekfboiaaEQ
namespace Go.Proofs.Ytdhhglnekfboiaa
open Go.Eng
instance eq68 : FlatOk Try.prog 68 [true, true, true, true] := ⟨_, Try.underlying68, by kernel_rfl, by kernel_rfl, .int (by decide) rfl ty3 Try.underlying3 (.int (by decide) rfl ty3 Try.underlying3 (.int (by decide) rfl ty3 Try.underlying3 (.int (by decide) rfl ty3 Try.underlying3 (.nil))))⟩
instance eq69 : FlatOk Try.prog 69 [true, true, true, true] := ⟨_, Try.underlying69, by kernel_rfl, by kernel_rfl, .int (by decide) rfl ty3 Try.underlying3 (.int (by decide) rfl ty3 Try.underlying3 (.int (by decide) rfl ty3 Try.underlying3 (.int (by decide) rfl ty3 Try.underlying3 (.nil))))⟩
instance eq97 : FlatOk Try.prog 97 [true, true] := ⟨_, Try.underlying97, by kernel_rfl, by kernel_rfl, .int (by decide) rfl ty3 Try.underlying3 (.int (by decide) rfl ty3 Try.underlying3 (.nil))⟩
instance eq118 : FlatOk Try.prog 118 [true, false] := ⟨_, Try.underlying118, by kernel_rfl, by kernel_rfl, .int (by decide) rfl ty3 Try.underlying3 (.bool (by decide) rfl ty4 Try.underlying4 (.nil))⟩
instance eq123 : FlatOk Try.prog 123 [true, true, true] := ⟨_, Try.underlying123, by kernel_rfl, by kernel_rfl, .int (by decide) rfl ty3 Try.underlying3 (.int (by decide) rfl ty3 Try.underlying3 (.int (by decide) rfl ty3 Try.underlying3 (.nil)))⟩
instance eq125 : FlatOk Try.prog 125 [true, true, true] := ⟨_, Try.underlying125, by kernel_rfl, by kernel_rfl, .int (by decide) rfl ty3 Try.underlying3 (.int (by decide) rfl ty3 Try.underlying3 (.int (by decide) rfl ty3 Try.underlying3 (.nil)))⟩
instance eq133 : FlatOk Try.prog 133 [true, true] := ⟨_, Try.underlying133, by kernel_rfl, by kernel_rfl, .int (by decide) rfl ty3 Try.underlying3 (.int (by decide) rfl ty3 Try.underlying3 (.nil))⟩
instance eq141 : FlatOk Try.prog 141 [true, true, true, true] := ⟨_, Try.underlying141, by kernel_rfl, by kernel_rfl, .int (by decide) rfl ty3 Try.underlying3 (.int (by decide) rfl ty3 Try.underlying3 (.int (by decide) rfl ty3 Try.underlying3 (.int (by decide) rfl ty3 Try.underlying3 (.nil))))⟩
instance eq150 : FlatOk Try.prog 150 [true, true] := ⟨_, Try.underlying150, by kernel_rfl, by kernel_rfl, .int (by decide) rfl ty3 Try.underlying3 (.int (by decide) rfl ty3 Try.underlying3 (.nil))⟩
instance eq155 : FlatOk Try.prog 155 [true, true] := ⟨_, Try.underlying155, by kernel_rfl, by kernel_rfl, .int (by decide) rfl ty3 Try.underlying3 (.int (by decide) rfl ty3 Try.underlying3 (.nil))⟩
end Go.Proofs.Ytdhhglnekfboiaa
