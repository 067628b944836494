/- Which types of the seat are structs of numbers and truths. -/
import Derived.Test.YtkieepmkcaipaaaGreatYI
import Derived.Test.YtkieepmkcaipaaaGreatZ6
namespace Go.Proofs.YtkieepmkcaipaaaGreat
open Go.Eng
instance eq60 : FlatOk Tryz.prog 60 [true, true, true, true] := ⟨_, Tryz.underlying60, by kernel_rfl, by kernel_rfl, .int (by decide) rfl ty3 Tryz.underlying3 (.int (by decide) rfl ty3 Tryz.underlying3 (.int (by decide) rfl ty3 Tryz.underlying3 (.int (by decide) rfl ty3 Tryz.underlying3 (.nil))))⟩
instance eq77 : FlatOk Tryz.prog 77 [true, true] := ⟨_, Tryz.underlying77, by kernel_rfl, by kernel_rfl, .int (by decide) rfl ty3 Tryz.underlying3 (.int (by decide) rfl ty3 Tryz.underlying3 (.nil))⟩
instance eq91 : FlatOk Tryz.prog 91 [true, true, true] := ⟨_, Tryz.underlying91, by kernel_rfl, by kernel_rfl, .int (by decide) rfl ty3 Tryz.underlying3 (.int (by decide) rfl ty3 Tryz.underlying3 (.int (by decide) rfl ty3 Tryz.underlying3 (.nil)))⟩
instance eq109 : FlatOk Tryz.prog 109 [true, true, true] := ⟨_, Tryz.underlying109, by kernel_rfl, by kernel_rfl, .int (by decide) rfl ty3 Tryz.underlying3 (.int (by decide) rfl ty3 Tryz.underlying3 (.int (by decide) rfl ty3 Tryz.underlying3 (.nil)))⟩
instance eq122 : FlatOk Tryz.prog 122 [true, true] := ⟨_, Tryz.underlying122, by kernel_rfl, by kernel_rfl, .int (by decide) rfl ty3 Tryz.underlying3 (.int (by decide) rfl ty3 Tryz.underlying3 (.nil))⟩
instance eq129 : FlatOk Tryz.prog 129 [true, true, true, true] := ⟨_, Tryz.underlying129, by kernel_rfl, by kernel_rfl, .int (by decide) rfl ty3 Tryz.underlying3 (.int (by decide) rfl ty3 Tryz.underlying3 (.int (by decide) rfl ty3 Tryz.underlying3 (.int (by decide) rfl ty3 Tryz.underlying3 (.nil))))⟩
instance eq152 : FlatOk Tryz.prog 152 [true, true] := ⟨_, Tryz.underlying152, by kernel_rfl, by kernel_rfl, .int (by decide) rfl ty3 Tryz.underlying3 (.int (by decide) rfl ty3 Tryz.underlying3 (.nil))⟩
end Go.Proofs.YtkieepmkcaipaaaGreat
