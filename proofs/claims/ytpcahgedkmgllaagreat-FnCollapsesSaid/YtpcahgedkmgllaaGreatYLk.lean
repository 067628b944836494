/- sync.WaitGroup's functions and types in this program. -/
import Derived.Test.YtpcahgedkmgllaaGreatYI
import Derived.Test.YtpcahgedkmgllaaGreatZ19
namespace Go.Proofs.YtpcahgedkmgllaaGreat
open Go Go.Conc.Lib
abbrev wlink : WgLink := { add := 48, done := 50, wait := 52, relMerge := 64, disable := 65, enable := 66, inBubble := 67, associate := 68, fatal := 69, uOr := 70, uAdd := 71, raceRead := 72, uLoad := 73, uStore := 74, disassociate := 75, semrelease := 76, acquire := 79, isAssociated := 80, uCas := 81, raceWrite := 82, semacquire := 83, orU64 := 93, addU64 := 94, loadU64 := 95, storeU64 := 96, casU64 := 101, tWgP := 115, tUP := 117, tAssoc := 119, tWg := 101, tAU := 98, tU64 := 96, tUint := 111, tU32 := 99, tPU32 := 123, tPAU := 138, tPU64 := 140, tNoCopy := 93, tANoCopy := 94, tAlign64 := 95 }
theorem wlib : WgLib Tryz.prog wlink := by
  constructor <;> first | kernel_rfl | (intro w; kernel_rfl)
end Go.Proofs.YtpcahgedkmgllaaGreat
