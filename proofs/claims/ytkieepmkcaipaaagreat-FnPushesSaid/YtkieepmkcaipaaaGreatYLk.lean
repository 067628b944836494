/- sync.WaitGroup's functions and types in this program. -/
import Derived.Test.YtkieepmkcaipaaaGreatYI
import Derived.Test.YtkieepmkcaipaaaGreatZ14
namespace Go.Proofs.YtkieepmkcaipaaaGreat
open Go Go.Conc.Lib
abbrev wlink : WgLink := { add := 140, done := 142, wait := 144, relMerge := 167, disable := 168, enable := 169, inBubble := 170, associate := 171, fatal := 172, uOr := 173, uAdd := 174, raceRead := 175, uLoad := 176, uStore := 177, disassociate := 178, semrelease := 179, acquire := 181, isAssociated := 182, uCas := 183, raceWrite := 184, semacquire := 185, orU64 := 201, addU64 := 202, loadU64 := 203, storeU64 := 204, casU64 := 207, tWgP := 186, tUP := 188, tAssoc := 190, tWg := 169, tAU := 166, tU64 := 164, tUint := 194, tU32 := 167, tPU32 := 195, tPAU := 209, tPU64 := 211, tNoCopy := 161, tANoCopy := 162, tAlign64 := 163 }
theorem wlib : WgLib Tryz.prog wlink := by
  constructor <;> first | kernel_rfl | (intro w; kernel_rfl)
end Go.Proofs.YtkieepmkcaipaaaGreat
