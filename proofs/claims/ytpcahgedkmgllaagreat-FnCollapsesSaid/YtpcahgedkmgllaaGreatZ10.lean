/- My walking engine, part 10: abstract values of Go, and the rules of a walk over them. No program in sight. -/
import Derived.Test.YtpcahgedkmgllaaGreatZ5
import Derived.Test.YtpcahgedkmgllaaGreatZ4
namespace Go.Eng
open Go Go.Conc

section
variable {E : En} {bl : List (Nat × List AV)} {tm : List (Nat × AV)} {d : Option Tmp} {ty : TypeId} {pos : String} {af : Array Edge} {gd : Option (Nat × Bool)}
end
end Go.Eng
