/- My walking engine, part 12: abstract values of Go, and the rules of a walk over them. No program in sight. -/
import Derived.Test.YtkieepmkcaipaaaGreatZ4
namespace Go.Eng
open Go Go.Conc
end Go.Eng
