/- Hinges: HingesOf, MeetingOf, CommonPoint, both ways. -/
import Derived.Test.YtkadjimnamcjbaaYALd
import Derived.Test.YtkadjimnamcjbaaYATh
import Derived.Test.YtkadjimnamcjbaaYIQ
namespace Go.Eng
open Go
section
variable {E : En} {bl : List (Nat × List AV)} {tm : List (Nat × AV)} {d : Option Tmp} {ty : TypeId} {pos : String} {af : Array Edge} {gd : Option (Nat × Bool)}
end
end Go.Eng
namespace Go.Proofs.Ytkadjimnamcjbaa
open Go.Eng
set_option maxRecDepth 100000
attribute [local irreducible] QV TV WL HW W CallOk Weak

structure Hg where
  j : Int
  o : Bool
  deriving DecidableEq
abbrev Hg.row (h : Hg) : List AV := [vi h.j, vb h.o]
abbrev Hg.av (h : Hg) : AV := .agg [vi h.j, vb h.o]
end Go.Proofs.Ytkadjimnamcjbaa
