/- The maths of weights and moments: nothing wraps; the fan of triangles. -/
import Derived.Test.YtkieepmkcaipaaaGreatYAWt
namespace Go.Proofs.YtkieepmkcaipaaaGreat
open Go.Eng

def csum (f : Nat → Int) : Nat → Int
  | 0 => 0
  | k + 1 => csum f k + f k
def tri (l : List Pt) (i : Nat) : Int := side (cor l 0) (cor l i) (cor l (i + 1))
end Go.Proofs.YtkieepmkcaipaaaGreat
