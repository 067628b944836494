/- The drawn shapes, mirrored: stones again. By cases. -/
import Derived.Test.YtkadjimnamcjbaaYAMs
import Derived.Test.YtkadjimnamcjbaaYMWt
namespace Go.Proofs.Ytkadjimnamcjbaa
open Go.Eng

/-- The shapes, at the origin: of three, four, five corners. -/
def shA (w h a e : Int) : List Pt := [⟨0, 0⟩, ⟨w, a⟩, ⟨w + e, h + 1⟩]
def shB (w h a e c : Int) : List Pt := shA w h a e ++ [⟨-c, h⟩]
def shC (w h a e c : Int) : List Pt := shB w h a e c ++ [⟨-3, 1⟩]
def shR (w h : Int) : List Pt := [⟨0, 0⟩, ⟨w, 0⟩, ⟨w, h⟩, ⟨0, h⟩]
def mirOk (l : List Pt) : Bool := !stoneB l || stoneB (mirT 0 l 0)
theorem shA_all : (List.range 6).all (fun w => (List.range 6).all fun h => (List.range 2).all fun a => (List.range 3).all fun e => mirOk (shA (1 + w) (1 + h) a e)) = true := by decide +kernel
theorem shB_all : (List.range 6).all (fun w => (List.range 6).all fun h => (List.range 2).all fun a => (List.range 3).all fun e => (List.range 2).all fun c => mirOk (shB (1 + w) (1 + h) a e c)) = true := by decide +kernel
theorem shC_all : (List.range 6).all (fun w => (List.range 6).all fun h => (List.range 2).all fun a => (List.range 3).all fun e => (List.range 2).all fun c => mirOk (shC (1 + w) (1 + h) a e c)) = true := by decide +kernel
theorem shR_all : (List.range 6).all (fun w => (List.range 6).all fun h => mirOk (shR (1 + w) (1 + h))) = true := by decide +kernel
/-- Moved by (u, v). -/
def mvP (u v : Int) (p : Pt) : Pt := ⟨p.x + u, p.y + v⟩
theorem side_mv (u v : Int) (a b p : Pt) : side (mvP u v a) (mvP u v b) (mvP u v p) = side a b p := by simp only [side, mvP]; grind
end Go.Proofs.Ytkadjimnamcjbaa
