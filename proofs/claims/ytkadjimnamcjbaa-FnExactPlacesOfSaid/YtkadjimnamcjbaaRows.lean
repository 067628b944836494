/-
  No cell of these rows narrows 'for every input' (looked for: loops, veiled, ifaces, maps, wideKeys, modest, calm, conditions, laid).
  DERIVED. THE GIVEN ROWS OF THIS SEAT. 12 by the template 'for every input the law returns true; each argument reads behind the call as it read before'; 0 by the template 'total and deterministic' (their statements: YtkadjimnamcjbaaTotals.lean).
  GIVEN WITH THE SEED: the statements are not yours to turn. If you find one false, say at which input.
  Laid BY PROGRAM, IN A SANDBOX (cutbox-rows.mjs): the forced cells as the released guide's own fill.sh prints them over the translation 2935c3c89ebb916a… (all of the seat's roots in one cut). By AI agents, Wed Nov 11 2026. No macro, syntax, notation, axiom, sorry.
-/
import Derived.Test.YtkadjimnamcjbaaChecked
import GoSem.Claim
import GoSem.ClaimJoined
import GoSem.ClaimMapViews
import Derived.JoinedTies
import Derived.KernelRfl
namespace Go.Proofs.Ytkadjimnamcjbaa
/- THE CELL 'sum', in the pinned program and in every row, IS THE sha256 OF THE DUMP (.gsa) THAT YtkadjimnamcjbaaProg.lean LOADS. Nothing in Lean hashes anything: it is a label: what it is worth is what the hold of that sum in a sandbox is worth. -/
noncomputable def Try.pinned : Pinned := { name := "ytkadjimnamcjbaa", sum := "2935c3c89ebb916a6b63f1d5dabe69d6d3d296ed01523c9cf63036b2e8f410bd", checked := Try.checked }
namespace Rows
def none {H : Type} : Left H := { results := [], args := [] }

/-- 'laws.FnWeights': WHATEVER THE INPUT: true; the input reads as it did. -/
def fnWeightsSpec : ChangeSpec := { name := "fnWeights", fn := fun _ => fun
  | [d] => { results := [.lit (.bool true)], args := [d] }
  | _ => none }
def fnWeightsRow : OpenClaim := { program := "ytkadjimnamcjbaa", sum := "2935c3c89ebb916a6b63f1d5dabe69d6d3d296ed01523c9cf63036b2e8f410bd", func := "loop.example/g03301/laws.FnWeights", spec := "fnWeights", unfollowed := true, recurses := true, apart := false }
def FnWeightsSaid : Prop := fnWeightsRow.holds Try.pinned (OpenSpec.ofChange fnWeightsSpec)

/-- ITS FALSE NEIGHBOUR: 'it returns false'. Refute it at one input. -/
def fnWeightsWrong : ChangeSpec := { name := "fnWeights", fn := fun _ => fun
  | [d] => { results := [.lit (.bool false)], args := [d] }
  | _ => none }
def FnWeightsWrongFalsely : Prop := fnWeightsRow.holds Try.pinned (OpenSpec.ofChange fnWeightsWrong)

/-- 'laws.FnExactMirrorStone': WHATEVER THE INPUT: true; the input reads as it did. -/
def fnExactMirrorStoneSpec : ChangeSpec := { name := "fnExactMirrorStone", fn := fun _ => fun
  | [d1, d2] => { results := [.lit (.bool true)], args := [d1, d2] }
  | _ => none }
def fnExactMirrorStoneRow : OpenClaim := { program := "ytkadjimnamcjbaa", sum := "2935c3c89ebb916a6b63f1d5dabe69d6d3d296ed01523c9cf63036b2e8f410bd", func := "loop.example/g03301/laws.FnExactMirrorStone", spec := "fnExactMirrorStone", unfollowed := true, recurses := true, apart := false }
def FnExactMirrorStoneSaid : Prop := fnExactMirrorStoneRow.holds Try.pinned (OpenSpec.ofChange fnExactMirrorStoneSpec)

/-- ITS FALSE NEIGHBOUR: 'it returns false'. Refute it at one input. -/
def fnExactMirrorStoneWrong : ChangeSpec := { name := "fnExactMirrorStone", fn := fun _ => fun
  | [d1, d2] => { results := [.lit (.bool false)], args := [d1, d2] }
  | _ => none }
def FnExactMirrorStoneWrongFalsely : Prop := fnExactMirrorStoneRow.holds Try.pinned (OpenSpec.ofChange fnExactMirrorStoneWrong)

/-- 'laws.FnJoints': WHATEVER THE INPUT: true; the input reads as it did. -/
def fnJointsSpec : ChangeSpec := { name := "fnJoints", fn := fun _ => fun
  | [d] => { results := [.lit (.bool true)], args := [d] }
  | _ => none }
def fnJointsRow : OpenClaim := { program := "ytkadjimnamcjbaa", sum := "2935c3c89ebb916a6b63f1d5dabe69d6d3d296ed01523c9cf63036b2e8f410bd", func := "loop.example/g03301/laws.FnJoints", spec := "fnJoints", unfollowed := true, recurses := true, apart := false }
def FnJointsSaid : Prop := fnJointsRow.holds Try.pinned (OpenSpec.ofChange fnJointsSpec)

/-- ITS FALSE NEIGHBOUR: 'it returns false'. Refute it at one input. -/
def fnJointsWrong : ChangeSpec := { name := "fnJoints", fn := fun _ => fun
  | [d] => { results := [.lit (.bool false)], args := [d] }
  | _ => none }
def FnJointsWrongFalsely : Prop := fnJointsRow.holds Try.pinned (OpenSpec.ofChange fnJointsWrong)

/-- 'laws.FnExactStoneText': WHATEVER THE INPUT: true; the input reads as it did. -/
def fnExactStoneTextSpec : ChangeSpec := { name := "fnExactStoneText", fn := fun _ => fun
  | [d] => { results := [.lit (.bool true)], args := [d] }
  | _ => none }
def fnExactStoneTextRow : OpenClaim := { program := "ytkadjimnamcjbaa", sum := "2935c3c89ebb916a6b63f1d5dabe69d6d3d296ed01523c9cf63036b2e8f410bd", func := "loop.example/g03301/laws.FnExactStoneText", spec := "fnExactStoneText", inPlace := ["internal/abi.NoEscape", "internal/bytealg.MakeNoZero"], unfollowed := true, recurses := true, apart := false }
def FnExactStoneTextSaid : Prop := fnExactStoneTextRow.holds Try.pinned (OpenSpec.ofChange fnExactStoneTextSpec)

/-- ITS FALSE NEIGHBOUR: 'it returns false'. Refute it at one input. -/
def fnExactStoneTextWrong : ChangeSpec := { name := "fnExactStoneText", fn := fun _ => fun
  | [d] => { results := [.lit (.bool false)], args := [d] }
  | _ => none }
def FnExactStoneTextWrongFalsely : Prop := fnExactStoneTextRow.holds Try.pinned (OpenSpec.ofChange fnExactStoneTextWrong)

/-- 'laws.FnExactMirrorArch': WHATEVER THE INPUT: true; the input reads as it did. -/
def fnExactMirrorArchSpec : ChangeSpec := { name := "fnExactMirrorArch", fn := fun _ => fun
  | [d1, d2] => { results := [.lit (.bool true)], args := [d1, d2] }
  | _ => none }
def fnExactMirrorArchRow : OpenClaim := { program := "ytkadjimnamcjbaa", sum := "2935c3c89ebb916a6b63f1d5dabe69d6d3d296ed01523c9cf63036b2e8f410bd", func := "loop.example/g03301/laws.FnExactMirrorArch", spec := "fnExactMirrorArch", unfollowed := true, recurses := true, apart := false }
def FnExactMirrorArchSaid : Prop := fnExactMirrorArchRow.holds Try.pinned (OpenSpec.ofChange fnExactMirrorArchSpec)

/-- ITS FALSE NEIGHBOUR: 'it returns false'. Refute it at one input. -/
def fnExactMirrorArchWrong : ChangeSpec := { name := "fnExactMirrorArch", fn := fun _ => fun
  | [d1, d2] => { results := [.lit (.bool false)], args := [d1, d2] }
  | _ => none }
def FnExactMirrorArchWrongFalsely : Prop := fnExactMirrorArchRow.holds Try.pinned (OpenSpec.ofChange fnExactMirrorArchWrong)

/-- 'laws.FnStones': WHATEVER THE INPUT: true; the input reads as it did. -/
def fnStonesSpec : ChangeSpec := { name := "fnStones", fn := fun _ => fun
  | [d] => { results := [.lit (.bool true)], args := [d] }
  | _ => none }
def fnStonesRow : OpenClaim := { program := "ytkadjimnamcjbaa", sum := "2935c3c89ebb916a6b63f1d5dabe69d6d3d296ed01523c9cf63036b2e8f410bd", func := "loop.example/g03301/laws.FnStones", spec := "fnStones", inPlace := ["internal/abi.NoEscape", "internal/bytealg.MakeNoZero"], unfollowed := true, recurses := true, apart := false }
def FnStonesSaid : Prop := fnStonesRow.holds Try.pinned (OpenSpec.ofChange fnStonesSpec)

/-- ITS FALSE NEIGHBOUR: 'it returns false'. Refute it at one input. -/
def fnStonesWrong : ChangeSpec := { name := "fnStones", fn := fun _ => fun
  | [d] => { results := [.lit (.bool false)], args := [d] }
  | _ => none }
def FnStonesWrongFalsely : Prop := fnStonesRow.holds Try.pinned (OpenSpec.ofChange fnStonesWrong)

/-- 'laws.FnExactMirrorLoads': WHATEVER THE INPUT: true; the input reads as it did. -/
def fnExactMirrorLoadsSpec : ChangeSpec := { name := "fnExactMirrorLoads", fn := fun _ => fun
  | [d1, d2, d3] => { results := [.lit (.bool true)], args := [d1, d2, d3] }
  | _ => none }
def fnExactMirrorLoadsRow : OpenClaim := { program := "ytkadjimnamcjbaa", sum := "2935c3c89ebb916a6b63f1d5dabe69d6d3d296ed01523c9cf63036b2e8f410bd", func := "loop.example/g03301/laws.FnExactMirrorLoads", spec := "fnExactMirrorLoads", unfollowed := true, recurses := true, apart := false }
def FnExactMirrorLoadsSaid : Prop := fnExactMirrorLoadsRow.holds Try.pinned (OpenSpec.ofChange fnExactMirrorLoadsSpec)

/-- ITS FALSE NEIGHBOUR: 'it returns false'. Refute it at one input. -/
def fnExactMirrorLoadsWrong : ChangeSpec := { name := "fnExactMirrorLoads", fn := fun _ => fun
  | [d1, d2, d3] => { results := [.lit (.bool false)], args := [d1, d2, d3] }
  | _ => none }
def FnExactMirrorLoadsWrongFalsely : Prop := fnExactMirrorLoadsRow.holds Try.pinned (OpenSpec.ofChange fnExactMirrorLoadsWrong)

/-- 'laws.FnExactHingesOf': WHATEVER THE INPUT: true; the input reads as it did. -/
def fnExactHingesOfSpec : ChangeSpec := { name := "fnExactHingesOf", fn := fun _ => fun
  | [d1, d2] => { results := [.lit (.bool true)], args := [d1, d2] }
  | _ => none }
def fnExactHingesOfRow : OpenClaim := { program := "ytkadjimnamcjbaa", sum := "2935c3c89ebb916a6b63f1d5dabe69d6d3d296ed01523c9cf63036b2e8f410bd", func := "loop.example/g03301/laws.FnExactHingesOf", spec := "fnExactHingesOf", unfollowed := true, recurses := true, apart := false }
def FnExactHingesOfSaid : Prop := fnExactHingesOfRow.holds Try.pinned (OpenSpec.ofChange fnExactHingesOfSpec)

/-- ITS FALSE NEIGHBOUR: 'it returns false'. Refute it at one input. -/
def fnExactHingesOfWrong : ChangeSpec := { name := "fnExactHingesOf", fn := fun _ => fun
  | [d1, d2] => { results := [.lit (.bool false)], args := [d1, d2] }
  | _ => none }
def FnExactHingesOfWrongFalsely : Prop := fnExactHingesOfRow.holds Try.pinned (OpenSpec.ofChange fnExactHingesOfWrong)

/-- 'laws.FnExactArchText': WHATEVER THE INPUT: true; the input reads as it did. -/
def fnExactArchTextSpec : ChangeSpec := { name := "fnExactArchText", fn := fun _ => fun
  | [d] => { results := [.lit (.bool true)], args := [d] }
  | _ => none }
def fnExactArchTextRow : OpenClaim := { program := "ytkadjimnamcjbaa", sum := "2935c3c89ebb916a6b63f1d5dabe69d6d3d296ed01523c9cf63036b2e8f410bd", func := "loop.example/g03301/laws.FnExactArchText", spec := "fnExactArchText", inPlace := ["internal/abi.NoEscape", "internal/bytealg.MakeNoZero"], unfollowed := true, recurses := true, apart := false }
def FnExactArchTextSaid : Prop := fnExactArchTextRow.holds Try.pinned (OpenSpec.ofChange fnExactArchTextSpec)

/-- ITS FALSE NEIGHBOUR: 'it returns false'. Refute it at one input. -/
def fnExactArchTextWrong : ChangeSpec := { name := "fnExactArchText", fn := fun _ => fun
  | [d] => { results := [.lit (.bool false)], args := [d] }
  | _ => none }
def FnExactArchTextWrongFalsely : Prop := fnExactArchTextRow.holds Try.pinned (OpenSpec.ofChange fnExactArchTextWrong)

/-- 'laws.FnExactTouchedJoints': WHATEVER THE INPUT: true; the input reads as it did. -/
def fnExactTouchedJointsSpec : ChangeSpec := { name := "fnExactTouchedJoints", fn := fun _ => fun
  | [d1, d2, d3] => { results := [.lit (.bool true)], args := [d1, d2, d3] }
  | _ => none }
def fnExactTouchedJointsRow : OpenClaim := { program := "ytkadjimnamcjbaa", sum := "2935c3c89ebb916a6b63f1d5dabe69d6d3d296ed01523c9cf63036b2e8f410bd", func := "loop.example/g03301/laws.FnExactTouchedJoints", spec := "fnExactTouchedJoints", unfollowed := true, recurses := true, apart := false }
def FnExactTouchedJointsSaid : Prop := fnExactTouchedJointsRow.holds Try.pinned (OpenSpec.ofChange fnExactTouchedJointsSpec)

/-- ITS FALSE NEIGHBOUR: 'it returns false'. Refute it at one input. -/
def fnExactTouchedJointsWrong : ChangeSpec := { name := "fnExactTouchedJoints", fn := fun _ => fun
  | [d1, d2, d3] => { results := [.lit (.bool false)], args := [d1, d2, d3] }
  | _ => none }
def FnExactTouchedJointsWrongFalsely : Prop := fnExactTouchedJointsRow.holds Try.pinned (OpenSpec.ofChange fnExactTouchedJointsWrong)

/-- 'laws.FnExactPlacesOf': WHATEVER THE INPUT: true; the input reads as it did. -/
def fnExactPlacesOfSpec : ChangeSpec := { name := "fnExactPlacesOf", fn := fun _ => fun
  | [d1, d2, d3] => { results := [.lit (.bool true)], args := [d1, d2, d3] }
  | _ => none }
def fnExactPlacesOfRow : OpenClaim := { program := "ytkadjimnamcjbaa", sum := "2935c3c89ebb916a6b63f1d5dabe69d6d3d296ed01523c9cf63036b2e8f410bd", func := "loop.example/g03301/laws.FnExactPlacesOf", spec := "fnExactPlacesOf", unfollowed := true, recurses := true, apart := false }
def FnExactPlacesOfSaid : Prop := fnExactPlacesOfRow.holds Try.pinned (OpenSpec.ofChange fnExactPlacesOfSpec)

/-- ITS FALSE NEIGHBOUR: 'it returns false'. Refute it at one input. -/
def fnExactPlacesOfWrong : ChangeSpec := { name := "fnExactPlacesOf", fn := fun _ => fun
  | [d1, d2, d3] => { results := [.lit (.bool false)], args := [d1, d2, d3] }
  | _ => none }
def FnExactPlacesOfWrongFalsely : Prop := fnExactPlacesOfRow.holds Try.pinned (OpenSpec.ofChange fnExactPlacesOfWrong)

/-- 'laws.FnExactCollapseOf': WHATEVER THE INPUT: true; the input reads as it did. -/
def fnExactCollapseOfSpec : ChangeSpec := { name := "fnExactCollapseOf", fn := fun _ => fun
  | [d1, d2] => { results := [.lit (.bool true)], args := [d1, d2] }
  | _ => none }
def fnExactCollapseOfRow : OpenClaim := { program := "ytkadjimnamcjbaa", sum := "2935c3c89ebb916a6b63f1d5dabe69d6d3d296ed01523c9cf63036b2e8f410bd", func := "loop.example/g03301/laws.FnExactCollapseOf", spec := "fnExactCollapseOf", unfollowed := true, recurses := true, apart := false }
def FnExactCollapseOfSaid : Prop := fnExactCollapseOfRow.holds Try.pinned (OpenSpec.ofChange fnExactCollapseOfSpec)

/-- ITS FALSE NEIGHBOUR: 'it returns false'. Refute it at one input. -/
def fnExactCollapseOfWrong : ChangeSpec := { name := "fnExactCollapseOf", fn := fun _ => fun
  | [d1, d2] => { results := [.lit (.bool false)], args := [d1, d2] }
  | _ => none }
def FnExactCollapseOfWrongFalsely : Prop := fnExactCollapseOfRow.holds Try.pinned (OpenSpec.ofChange fnExactCollapseOfWrong)

/- THE SECOND FORM. 'bulk': how many values and letters a reading holds, each counted each time it is reached (what is shared counts as often as it is met; a slice's spare places count too). A statement '..UptoSaid' is the law's where the arguments, and the package variables that the reading takes, are together of bulk at most 1048576: NARROWER than '..Said'. Prove '..Said' where nothing that the law and all that it calls make is longer than what came in: it says more and counts as full. Else prove '..UptoSaid'. A law counts once. -/
mutual
def uptoBulk {H : Type} : DataW H → Nat
  | .lit (.string bytes) => bytes.length + 1
  | .lit _ => 1
  | .nil => 1
  | .ptr d => uptoBulk d + 1
  | .slice elems spare => uptoBulkAll elems + uptoBulkAll spare + 1
  | .agg parts => uptoBulkAll parts + 1
  | .iface _ d => uptoBulk d + 1
  | .map entries => uptoBulkEntries entries + 1
  | .held _ => 1
def uptoBulkAll {H : Type} : List (DataW H) → Nat
  | [] => 0
  | d :: r => uptoBulk d + uptoBulkAll r
def uptoBulkEntries {H : Type} : List (Lit × DataW H) → Nat
  | [] => 0
  | x :: r => uptoBulkEntry x + uptoBulkEntries r
def uptoBulkEntry {H : Type} : Lit × DataW H → Nat
  | (.string bytes, d) => bytes.length + uptoBulk d + 1
  | (_, d) => uptoBulk d + 1
 end
def uptoSmall : (H : Type) → List (DataW H) → Bool := fun _ ds => decide (uptoBulkAll ds ≤ 1048576)
def OpenSpec.upto (s : _root_.Go.ChangeSpec) : _root_.Go.OpenSpec := { _root_.Go.OpenSpec.ofChange s with cond := some uptoSmall }

/-- 'laws.FnWeights', WHERE WHAT IT READS IS OF BULK AT MOST 1048576: true; the input reads as it did. -/
def fnWeightsUptoRow : OpenClaim := { program := "ytkadjimnamcjbaa", sum := "2935c3c89ebb916a6b63f1d5dabe69d6d3d296ed01523c9cf63036b2e8f410bd", func := "loop.example/g03301/laws.FnWeights", spec := "fnWeights", unfollowed := true, recurses := true, apart := false, narrowed := true }
def FnWeightsUptoSaid : Prop := fnWeightsUptoRow.holds Try.pinned (OpenSpec.upto fnWeightsSpec)

/-- 'laws.FnExactMirrorStone', WHERE WHAT IT READS IS OF BULK AT MOST 1048576: true; the input reads as it did. -/
def fnExactMirrorStoneUptoRow : OpenClaim := { program := "ytkadjimnamcjbaa", sum := "2935c3c89ebb916a6b63f1d5dabe69d6d3d296ed01523c9cf63036b2e8f410bd", func := "loop.example/g03301/laws.FnExactMirrorStone", spec := "fnExactMirrorStone", unfollowed := true, recurses := true, apart := false, narrowed := true }
def FnExactMirrorStoneUptoSaid : Prop := fnExactMirrorStoneUptoRow.holds Try.pinned (OpenSpec.upto fnExactMirrorStoneSpec)

/-- 'laws.FnJoints', WHERE WHAT IT READS IS OF BULK AT MOST 1048576: true; the input reads as it did. -/
def fnJointsUptoRow : OpenClaim := { program := "ytkadjimnamcjbaa", sum := "2935c3c89ebb916a6b63f1d5dabe69d6d3d296ed01523c9cf63036b2e8f410bd", func := "loop.example/g03301/laws.FnJoints", spec := "fnJoints", unfollowed := true, recurses := true, apart := false, narrowed := true }
def FnJointsUptoSaid : Prop := fnJointsUptoRow.holds Try.pinned (OpenSpec.upto fnJointsSpec)

/-- 'laws.FnExactStoneText', WHERE WHAT IT READS IS OF BULK AT MOST 1048576: true; the input reads as it did. -/
def fnExactStoneTextUptoRow : OpenClaim := { program := "ytkadjimnamcjbaa", sum := "2935c3c89ebb916a6b63f1d5dabe69d6d3d296ed01523c9cf63036b2e8f410bd", func := "loop.example/g03301/laws.FnExactStoneText", spec := "fnExactStoneText", inPlace := ["internal/abi.NoEscape", "internal/bytealg.MakeNoZero"], unfollowed := true, recurses := true, apart := false, narrowed := true }
def FnExactStoneTextUptoSaid : Prop := fnExactStoneTextUptoRow.holds Try.pinned (OpenSpec.upto fnExactStoneTextSpec)

/-- 'laws.FnExactMirrorArch', WHERE WHAT IT READS IS OF BULK AT MOST 1048576: true; the input reads as it did. -/
def fnExactMirrorArchUptoRow : OpenClaim := { program := "ytkadjimnamcjbaa", sum := "2935c3c89ebb916a6b63f1d5dabe69d6d3d296ed01523c9cf63036b2e8f410bd", func := "loop.example/g03301/laws.FnExactMirrorArch", spec := "fnExactMirrorArch", unfollowed := true, recurses := true, apart := false, narrowed := true }
def FnExactMirrorArchUptoSaid : Prop := fnExactMirrorArchUptoRow.holds Try.pinned (OpenSpec.upto fnExactMirrorArchSpec)

/-- 'laws.FnStones', WHERE WHAT IT READS IS OF BULK AT MOST 1048576: true; the input reads as it did. -/
def fnStonesUptoRow : OpenClaim := { program := "ytkadjimnamcjbaa", sum := "2935c3c89ebb916a6b63f1d5dabe69d6d3d296ed01523c9cf63036b2e8f410bd", func := "loop.example/g03301/laws.FnStones", spec := "fnStones", inPlace := ["internal/abi.NoEscape", "internal/bytealg.MakeNoZero"], unfollowed := true, recurses := true, apart := false, narrowed := true }
def FnStonesUptoSaid : Prop := fnStonesUptoRow.holds Try.pinned (OpenSpec.upto fnStonesSpec)

/-- 'laws.FnExactMirrorLoads', WHERE WHAT IT READS IS OF BULK AT MOST 1048576: true; the input reads as it did. -/
def fnExactMirrorLoadsUptoRow : OpenClaim := { program := "ytkadjimnamcjbaa", sum := "2935c3c89ebb916a6b63f1d5dabe69d6d3d296ed01523c9cf63036b2e8f410bd", func := "loop.example/g03301/laws.FnExactMirrorLoads", spec := "fnExactMirrorLoads", unfollowed := true, recurses := true, apart := false, narrowed := true }
def FnExactMirrorLoadsUptoSaid : Prop := fnExactMirrorLoadsUptoRow.holds Try.pinned (OpenSpec.upto fnExactMirrorLoadsSpec)

/-- 'laws.FnExactHingesOf', WHERE WHAT IT READS IS OF BULK AT MOST 1048576: true; the input reads as it did. -/
def fnExactHingesOfUptoRow : OpenClaim := { program := "ytkadjimnamcjbaa", sum := "2935c3c89ebb916a6b63f1d5dabe69d6d3d296ed01523c9cf63036b2e8f410bd", func := "loop.example/g03301/laws.FnExactHingesOf", spec := "fnExactHingesOf", unfollowed := true, recurses := true, apart := false, narrowed := true }
def FnExactHingesOfUptoSaid : Prop := fnExactHingesOfUptoRow.holds Try.pinned (OpenSpec.upto fnExactHingesOfSpec)

/-- 'laws.FnExactArchText', WHERE WHAT IT READS IS OF BULK AT MOST 1048576: true; the input reads as it did. -/
def fnExactArchTextUptoRow : OpenClaim := { program := "ytkadjimnamcjbaa", sum := "2935c3c89ebb916a6b63f1d5dabe69d6d3d296ed01523c9cf63036b2e8f410bd", func := "loop.example/g03301/laws.FnExactArchText", spec := "fnExactArchText", inPlace := ["internal/abi.NoEscape", "internal/bytealg.MakeNoZero"], unfollowed := true, recurses := true, apart := false, narrowed := true }
def FnExactArchTextUptoSaid : Prop := fnExactArchTextUptoRow.holds Try.pinned (OpenSpec.upto fnExactArchTextSpec)

/-- 'laws.FnExactTouchedJoints', WHERE WHAT IT READS IS OF BULK AT MOST 1048576: true; the input reads as it did. -/
def fnExactTouchedJointsUptoRow : OpenClaim := { program := "ytkadjimnamcjbaa", sum := "2935c3c89ebb916a6b63f1d5dabe69d6d3d296ed01523c9cf63036b2e8f410bd", func := "loop.example/g03301/laws.FnExactTouchedJoints", spec := "fnExactTouchedJoints", unfollowed := true, recurses := true, apart := false, narrowed := true }
def FnExactTouchedJointsUptoSaid : Prop := fnExactTouchedJointsUptoRow.holds Try.pinned (OpenSpec.upto fnExactTouchedJointsSpec)

/-- 'laws.FnExactPlacesOf', WHERE WHAT IT READS IS OF BULK AT MOST 1048576: true; the input reads as it did. -/
def fnExactPlacesOfUptoRow : OpenClaim := { program := "ytkadjimnamcjbaa", sum := "2935c3c89ebb916a6b63f1d5dabe69d6d3d296ed01523c9cf63036b2e8f410bd", func := "loop.example/g03301/laws.FnExactPlacesOf", spec := "fnExactPlacesOf", unfollowed := true, recurses := true, apart := false, narrowed := true }
def FnExactPlacesOfUptoSaid : Prop := fnExactPlacesOfUptoRow.holds Try.pinned (OpenSpec.upto fnExactPlacesOfSpec)

/-- 'laws.FnExactCollapseOf', WHERE WHAT IT READS IS OF BULK AT MOST 1048576: true; the input reads as it did. -/
def fnExactCollapseOfUptoRow : OpenClaim := { program := "ytkadjimnamcjbaa", sum := "2935c3c89ebb916a6b63f1d5dabe69d6d3d296ed01523c9cf63036b2e8f410bd", func := "loop.example/g03301/laws.FnExactCollapseOf", spec := "fnExactCollapseOf", unfollowed := true, recurses := true, apart := false, narrowed := true }
def FnExactCollapseOfUptoSaid : Prop := fnExactCollapseOfUptoRow.holds Try.pinned (OpenSpec.upto fnExactCollapseOfSpec)

end Rows
end Go.Proofs.Ytkadjimnamcjbaa
