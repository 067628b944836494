/-
  No cell of these rows narrows 'for every input' (looked for: loops, veiled, ifaces, maps, wideKeys, modest, calm, conditions, laid).
  DERIVED. THE GIVEN ROWS OF THIS SEAT. 12 by the template 'for every input the law returns true; each argument reads behind the call as it read before'; 0 by the template 'total and deterministic' (their statements: YtbfjmehnhgbidaaTotals.lean).
  GIVEN WITH THE SEED: the statements are not yours to turn. If you find one false, say at which input.
  Laid BY PROGRAM, IN A SANDBOX (cutbox-rows.mjs): the forced cells as the released guide's own fill.sh prints them over the translation bc5c1e2d655ce4fa… (all of the seat's roots in one cut). By AI agents, Wed Nov 11 2026. No macro, syntax, notation, axiom, sorry.
-/
import Derived.Test.YtbfjmehnhgbidaaChecked
import GoSem.Claim
import GoSem.ClaimJoined
import GoSem.ClaimMapViews
import Derived.JoinedTies
import Derived.KernelRfl
namespace Go.Proofs.Ytbfjmehnhgbidaa
/- THE CELL 'sum', in the pinned program and in every row, IS THE sha256 OF THE DUMP (.gsa) THAT YtbfjmehnhgbidaaProg.lean LOADS. Nothing in Lean hashes anything: it is a label: what it is worth is what the hold of that sum in a sandbox is worth. -/
noncomputable def Try.pinned : Pinned := { name := "ytbfjmehnhgbidaa", sum := "bc5c1e2d655ce4fa19e675c5f061fd7de2575446611013c258f9a9c3f8c689de", checked := Try.checked }
namespace Rows
def none {H : Type} : Left H := { results := [], args := [] }

/-- 'laws.FnExactWeightOf': WHATEVER THE INPUT: true; the input reads as it did. -/
def fnExactWeightOfSpec : ChangeSpec := { name := "fnExactWeightOf", fn := fun _ => fun
  | [d] => { results := [.lit (.bool true)], args := [d] }
  | _ => none }
def fnExactWeightOfRow : OpenClaim := { program := "ytbfjmehnhgbidaa", sum := "bc5c1e2d655ce4fa19e675c5f061fd7de2575446611013c258f9a9c3f8c689de", func := "loop.example/g03301/laws.FnExactWeightOf", spec := "fnExactWeightOf", unfollowed := true, recurses := true, apart := false }
def FnExactWeightOfSaid : Prop := fnExactWeightOfRow.holds Try.pinned (OpenSpec.ofChange fnExactWeightOfSpec)

/-- ITS FALSE NEIGHBOUR: 'it returns false'. Refute it at one input. -/
def fnExactWeightOfWrong : ChangeSpec := { name := "fnExactWeightOf", fn := fun _ => fun
  | [d] => { results := [.lit (.bool false)], args := [d] }
  | _ => none }
def FnExactWeightOfWrongFalsely : Prop := fnExactWeightOfRow.holds Try.pinned (OpenSpec.ofChange fnExactWeightOfWrong)

/-- 'laws.FnExactIsInStone': WHATEVER THE INPUT: true; the input reads as it did. -/
def fnExactIsInStoneSpec : ChangeSpec := { name := "fnExactIsInStone", fn := fun _ => fun
  | [d1, d2] => { results := [.lit (.bool true)], args := [d1, d2] }
  | _ => none }
def fnExactIsInStoneRow : OpenClaim := { program := "ytbfjmehnhgbidaa", sum := "bc5c1e2d655ce4fa19e675c5f061fd7de2575446611013c258f9a9c3f8c689de", func := "loop.example/g03301/laws.FnExactIsInStone", spec := "fnExactIsInStone", unfollowed := true, recurses := true, apart := false }
def FnExactIsInStoneSaid : Prop := fnExactIsInStoneRow.holds Try.pinned (OpenSpec.ofChange fnExactIsInStoneSpec)

/-- ITS FALSE NEIGHBOUR: 'it returns false'. Refute it at one input. -/
def fnExactIsInStoneWrong : ChangeSpec := { name := "fnExactIsInStone", fn := fun _ => fun
  | [d1, d2] => { results := [.lit (.bool false)], args := [d1, d2] }
  | _ => none }
def FnExactIsInStoneWrongFalsely : Prop := fnExactIsInStoneRow.holds Try.pinned (OpenSpec.ofChange fnExactIsInStoneWrong)

/-- 'laws.FnExactBoxOf': WHATEVER THE INPUT: true; the input reads as it did. -/
def fnExactBoxOfSpec : ChangeSpec := { name := "fnExactBoxOf", fn := fun _ => fun
  | [d] => { results := [.lit (.bool true)], args := [d] }
  | _ => none }
def fnExactBoxOfRow : OpenClaim := { program := "ytbfjmehnhgbidaa", sum := "bc5c1e2d655ce4fa19e675c5f061fd7de2575446611013c258f9a9c3f8c689de", func := "loop.example/g03301/laws.FnExactBoxOf", spec := "fnExactBoxOf", unfollowed := true, recurses := true, apart := false }
def FnExactBoxOfSaid : Prop := fnExactBoxOfRow.holds Try.pinned (OpenSpec.ofChange fnExactBoxOfSpec)

/-- ITS FALSE NEIGHBOUR: 'it returns false'. Refute it at one input. -/
def fnExactBoxOfWrong : ChangeSpec := { name := "fnExactBoxOf", fn := fun _ => fun
  | [d] => { results := [.lit (.bool false)], args := [d] }
  | _ => none }
def FnExactBoxOfWrongFalsely : Prop := fnExactBoxOfRow.holds Try.pinned (OpenSpec.ofChange fnExactBoxOfWrong)

/-- 'laws.FnExactStoneBetween': WHATEVER THE INPUT: true; the input reads as it did. -/
def fnExactStoneBetweenSpec : ChangeSpec := { name := "fnExactStoneBetween", fn := fun _ => fun
  | [d1, d2] => { results := [.lit (.bool true)], args := [d1, d2] }
  | _ => none }
def fnExactStoneBetweenRow : OpenClaim := { program := "ytbfjmehnhgbidaa", sum := "bc5c1e2d655ce4fa19e675c5f061fd7de2575446611013c258f9a9c3f8c689de", func := "loop.example/g03301/laws.FnExactStoneBetween", spec := "fnExactStoneBetween", unfollowed := true, recurses := true, apart := false }
def FnExactStoneBetweenSaid : Prop := fnExactStoneBetweenRow.holds Try.pinned (OpenSpec.ofChange fnExactStoneBetweenSpec)

/-- ITS FALSE NEIGHBOUR: 'it returns false'. Refute it at one input. -/
def fnExactStoneBetweenWrong : ChangeSpec := { name := "fnExactStoneBetween", fn := fun _ => fun
  | [d1, d2] => { results := [.lit (.bool false)], args := [d1, d2] }
  | _ => none }
def FnExactStoneBetweenWrongFalsely : Prop := fnExactStoneBetweenRow.holds Try.pinned (OpenSpec.ofChange fnExactStoneBetweenWrong)

/-- 'laws.FnExactWidestOf': WHATEVER THE INPUT: true; the input reads as it did. -/
def fnExactWidestOfSpec : ChangeSpec := { name := "fnExactWidestOf", fn := fun _ => fun
  | [d] => { results := [.lit (.bool true)], args := [d] }
  | _ => none }
def fnExactWidestOfRow : OpenClaim := { program := "ytbfjmehnhgbidaa", sum := "bc5c1e2d655ce4fa19e675c5f061fd7de2575446611013c258f9a9c3f8c689de", func := "loop.example/g03301/laws.FnExactWidestOf", spec := "fnExactWidestOf", unfollowed := true, recurses := true, apart := false }
def FnExactWidestOfSaid : Prop := fnExactWidestOfRow.holds Try.pinned (OpenSpec.ofChange fnExactWidestOfSpec)

/-- ITS FALSE NEIGHBOUR: 'it returns false'. Refute it at one input. -/
def fnExactWidestOfWrong : ChangeSpec := { name := "fnExactWidestOf", fn := fun _ => fun
  | [d] => { results := [.lit (.bool false)], args := [d] }
  | _ => none }
def FnExactWidestOfWrongFalsely : Prop := fnExactWidestOfRow.holds Try.pinned (OpenSpec.ofChange fnExactWidestOfWrong)

/-- 'laws.FnExactIsLeftOf': WHATEVER THE INPUT: true; the input reads as it did. -/
def fnExactIsLeftOfSpec : ChangeSpec := { name := "fnExactIsLeftOf", fn := fun _ => fun
  | [d1, d2] => { results := [.lit (.bool true)], args := [d1, d2] }
  | _ => none }
def fnExactIsLeftOfRow : OpenClaim := { program := "ytbfjmehnhgbidaa", sum := "bc5c1e2d655ce4fa19e675c5f061fd7de2575446611013c258f9a9c3f8c689de", func := "loop.example/g03301/laws.FnExactIsLeftOf", spec := "fnExactIsLeftOf", unfollowed := true, recurses := true, apart := false }
def FnExactIsLeftOfSaid : Prop := fnExactIsLeftOfRow.holds Try.pinned (OpenSpec.ofChange fnExactIsLeftOfSpec)

/-- ITS FALSE NEIGHBOUR: 'it returns false'. Refute it at one input. -/
def fnExactIsLeftOfWrong : ChangeSpec := { name := "fnExactIsLeftOf", fn := fun _ => fun
  | [d1, d2] => { results := [.lit (.bool false)], args := [d1, d2] }
  | _ => none }
def FnExactIsLeftOfWrongFalsely : Prop := fnExactIsLeftOfRow.holds Try.pinned (OpenSpec.ofChange fnExactIsLeftOfWrong)

/-- 'laws.FnExactArchOk': WHATEVER THE INPUT: true; the input reads as it did. -/
def fnExactArchOkSpec : ChangeSpec := { name := "fnExactArchOk", fn := fun _ => fun
  | [d] => { results := [.lit (.bool true)], args := [d] }
  | _ => none }
def fnExactArchOkRow : OpenClaim := { program := "ytbfjmehnhgbidaa", sum := "bc5c1e2d655ce4fa19e675c5f061fd7de2575446611013c258f9a9c3f8c689de", func := "loop.example/g03301/laws.FnExactArchOk", spec := "fnExactArchOk", unfollowed := true, recurses := true, apart := false }
def FnExactArchOkSaid : Prop := fnExactArchOkRow.holds Try.pinned (OpenSpec.ofChange fnExactArchOkSpec)

/-- ITS FALSE NEIGHBOUR: 'it returns false'. Refute it at one input. -/
def fnExactArchOkWrong : ChangeSpec := { name := "fnExactArchOk", fn := fun _ => fun
  | [d] => { results := [.lit (.bool false)], args := [d] }
  | _ => none }
def FnExactArchOkWrongFalsely : Prop := fnExactArchOkRow.holds Try.pinned (OpenSpec.ofChange fnExactArchOkWrong)

/-- 'laws.FnWeights': WHATEVER THE INPUT: true; the input reads as it did. -/
def fnWeightsSpec : ChangeSpec := { name := "fnWeights", fn := fun _ => fun
  | [d] => { results := [.lit (.bool true)], args := [d] }
  | _ => none }
def fnWeightsRow : OpenClaim := { program := "ytbfjmehnhgbidaa", sum := "bc5c1e2d655ce4fa19e675c5f061fd7de2575446611013c258f9a9c3f8c689de", func := "loop.example/g03301/laws.FnWeights", spec := "fnWeights", unfollowed := true, recurses := true, apart := false }
def FnWeightsSaid : Prop := fnWeightsRow.holds Try.pinned (OpenSpec.ofChange fnWeightsSpec)

/-- ITS FALSE NEIGHBOUR: 'it returns false'. Refute it at one input. -/
def fnWeightsWrong : ChangeSpec := { name := "fnWeights", fn := fun _ => fun
  | [d] => { results := [.lit (.bool false)], args := [d] }
  | _ => none }
def FnWeightsWrongFalsely : Prop := fnWeightsRow.holds Try.pinned (OpenSpec.ofChange fnWeightsWrong)

/-- 'laws.FnExactCountStones': WHATEVER THE INPUT: true; the input reads as it did. -/
def fnExactCountStonesSpec : ChangeSpec := { name := "fnExactCountStones", fn := fun _ => fun
  | [d] => { results := [.lit (.bool true)], args := [d] }
  | _ => none }
def fnExactCountStonesRow : OpenClaim := { program := "ytbfjmehnhgbidaa", sum := "bc5c1e2d655ce4fa19e675c5f061fd7de2575446611013c258f9a9c3f8c689de", func := "loop.example/g03301/laws.FnExactCountStones", spec := "fnExactCountStones", unfollowed := true, recurses := true, apart := false }
def FnExactCountStonesSaid : Prop := fnExactCountStonesRow.holds Try.pinned (OpenSpec.ofChange fnExactCountStonesSpec)

/-- ITS FALSE NEIGHBOUR: 'it returns false'. Refute it at one input. -/
def fnExactCountStonesWrong : ChangeSpec := { name := "fnExactCountStones", fn := fun _ => fun
  | [d] => { results := [.lit (.bool false)], args := [d] }
  | _ => none }
def FnExactCountStonesWrongFalsely : Prop := fnExactCountStonesRow.holds Try.pinned (OpenSpec.ofChange fnExactCountStonesWrong)

/-- 'laws.FnExactSpanOf': WHATEVER THE INPUT: true; the input reads as it did. -/
def fnExactSpanOfSpec : ChangeSpec := { name := "fnExactSpanOf", fn := fun _ => fun
  | [d] => { results := [.lit (.bool true)], args := [d] }
  | _ => none }
def fnExactSpanOfRow : OpenClaim := { program := "ytbfjmehnhgbidaa", sum := "bc5c1e2d655ce4fa19e675c5f061fd7de2575446611013c258f9a9c3f8c689de", func := "loop.example/g03301/laws.FnExactSpanOf", spec := "fnExactSpanOf", unfollowed := true, recurses := true, apart := false }
def FnExactSpanOfSaid : Prop := fnExactSpanOfRow.holds Try.pinned (OpenSpec.ofChange fnExactSpanOfSpec)

/-- ITS FALSE NEIGHBOUR: 'it returns false'. Refute it at one input. -/
def fnExactSpanOfWrong : ChangeSpec := { name := "fnExactSpanOf", fn := fun _ => fun
  | [d] => { results := [.lit (.bool false)], args := [d] }
  | _ => none }
def FnExactSpanOfWrongFalsely : Prop := fnExactSpanOfRow.holds Try.pinned (OpenSpec.ofChange fnExactSpanOfWrong)

/-- 'laws.FnExactTotalWeight': WHATEVER THE INPUT: true; the input reads as it did. -/
def fnExactTotalWeightSpec : ChangeSpec := { name := "fnExactTotalWeight", fn := fun _ => fun
  | [d] => { results := [.lit (.bool true)], args := [d] }
  | _ => none }
def fnExactTotalWeightRow : OpenClaim := { program := "ytbfjmehnhgbidaa", sum := "bc5c1e2d655ce4fa19e675c5f061fd7de2575446611013c258f9a9c3f8c689de", func := "loop.example/g03301/laws.FnExactTotalWeight", spec := "fnExactTotalWeight", unfollowed := true, recurses := true, apart := false }
def FnExactTotalWeightSaid : Prop := fnExactTotalWeightRow.holds Try.pinned (OpenSpec.ofChange fnExactTotalWeightSpec)

/-- ITS FALSE NEIGHBOUR: 'it returns false'. Refute it at one input. -/
def fnExactTotalWeightWrong : ChangeSpec := { name := "fnExactTotalWeight", fn := fun _ => fun
  | [d] => { results := [.lit (.bool false)], args := [d] }
  | _ => none }
def FnExactTotalWeightWrongFalsely : Prop := fnExactTotalWeightRow.holds Try.pinned (OpenSpec.ofChange fnExactTotalWeightWrong)

/-- 'laws.FnExactRiseOf': WHATEVER THE INPUT: true; the input reads as it did. -/
def fnExactRiseOfSpec : ChangeSpec := { name := "fnExactRiseOf", fn := fun _ => fun
  | [d] => { results := [.lit (.bool true)], args := [d] }
  | _ => none }
def fnExactRiseOfRow : OpenClaim := { program := "ytbfjmehnhgbidaa", sum := "bc5c1e2d655ce4fa19e675c5f061fd7de2575446611013c258f9a9c3f8c689de", func := "loop.example/g03301/laws.FnExactRiseOf", spec := "fnExactRiseOf", unfollowed := true, recurses := true, apart := false }
def FnExactRiseOfSaid : Prop := fnExactRiseOfRow.holds Try.pinned (OpenSpec.ofChange fnExactRiseOfSpec)

/-- ITS FALSE NEIGHBOUR: 'it returns false'. Refute it at one input. -/
def fnExactRiseOfWrong : ChangeSpec := { name := "fnExactRiseOf", fn := fun _ => fun
  | [d] => { results := [.lit (.bool false)], args := [d] }
  | _ => none }
def FnExactRiseOfWrongFalsely : Prop := fnExactRiseOfRow.holds Try.pinned (OpenSpec.ofChange fnExactRiseOfWrong)

/- THE SECOND FORM. 'bulk': how many values and letters a reading holds, each counted each time it is reached (what is shared counts as often as it is met; a slice's spare places count too). A statement '..UptoSaid' is the law's where the arguments, and the package variables that the reading takes, are together of bulk at most 1048576: NARROWER than '..Said'. Prove '..Said' where nothing that the law and all that it calls make is longer than what came in: it says more and counts as full. Else prove '..UptoSaid'. A law counts once. -/
mutual
def uptoBulk {H : Type} : DataW H → Nat
  | .lit (.string bytes) => bytes.length + 1
  | .lit _ => 1
  | .nil => 1
  | .ptr d => uptoBulk d + 1
  | .slice elems spare => uptoBulkAll elems + uptoBulkAll spare + 1
  | .agg parts => uptoBulkAll parts + 1
  | .iface _ d => uptoBulk d + 1
  | .map entries => uptoBulkEntries entries + 1
  | .held _ => 1
def uptoBulkAll {H : Type} : List (DataW H) → Nat
  | [] => 0
  | d :: r => uptoBulk d + uptoBulkAll r
def uptoBulkEntries {H : Type} : List (Lit × DataW H) → Nat
  | [] => 0
  | x :: r => uptoBulkEntry x + uptoBulkEntries r
def uptoBulkEntry {H : Type} : Lit × DataW H → Nat
  | (.string bytes, d) => bytes.length + uptoBulk d + 1
  | (_, d) => uptoBulk d + 1
 end
def uptoSmall : (H : Type) → List (DataW H) → Bool := fun _ ds => decide (uptoBulkAll ds ≤ 1048576)
def OpenSpec.upto (s : _root_.Go.ChangeSpec) : _root_.Go.OpenSpec := { _root_.Go.OpenSpec.ofChange s with cond := some uptoSmall }

/-- 'laws.FnExactWeightOf', WHERE WHAT IT READS IS OF BULK AT MOST 1048576: true; the input reads as it did. -/
def fnExactWeightOfUptoRow : OpenClaim := { program := "ytbfjmehnhgbidaa", sum := "bc5c1e2d655ce4fa19e675c5f061fd7de2575446611013c258f9a9c3f8c689de", func := "loop.example/g03301/laws.FnExactWeightOf", spec := "fnExactWeightOf", unfollowed := true, recurses := true, apart := false, narrowed := true }
def FnExactWeightOfUptoSaid : Prop := fnExactWeightOfUptoRow.holds Try.pinned (OpenSpec.upto fnExactWeightOfSpec)

/-- 'laws.FnExactIsInStone', WHERE WHAT IT READS IS OF BULK AT MOST 1048576: true; the input reads as it did. -/
def fnExactIsInStoneUptoRow : OpenClaim := { program := "ytbfjmehnhgbidaa", sum := "bc5c1e2d655ce4fa19e675c5f061fd7de2575446611013c258f9a9c3f8c689de", func := "loop.example/g03301/laws.FnExactIsInStone", spec := "fnExactIsInStone", unfollowed := true, recurses := true, apart := false, narrowed := true }
def FnExactIsInStoneUptoSaid : Prop := fnExactIsInStoneUptoRow.holds Try.pinned (OpenSpec.upto fnExactIsInStoneSpec)

/-- 'laws.FnExactBoxOf', WHERE WHAT IT READS IS OF BULK AT MOST 1048576: true; the input reads as it did. -/
def fnExactBoxOfUptoRow : OpenClaim := { program := "ytbfjmehnhgbidaa", sum := "bc5c1e2d655ce4fa19e675c5f061fd7de2575446611013c258f9a9c3f8c689de", func := "loop.example/g03301/laws.FnExactBoxOf", spec := "fnExactBoxOf", unfollowed := true, recurses := true, apart := false, narrowed := true }
def FnExactBoxOfUptoSaid : Prop := fnExactBoxOfUptoRow.holds Try.pinned (OpenSpec.upto fnExactBoxOfSpec)

/-- 'laws.FnExactStoneBetween', WHERE WHAT IT READS IS OF BULK AT MOST 1048576: true; the input reads as it did. -/
def fnExactStoneBetweenUptoRow : OpenClaim := { program := "ytbfjmehnhgbidaa", sum := "bc5c1e2d655ce4fa19e675c5f061fd7de2575446611013c258f9a9c3f8c689de", func := "loop.example/g03301/laws.FnExactStoneBetween", spec := "fnExactStoneBetween", unfollowed := true, recurses := true, apart := false, narrowed := true }
def FnExactStoneBetweenUptoSaid : Prop := fnExactStoneBetweenUptoRow.holds Try.pinned (OpenSpec.upto fnExactStoneBetweenSpec)

/-- 'laws.FnExactWidestOf', WHERE WHAT IT READS IS OF BULK AT MOST 1048576: true; the input reads as it did. -/
def fnExactWidestOfUptoRow : OpenClaim := { program := "ytbfjmehnhgbidaa", sum := "bc5c1e2d655ce4fa19e675c5f061fd7de2575446611013c258f9a9c3f8c689de", func := "loop.example/g03301/laws.FnExactWidestOf", spec := "fnExactWidestOf", unfollowed := true, recurses := true, apart := false, narrowed := true }
def FnExactWidestOfUptoSaid : Prop := fnExactWidestOfUptoRow.holds Try.pinned (OpenSpec.upto fnExactWidestOfSpec)

/-- 'laws.FnExactIsLeftOf', WHERE WHAT IT READS IS OF BULK AT MOST 1048576: true; the input reads as it did. -/
def fnExactIsLeftOfUptoRow : OpenClaim := { program := "ytbfjmehnhgbidaa", sum := "bc5c1e2d655ce4fa19e675c5f061fd7de2575446611013c258f9a9c3f8c689de", func := "loop.example/g03301/laws.FnExactIsLeftOf", spec := "fnExactIsLeftOf", unfollowed := true, recurses := true, apart := false, narrowed := true }
def FnExactIsLeftOfUptoSaid : Prop := fnExactIsLeftOfUptoRow.holds Try.pinned (OpenSpec.upto fnExactIsLeftOfSpec)

/-- 'laws.FnExactArchOk', WHERE WHAT IT READS IS OF BULK AT MOST 1048576: true; the input reads as it did. -/
def fnExactArchOkUptoRow : OpenClaim := { program := "ytbfjmehnhgbidaa", sum := "bc5c1e2d655ce4fa19e675c5f061fd7de2575446611013c258f9a9c3f8c689de", func := "loop.example/g03301/laws.FnExactArchOk", spec := "fnExactArchOk", unfollowed := true, recurses := true, apart := false, narrowed := true }
def FnExactArchOkUptoSaid : Prop := fnExactArchOkUptoRow.holds Try.pinned (OpenSpec.upto fnExactArchOkSpec)

/-- 'laws.FnWeights', WHERE WHAT IT READS IS OF BULK AT MOST 1048576: true; the input reads as it did. -/
def fnWeightsUptoRow : OpenClaim := { program := "ytbfjmehnhgbidaa", sum := "bc5c1e2d655ce4fa19e675c5f061fd7de2575446611013c258f9a9c3f8c689de", func := "loop.example/g03301/laws.FnWeights", spec := "fnWeights", unfollowed := true, recurses := true, apart := false, narrowed := true }
def FnWeightsUptoSaid : Prop := fnWeightsUptoRow.holds Try.pinned (OpenSpec.upto fnWeightsSpec)

/-- 'laws.FnExactCountStones', WHERE WHAT IT READS IS OF BULK AT MOST 1048576: true; the input reads as it did. -/
def fnExactCountStonesUptoRow : OpenClaim := { program := "ytbfjmehnhgbidaa", sum := "bc5c1e2d655ce4fa19e675c5f061fd7de2575446611013c258f9a9c3f8c689de", func := "loop.example/g03301/laws.FnExactCountStones", spec := "fnExactCountStones", unfollowed := true, recurses := true, apart := false, narrowed := true }
def FnExactCountStonesUptoSaid : Prop := fnExactCountStonesUptoRow.holds Try.pinned (OpenSpec.upto fnExactCountStonesSpec)

/-- 'laws.FnExactSpanOf', WHERE WHAT IT READS IS OF BULK AT MOST 1048576: true; the input reads as it did. -/
def fnExactSpanOfUptoRow : OpenClaim := { program := "ytbfjmehnhgbidaa", sum := "bc5c1e2d655ce4fa19e675c5f061fd7de2575446611013c258f9a9c3f8c689de", func := "loop.example/g03301/laws.FnExactSpanOf", spec := "fnExactSpanOf", unfollowed := true, recurses := true, apart := false, narrowed := true }
def FnExactSpanOfUptoSaid : Prop := fnExactSpanOfUptoRow.holds Try.pinned (OpenSpec.upto fnExactSpanOfSpec)

/-- 'laws.FnExactTotalWeight', WHERE WHAT IT READS IS OF BULK AT MOST 1048576: true; the input reads as it did. -/
def fnExactTotalWeightUptoRow : OpenClaim := { program := "ytbfjmehnhgbidaa", sum := "bc5c1e2d655ce4fa19e675c5f061fd7de2575446611013c258f9a9c3f8c689de", func := "loop.example/g03301/laws.FnExactTotalWeight", spec := "fnExactTotalWeight", unfollowed := true, recurses := true, apart := false, narrowed := true }
def FnExactTotalWeightUptoSaid : Prop := fnExactTotalWeightUptoRow.holds Try.pinned (OpenSpec.upto fnExactTotalWeightSpec)

/-- 'laws.FnExactRiseOf', WHERE WHAT IT READS IS OF BULK AT MOST 1048576: true; the input reads as it did. -/
def fnExactRiseOfUptoRow : OpenClaim := { program := "ytbfjmehnhgbidaa", sum := "bc5c1e2d655ce4fa19e675c5f061fd7de2575446611013c258f9a9c3f8c689de", func := "loop.example/g03301/laws.FnExactRiseOf", spec := "fnExactRiseOf", unfollowed := true, recurses := true, apart := false, narrowed := true }
def FnExactRiseOfUptoSaid : Prop := fnExactRiseOfUptoRow.holds Try.pinned (OpenSpec.upto fnExactRiseOfSpec)

end Rows
end Go.Proofs.Ytbfjmehnhgbidaa
