/-
  No cell of these rows narrows 'for every input' (looked for: loops, veiled, ifaces, maps, wideKeys, modest, calm, conditions, laid).
  DERIVED. THE GIVEN ROWS OF THIS SEAT. 8 by the template 'for every input the law returns true; each argument reads behind the call as it read before'; 0 by the template 'total and deterministic' (their statements: YtajfjeoehodhlaaTotals.lean).
  GIVEN WITH THE SEED: the statements are not yours to turn. If you find one false, say at which input.
  Laid BY PROGRAM, IN A SANDBOX (cutbox-rows.mjs): the forced cells as the released guide's own fill.sh prints them over the translation 7c473495994b8d60… (all of the seat's roots in one cut). By AI agents, Wed Nov 11 2026. No macro, syntax, notation, axiom, sorry.
-/
import Derived.Test.YtajfjeoehodhlaaChecked
import GoSem.Claim
import GoSem.ClaimJoined
import GoSem.ClaimMapViews
import Derived.JoinedTies
import Derived.KernelRfl
namespace Go.Proofs.Ytajfjeoehodhlaa
/- THE CELL 'sum', in the pinned program and in every row, IS THE sha256 OF THE DUMP (.gsa) THAT YtajfjeoehodhlaaProg.lean LOADS. Nothing in Lean hashes anything: it is a label: what it is worth is what the hold of that sum in a sandbox is worth. -/
noncomputable def Try.pinned : Pinned := { name := "ytajfjeoehodhlaa", sum := "7c473495994b8d60f1f2b755b4fc7553eabe401ed57ef3de080dd14c2630d5c1", checked := Try.checked }
namespace Rows
def none {H : Type} : Left H := { results := [], args := [] }

/-- 'laws.FnExactWithButtress': WHATEVER THE INPUT: true; the input reads as it did. -/
def fnExactWithButtressSpec : ChangeSpec := { name := "fnExactWithButtress", fn := fun _ => fun
  | [d1, d2, d3, d4, d5, d6] => { results := [.lit (.bool true)], args := [d1, d2, d3, d4, d5, d6] }
  | _ => none }
def fnExactWithButtressRow : OpenClaim := { program := "ytajfjeoehodhlaa", sum := "7c473495994b8d60f1f2b755b4fc7553eabe401ed57ef3de080dd14c2630d5c1", func := "loop.example/g03301/laws.FnExactWithButtress", spec := "fnExactWithButtress", apart := false }
def FnExactWithButtressSaid : Prop := fnExactWithButtressRow.holds Try.pinned (OpenSpec.ofChange fnExactWithButtressSpec)

/-- ITS FALSE NEIGHBOUR: 'it returns false'. Refute it at one input. -/
def fnExactWithButtressWrong : ChangeSpec := { name := "fnExactWithButtress", fn := fun _ => fun
  | [d1, d2, d3, d4, d5, d6] => { results := [.lit (.bool false)], args := [d1, d2, d3, d4, d5, d6] }
  | _ => none }
def FnExactWithButtressWrongFalsely : Prop := fnExactWithButtressRow.holds Try.pinned (OpenSpec.ofChange fnExactWithButtressWrong)

/-- 'laws.FnExactGreatestForce': WHATEVER THE INPUT: true; the input reads as it did. -/
def fnExactGreatestForceSpec : ChangeSpec := { name := "fnExactGreatestForce", fn := fun _ => fun
  | [d1, d2, d3, d4, d5] => { results := [.lit (.bool true)], args := [d1, d2, d3, d4, d5] }
  | _ => none }
def fnExactGreatestForceRow : OpenClaim := { program := "ytajfjeoehodhlaa", sum := "7c473495994b8d60f1f2b755b4fc7553eabe401ed57ef3de080dd14c2630d5c1", func := "loop.example/g03301/laws.FnExactGreatestForce", spec := "fnExactGreatestForce", apart := false }
def FnExactGreatestForceSaid : Prop := fnExactGreatestForceRow.holds Try.pinned (OpenSpec.ofChange fnExactGreatestForceSpec)

/-- ITS FALSE NEIGHBOUR: 'it returns false'. Refute it at one input. -/
def fnExactGreatestForceWrong : ChangeSpec := { name := "fnExactGreatestForce", fn := fun _ => fun
  | [d1, d2, d3, d4, d5] => { results := [.lit (.bool false)], args := [d1, d2, d3, d4, d5] }
  | _ => none }
def FnExactGreatestForceWrongFalsely : Prop := fnExactGreatestForceRow.holds Try.pinned (OpenSpec.ofChange fnExactGreatestForceWrong)

/-- 'laws.FnExactLeastForce': WHATEVER THE INPUT: true; the input reads as it did. -/
def fnExactLeastForceSpec : ChangeSpec := { name := "fnExactLeastForce", fn := fun _ => fun
  | [d1, d2, d3, d4, d5] => { results := [.lit (.bool true)], args := [d1, d2, d3, d4, d5] }
  | _ => none }
def fnExactLeastForceRow : OpenClaim := { program := "ytajfjeoehodhlaa", sum := "7c473495994b8d60f1f2b755b4fc7553eabe401ed57ef3de080dd14c2630d5c1", func := "loop.example/g03301/laws.FnExactLeastForce", spec := "fnExactLeastForce", unfollowed := true, recurses := true, apart := false }
def FnExactLeastForceSaid : Prop := fnExactLeastForceRow.holds Try.pinned (OpenSpec.ofChange fnExactLeastForceSpec)

/-- ITS FALSE NEIGHBOUR: 'it returns false'. Refute it at one input. -/
def fnExactLeastForceWrong : ChangeSpec := { name := "fnExactLeastForce", fn := fun _ => fun
  | [d1, d2, d3, d4, d5] => { results := [.lit (.bool false)], args := [d1, d2, d3, d4, d5] }
  | _ => none }
def FnExactLeastForceWrongFalsely : Prop := fnExactLeastForceRow.holds Try.pinned (OpenSpec.ofChange fnExactLeastForceWrong)

/-- 'laws.FnExactSpansOk': WHATEVER THE INPUT: true; the input reads as it did. -/
def fnExactSpansOkSpec : ChangeSpec := { name := "fnExactSpansOk", fn := fun _ => fun
  | [d] => { results := [.lit (.bool true)], args := [d] }
  | _ => none }
def fnExactSpansOkRow : OpenClaim := { program := "ytajfjeoehodhlaa", sum := "7c473495994b8d60f1f2b755b4fc7553eabe401ed57ef3de080dd14c2630d5c1", func := "loop.example/g03301/laws.FnExactSpansOk", spec := "fnExactSpansOk", apart := false }
def FnExactSpansOkSaid : Prop := fnExactSpansOkRow.holds Try.pinned (OpenSpec.ofChange fnExactSpansOkSpec)

/-- ITS FALSE NEIGHBOUR: 'it returns false'. Refute it at one input. -/
def fnExactSpansOkWrong : ChangeSpec := { name := "fnExactSpansOk", fn := fun _ => fun
  | [d] => { results := [.lit (.bool false)], args := [d] }
  | _ => none }
def FnExactSpansOkWrongFalsely : Prop := fnExactSpansOkRow.holds Try.pinned (OpenSpec.ofChange fnExactSpansOkWrong)

/-- 'laws.FnBridges': WHATEVER THE INPUT: true; the input reads as it did. -/
def fnBridgesSpec : ChangeSpec := { name := "fnBridges", fn := fun _ => fun
  | [d] => { results := [.lit (.bool true)], args := [d] }
  | _ => none }
def fnBridgesRow : OpenClaim := { program := "ytajfjeoehodhlaa", sum := "7c473495994b8d60f1f2b755b4fc7553eabe401ed57ef3de080dd14c2630d5c1", func := "loop.example/g03301/laws.FnBridges", spec := "fnBridges", apart := false }
def FnBridgesSaid : Prop := fnBridgesRow.holds Try.pinned (OpenSpec.ofChange fnBridgesSpec)

/-- ITS FALSE NEIGHBOUR: 'it returns false'. Refute it at one input. -/
def fnBridgesWrong : ChangeSpec := { name := "fnBridges", fn := fun _ => fun
  | [d] => { results := [.lit (.bool false)], args := [d] }
  | _ => none }
def FnBridgesWrongFalsely : Prop := fnBridgesRow.holds Try.pinned (OpenSpec.ofChange fnBridgesWrong)

/-- 'laws.FnExactForceRange': WHATEVER THE INPUT: true; the input reads as it did. -/
def fnExactForceRangeSpec : ChangeSpec := { name := "fnExactForceRange", fn := fun _ => fun
  | [d1, d2, d3, d4, d5] => { results := [.lit (.bool true)], args := [d1, d2, d3, d4, d5] }
  | _ => none }
def fnExactForceRangeRow : OpenClaim := { program := "ytajfjeoehodhlaa", sum := "7c473495994b8d60f1f2b755b4fc7553eabe401ed57ef3de080dd14c2630d5c1", func := "loop.example/g03301/laws.FnExactForceRange", spec := "fnExactForceRange", unfollowed := true, recurses := true, apart := false }
def FnExactForceRangeSaid : Prop := fnExactForceRangeRow.holds Try.pinned (OpenSpec.ofChange fnExactForceRangeSpec)

/-- ITS FALSE NEIGHBOUR: 'it returns false'. Refute it at one input. -/
def fnExactForceRangeWrong : ChangeSpec := { name := "fnExactForceRange", fn := fun _ => fun
  | [d1, d2, d3, d4, d5] => { results := [.lit (.bool false)], args := [d1, d2, d3, d4, d5] }
  | _ => none }
def FnExactForceRangeWrongFalsely : Prop := fnExactForceRangeRow.holds Try.pinned (OpenSpec.ofChange fnExactForceRangeWrong)

/-- 'laws.FnExactBridgeStands': WHATEVER THE INPUT: true; the input reads as it did. -/
def fnExactBridgeStandsSpec : ChangeSpec := { name := "fnExactBridgeStands", fn := fun _ => fun
  | [d] => { results := [.lit (.bool true)], args := [d] }
  | _ => none }
def fnExactBridgeStandsRow : OpenClaim := { program := "ytajfjeoehodhlaa", sum := "7c473495994b8d60f1f2b755b4fc7553eabe401ed57ef3de080dd14c2630d5c1", func := "loop.example/g03301/laws.FnExactBridgeStands", spec := "fnExactBridgeStands", apart := false }
def FnExactBridgeStandsSaid : Prop := fnExactBridgeStandsRow.holds Try.pinned (OpenSpec.ofChange fnExactBridgeStandsSpec)

/-- ITS FALSE NEIGHBOUR: 'it returns false'. Refute it at one input. -/
def fnExactBridgeStandsWrong : ChangeSpec := { name := "fnExactBridgeStands", fn := fun _ => fun
  | [d] => { results := [.lit (.bool false)], args := [d] }
  | _ => none }
def FnExactBridgeStandsWrongFalsely : Prop := fnExactBridgeStandsRow.holds Try.pinned (OpenSpec.ofChange fnExactBridgeStandsWrong)

/-- 'laws.FnButtresses': WHATEVER THE INPUT: true; the input reads as it did. -/
def fnButtressesSpec : ChangeSpec := { name := "fnButtresses", fn := fun _ => fun
  | [d] => { results := [.lit (.bool true)], args := [d] }
  | _ => none }
def fnButtressesRow : OpenClaim := { program := "ytajfjeoehodhlaa", sum := "7c473495994b8d60f1f2b755b4fc7553eabe401ed57ef3de080dd14c2630d5c1", func := "loop.example/g03301/laws.FnButtresses", spec := "fnButtresses", unfollowed := true, recurses := true, apart := false }
def FnButtressesSaid : Prop := fnButtressesRow.holds Try.pinned (OpenSpec.ofChange fnButtressesSpec)

/-- ITS FALSE NEIGHBOUR: 'it returns false'. Refute it at one input. -/
def fnButtressesWrong : ChangeSpec := { name := "fnButtresses", fn := fun _ => fun
  | [d] => { results := [.lit (.bool false)], args := [d] }
  | _ => none }
def FnButtressesWrongFalsely : Prop := fnButtressesRow.holds Try.pinned (OpenSpec.ofChange fnButtressesWrong)

/- THE SECOND FORM. 'bulk': how many values and letters a reading holds, each counted each time it is reached (what is shared counts as often as it is met; a slice's spare places count too). A statement '..UptoSaid' is the law's where the arguments, and the package variables that the reading takes, are together of bulk at most 1048576: NARROWER than '..Said'. Prove '..Said' where nothing that the law and all that it calls make is longer than what came in: it says more and counts as full. Else prove '..UptoSaid'. A law counts once. -/
mutual
def uptoBulk {H : Type} : DataW H → Nat
  | .lit (.string bytes) => bytes.length + 1
  | .lit _ => 1
  | .nil => 1
  | .ptr d => uptoBulk d + 1
  | .slice elems spare => uptoBulkAll elems + uptoBulkAll spare + 1
  | .agg parts => uptoBulkAll parts + 1
  | .iface _ d => uptoBulk d + 1
  | .map entries => uptoBulkEntries entries + 1
  | .held _ => 1
def uptoBulkAll {H : Type} : List (DataW H) → Nat
  | [] => 0
  | d :: r => uptoBulk d + uptoBulkAll r
def uptoBulkEntries {H : Type} : List (Lit × DataW H) → Nat
  | [] => 0
  | x :: r => uptoBulkEntry x + uptoBulkEntries r
def uptoBulkEntry {H : Type} : Lit × DataW H → Nat
  | (.string bytes, d) => bytes.length + uptoBulk d + 1
  | (_, d) => uptoBulk d + 1
 end
def uptoSmall : (H : Type) → List (DataW H) → Bool := fun _ ds => decide (uptoBulkAll ds ≤ 1048576)
def OpenSpec.upto (s : _root_.Go.ChangeSpec) : _root_.Go.OpenSpec := { _root_.Go.OpenSpec.ofChange s with cond := some uptoSmall }

/-- 'laws.FnExactWithButtress', WHERE WHAT IT READS IS OF BULK AT MOST 1048576: true; the input reads as it did. -/
def fnExactWithButtressUptoRow : OpenClaim := { program := "ytajfjeoehodhlaa", sum := "7c473495994b8d60f1f2b755b4fc7553eabe401ed57ef3de080dd14c2630d5c1", func := "loop.example/g03301/laws.FnExactWithButtress", spec := "fnExactWithButtress", apart := false, narrowed := true }
def FnExactWithButtressUptoSaid : Prop := fnExactWithButtressUptoRow.holds Try.pinned (OpenSpec.upto fnExactWithButtressSpec)

/-- 'laws.FnExactGreatestForce', WHERE WHAT IT READS IS OF BULK AT MOST 1048576: true; the input reads as it did. -/
def fnExactGreatestForceUptoRow : OpenClaim := { program := "ytajfjeoehodhlaa", sum := "7c473495994b8d60f1f2b755b4fc7553eabe401ed57ef3de080dd14c2630d5c1", func := "loop.example/g03301/laws.FnExactGreatestForce", spec := "fnExactGreatestForce", apart := false, narrowed := true }
def FnExactGreatestForceUptoSaid : Prop := fnExactGreatestForceUptoRow.holds Try.pinned (OpenSpec.upto fnExactGreatestForceSpec)

/-- 'laws.FnExactLeastForce', WHERE WHAT IT READS IS OF BULK AT MOST 1048576: true; the input reads as it did. -/
def fnExactLeastForceUptoRow : OpenClaim := { program := "ytajfjeoehodhlaa", sum := "7c473495994b8d60f1f2b755b4fc7553eabe401ed57ef3de080dd14c2630d5c1", func := "loop.example/g03301/laws.FnExactLeastForce", spec := "fnExactLeastForce", unfollowed := true, recurses := true, apart := false, narrowed := true }
def FnExactLeastForceUptoSaid : Prop := fnExactLeastForceUptoRow.holds Try.pinned (OpenSpec.upto fnExactLeastForceSpec)

/-- 'laws.FnExactSpansOk', WHERE WHAT IT READS IS OF BULK AT MOST 1048576: true; the input reads as it did. -/
def fnExactSpansOkUptoRow : OpenClaim := { program := "ytajfjeoehodhlaa", sum := "7c473495994b8d60f1f2b755b4fc7553eabe401ed57ef3de080dd14c2630d5c1", func := "loop.example/g03301/laws.FnExactSpansOk", spec := "fnExactSpansOk", apart := false, narrowed := true }
def FnExactSpansOkUptoSaid : Prop := fnExactSpansOkUptoRow.holds Try.pinned (OpenSpec.upto fnExactSpansOkSpec)

/-- 'laws.FnBridges', WHERE WHAT IT READS IS OF BULK AT MOST 1048576: true; the input reads as it did. -/
def fnBridgesUptoRow : OpenClaim := { program := "ytajfjeoehodhlaa", sum := "7c473495994b8d60f1f2b755b4fc7553eabe401ed57ef3de080dd14c2630d5c1", func := "loop.example/g03301/laws.FnBridges", spec := "fnBridges", apart := false, narrowed := true }
def FnBridgesUptoSaid : Prop := fnBridgesUptoRow.holds Try.pinned (OpenSpec.upto fnBridgesSpec)

/-- 'laws.FnExactForceRange', WHERE WHAT IT READS IS OF BULK AT MOST 1048576: true; the input reads as it did. -/
def fnExactForceRangeUptoRow : OpenClaim := { program := "ytajfjeoehodhlaa", sum := "7c473495994b8d60f1f2b755b4fc7553eabe401ed57ef3de080dd14c2630d5c1", func := "loop.example/g03301/laws.FnExactForceRange", spec := "fnExactForceRange", unfollowed := true, recurses := true, apart := false, narrowed := true }
def FnExactForceRangeUptoSaid : Prop := fnExactForceRangeUptoRow.holds Try.pinned (OpenSpec.upto fnExactForceRangeSpec)

/-- 'laws.FnExactBridgeStands', WHERE WHAT IT READS IS OF BULK AT MOST 1048576: true; the input reads as it did. -/
def fnExactBridgeStandsUptoRow : OpenClaim := { program := "ytajfjeoehodhlaa", sum := "7c473495994b8d60f1f2b755b4fc7553eabe401ed57ef3de080dd14c2630d5c1", func := "loop.example/g03301/laws.FnExactBridgeStands", spec := "fnExactBridgeStands", apart := false, narrowed := true }
def FnExactBridgeStandsUptoSaid : Prop := fnExactBridgeStandsUptoRow.holds Try.pinned (OpenSpec.upto fnExactBridgeStandsSpec)

/-- 'laws.FnButtresses', WHERE WHAT IT READS IS OF BULK AT MOST 1048576: true; the input reads as it did. -/
def fnButtressesUptoRow : OpenClaim := { program := "ytajfjeoehodhlaa", sum := "7c473495994b8d60f1f2b755b4fc7553eabe401ed57ef3de080dd14c2630d5c1", func := "loop.example/g03301/laws.FnButtresses", spec := "fnButtresses", unfollowed := true, recurses := true, apart := false, narrowed := true }
def FnButtressesUptoSaid : Prop := fnButtressesUptoRow.holds Try.pinned (OpenSpec.upto fnButtressesSpec)

end Rows
end Go.Proofs.Ytajfjeoehodhlaa
