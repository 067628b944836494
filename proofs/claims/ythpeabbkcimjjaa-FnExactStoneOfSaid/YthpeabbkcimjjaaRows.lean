/-
  No cell of these rows narrows 'for every input' (looked for: loops, veiled, ifaces, maps, wideKeys, modest, calm, conditions, laid).
  DERIVED. THE GIVEN ROWS OF THIS SEAT. 12 by the template 'for every input the law returns true; each argument reads behind the call as it read before'; 0 by the template 'total and deterministic' (their statements: YthpeabbkcimjjaaTotals.lean).
  GIVEN WITH THE SEED: the statements are not yours to turn. If you find one false, say at which input.
  Laid BY PROGRAM, IN A SANDBOX (cutbox-rows.mjs): the forced cells as the released guide's own fill.sh prints them over the translation a21bedb9b4738ddf… (all of the seat's roots in one cut). By AI agents, Wed Nov 11 2026. No macro, syntax, notation, axiom, sorry.
-/
import Derived.Test.YthpeabbkcimjjaaChecked
import GoSem.Claim
import GoSem.ClaimJoined
import GoSem.ClaimMapViews
import Derived.JoinedTies
import Derived.KernelRfl
namespace Go.Proofs.Ythpeabbkcimjjaa
/- THE CELL 'sum', in the pinned program and in every row, IS THE sha256 OF THE DUMP (.gsa) THAT YthpeabbkcimjjaaProg.lean LOADS. Nothing in Lean hashes anything: it is a label: what it is worth is what the hold of that sum in a sandbox is worth. -/
noncomputable def Try.pinned : Pinned := { name := "ythpeabbkcimjjaa", sum := "a21bedb9b4738ddf77315949329435ff3f1988a78935971ca5cf81ab4612843c", checked := Try.checked }
namespace Rows
def none {H : Type} : Left H := { results := [], args := [] }

/-- 'laws.FnExactLoadsOk': WHATEVER THE INPUT: true; the input reads as it did. -/
def fnExactLoadsOkSpec : ChangeSpec := { name := "fnExactLoadsOk", fn := fun _ => fun
  | [d1, d2] => { results := [.lit (.bool true)], args := [d1, d2] }
  | _ => none }
def fnExactLoadsOkRow : OpenClaim := { program := "ythpeabbkcimjjaa", sum := "a21bedb9b4738ddf77315949329435ff3f1988a78935971ca5cf81ab4612843c", func := "loop.example/g03301/laws.FnExactLoadsOk", spec := "fnExactLoadsOk", unfollowed := true, recurses := true, apart := false }
def FnExactLoadsOkSaid : Prop := fnExactLoadsOkRow.holds Try.pinned (OpenSpec.ofChange fnExactLoadsOkSpec)

/-- ITS FALSE NEIGHBOUR: 'it returns false'. Refute it at one input. -/
def fnExactLoadsOkWrong : ChangeSpec := { name := "fnExactLoadsOk", fn := fun _ => fun
  | [d1, d2] => { results := [.lit (.bool false)], args := [d1, d2] }
  | _ => none }
def FnExactLoadsOkWrongFalsely : Prop := fnExactLoadsOkRow.holds Try.pinned (OpenSpec.ofChange fnExactLoadsOkWrong)

/-- 'laws.FnExactStoneOf': WHATEVER THE INPUT: true; the input reads as it did. -/
def fnExactStoneOfSpec : ChangeSpec := { name := "fnExactStoneOf", fn := fun _ => fun
  | [d1, d2] => { results := [.lit (.bool true)], args := [d1, d2] }
  | _ => none }
def fnExactStoneOfRow : OpenClaim := { program := "ythpeabbkcimjjaa", sum := "a21bedb9b4738ddf77315949329435ff3f1988a78935971ca5cf81ab4612843c", func := "loop.example/g03301/laws.FnExactStoneOf", spec := "fnExactStoneOf", unfollowed := true, recurses := true, apart := false }
def FnExactStoneOfSaid : Prop := fnExactStoneOfRow.holds Try.pinned (OpenSpec.ofChange fnExactStoneOfSpec)

/-- ITS FALSE NEIGHBOUR: 'it returns false'. Refute it at one input. -/
def fnExactStoneOfWrong : ChangeSpec := { name := "fnExactStoneOf", fn := fun _ => fun
  | [d1, d2] => { results := [.lit (.bool false)], args := [d1, d2] }
  | _ => none }
def FnExactStoneOfWrongFalsely : Prop := fnExactStoneOfRow.holds Try.pinned (OpenSpec.ofChange fnExactStoneOfWrong)

/-- 'laws.FnExactMirrorLoads': WHATEVER THE INPUT: true; the input reads as it did. -/
def fnExactMirrorLoadsSpec : ChangeSpec := { name := "fnExactMirrorLoads", fn := fun _ => fun
  | [d1, d2, d3] => { results := [.lit (.bool true)], args := [d1, d2, d3] }
  | _ => none }
def fnExactMirrorLoadsRow : OpenClaim := { program := "ythpeabbkcimjjaa", sum := "a21bedb9b4738ddf77315949329435ff3f1988a78935971ca5cf81ab4612843c", func := "loop.example/g03301/laws.FnExactMirrorLoads", spec := "fnExactMirrorLoads", unfollowed := true, recurses := true, apart := false }
def FnExactMirrorLoadsSaid : Prop := fnExactMirrorLoadsRow.holds Try.pinned (OpenSpec.ofChange fnExactMirrorLoadsSpec)

/-- ITS FALSE NEIGHBOUR: 'it returns false'. Refute it at one input. -/
def fnExactMirrorLoadsWrong : ChangeSpec := { name := "fnExactMirrorLoads", fn := fun _ => fun
  | [d1, d2, d3] => { results := [.lit (.bool false)], args := [d1, d2, d3] }
  | _ => none }
def FnExactMirrorLoadsWrongFalsely : Prop := fnExactMirrorLoadsRow.holds Try.pinned (OpenSpec.ofChange fnExactMirrorLoadsWrong)

/-- 'laws.FnExactMomentLeft': WHATEVER THE INPUT: true; the input reads as it did. -/
def fnExactMomentLeftSpec : ChangeSpec := { name := "fnExactMomentLeft", fn := fun _ => fun
  | [d1, d2, d3] => { results := [.lit (.bool true)], args := [d1, d2, d3] }
  | _ => none }
def fnExactMomentLeftRow : OpenClaim := { program := "ythpeabbkcimjjaa", sum := "a21bedb9b4738ddf77315949329435ff3f1988a78935971ca5cf81ab4612843c", func := "loop.example/g03301/laws.FnExactMomentLeft", spec := "fnExactMomentLeft", unfollowed := true, recurses := true, apart := false }
def FnExactMomentLeftSaid : Prop := fnExactMomentLeftRow.holds Try.pinned (OpenSpec.ofChange fnExactMomentLeftSpec)

/-- ITS FALSE NEIGHBOUR: 'it returns false'. Refute it at one input. -/
def fnExactMomentLeftWrong : ChangeSpec := { name := "fnExactMomentLeft", fn := fun _ => fun
  | [d1, d2, d3] => { results := [.lit (.bool false)], args := [d1, d2, d3] }
  | _ => none }
def FnExactMomentLeftWrongFalsely : Prop := fnExactMomentLeftRow.holds Try.pinned (OpenSpec.ofChange fnExactMomentLeftWrong)

/-- 'laws.FnExactWeightLeft': WHATEVER THE INPUT: true; the input reads as it did. -/
def fnExactWeightLeftSpec : ChangeSpec := { name := "fnExactWeightLeft", fn := fun _ => fun
  | [d1, d2, d3] => { results := [.lit (.bool true)], args := [d1, d2, d3] }
  | _ => none }
def fnExactWeightLeftRow : OpenClaim := { program := "ythpeabbkcimjjaa", sum := "a21bedb9b4738ddf77315949329435ff3f1988a78935971ca5cf81ab4612843c", func := "loop.example/g03301/laws.FnExactWeightLeft", spec := "fnExactWeightLeft", unfollowed := true, recurses := true, apart := false }
def FnExactWeightLeftSaid : Prop := fnExactWeightLeftRow.holds Try.pinned (OpenSpec.ofChange fnExactWeightLeftSpec)

/-- ITS FALSE NEIGHBOUR: 'it returns false'. Refute it at one input. -/
def fnExactWeightLeftWrong : ChangeSpec := { name := "fnExactWeightLeft", fn := fun _ => fun
  | [d1, d2, d3] => { results := [.lit (.bool false)], args := [d1, d2, d3] }
  | _ => none }
def FnExactWeightLeftWrongFalsely : Prop := fnExactWeightLeftRow.holds Try.pinned (OpenSpec.ofChange fnExactWeightLeftWrong)

/-- 'laws.FnExactTotalOf': WHATEVER THE INPUT: true; the input reads as it did. -/
def fnExactTotalOfSpec : ChangeSpec := { name := "fnExactTotalOf", fn := fun _ => fun
  | [d1, d2] => { results := [.lit (.bool true)], args := [d1, d2] }
  | _ => none }
def fnExactTotalOfRow : OpenClaim := { program := "ythpeabbkcimjjaa", sum := "a21bedb9b4738ddf77315949329435ff3f1988a78935971ca5cf81ab4612843c", func := "loop.example/g03301/laws.FnExactTotalOf", spec := "fnExactTotalOf", unfollowed := true, recurses := true, apart := false }
def FnExactTotalOfSaid : Prop := fnExactTotalOfRow.holds Try.pinned (OpenSpec.ofChange fnExactTotalOfSpec)

/-- ITS FALSE NEIGHBOUR: 'it returns false'. Refute it at one input. -/
def fnExactTotalOfWrong : ChangeSpec := { name := "fnExactTotalOf", fn := fun _ => fun
  | [d1, d2] => { results := [.lit (.bool false)], args := [d1, d2] }
  | _ => none }
def FnExactTotalOfWrongFalsely : Prop := fnExactTotalOfRow.holds Try.pinned (OpenSpec.ofChange fnExactTotalOfWrong)

/-- 'laws.FnExactMeetingOf': WHATEVER THE INPUT: true; the input reads as it did. -/
def fnExactMeetingOfSpec : ChangeSpec := { name := "fnExactMeetingOf", fn := fun _ => fun
  | [d1, d2] => { results := [.lit (.bool true)], args := [d1, d2] }
  | _ => none }
def fnExactMeetingOfRow : OpenClaim := { program := "ythpeabbkcimjjaa", sum := "a21bedb9b4738ddf77315949329435ff3f1988a78935971ca5cf81ab4612843c", func := "loop.example/g03301/laws.FnExactMeetingOf", spec := "fnExactMeetingOf", unfollowed := true, recurses := true, apart := false }
def FnExactMeetingOfSaid : Prop := fnExactMeetingOfRow.holds Try.pinned (OpenSpec.ofChange fnExactMeetingOfSpec)

/-- ITS FALSE NEIGHBOUR: 'it returns false'. Refute it at one input. -/
def fnExactMeetingOfWrong : ChangeSpec := { name := "fnExactMeetingOf", fn := fun _ => fun
  | [d1, d2] => { results := [.lit (.bool false)], args := [d1, d2] }
  | _ => none }
def FnExactMeetingOfWrongFalsely : Prop := fnExactMeetingOfRow.holds Try.pinned (OpenSpec.ofChange fnExactMeetingOfWrong)

/-- 'laws.FnExactCommonPoint': WHATEVER THE INPUT: true; the input reads as it did. -/
def fnExactCommonPointSpec : ChangeSpec := { name := "fnExactCommonPoint", fn := fun _ => fun
  | [d1, d2] => { results := [.lit (.bool true)], args := [d1, d2] }
  | _ => none }
def fnExactCommonPointRow : OpenClaim := { program := "ythpeabbkcimjjaa", sum := "a21bedb9b4738ddf77315949329435ff3f1988a78935971ca5cf81ab4612843c", func := "loop.example/g03301/laws.FnExactCommonPoint", spec := "fnExactCommonPoint", unfollowed := true, recurses := true, apart := false }
def FnExactCommonPointSaid : Prop := fnExactCommonPointRow.holds Try.pinned (OpenSpec.ofChange fnExactCommonPointSpec)

/-- ITS FALSE NEIGHBOUR: 'it returns false'. Refute it at one input. -/
def fnExactCommonPointWrong : ChangeSpec := { name := "fnExactCommonPoint", fn := fun _ => fun
  | [d1, d2] => { results := [.lit (.bool false)], args := [d1, d2] }
  | _ => none }
def FnExactCommonPointWrongFalsely : Prop := fnExactCommonPointRow.holds Try.pinned (OpenSpec.ofChange fnExactCommonPointWrong)

/-- 'laws.FnExactPushAt': WHATEVER THE INPUT: true; the input reads as it did. -/
def fnExactPushAtSpec : ChangeSpec := { name := "fnExactPushAt", fn := fun _ => fun
  | [d1, d2, d3, d4] => { results := [.lit (.bool true)], args := [d1, d2, d3, d4] }
  | _ => none }
def fnExactPushAtRow : OpenClaim := { program := "ythpeabbkcimjjaa", sum := "a21bedb9b4738ddf77315949329435ff3f1988a78935971ca5cf81ab4612843c", func := "loop.example/g03301/laws.FnExactPushAt", spec := "fnExactPushAt", unfollowed := true, recurses := true, apart := false }
def FnExactPushAtSaid : Prop := fnExactPushAtRow.holds Try.pinned (OpenSpec.ofChange fnExactPushAtSpec)

/-- ITS FALSE NEIGHBOUR: 'it returns false'. Refute it at one input. -/
def fnExactPushAtWrong : ChangeSpec := { name := "fnExactPushAt", fn := fun _ => fun
  | [d1, d2, d3, d4] => { results := [.lit (.bool false)], args := [d1, d2, d3, d4] }
  | _ => none }
def FnExactPushAtWrongFalsely : Prop := fnExactPushAtRow.holds Try.pinned (OpenSpec.ofChange fnExactPushAtWrong)

/-- 'laws.FnExactMomentsAt': WHATEVER THE INPUT: true; the input reads as it did. -/
def fnExactMomentsAtSpec : ChangeSpec := { name := "fnExactMomentsAt", fn := fun _ => fun
  | [d1, d2, d3, d4] => { results := [.lit (.bool true)], args := [d1, d2, d3, d4] }
  | _ => none }
def fnExactMomentsAtRow : OpenClaim := { program := "ythpeabbkcimjjaa", sum := "a21bedb9b4738ddf77315949329435ff3f1988a78935971ca5cf81ab4612843c", func := "loop.example/g03301/laws.FnExactMomentsAt", spec := "fnExactMomentsAt", unfollowed := true, recurses := true, apart := false }
def FnExactMomentsAtSaid : Prop := fnExactMomentsAtRow.holds Try.pinned (OpenSpec.ofChange fnExactMomentsAtSpec)

/-- ITS FALSE NEIGHBOUR: 'it returns false'. Refute it at one input. -/
def fnExactMomentsAtWrong : ChangeSpec := { name := "fnExactMomentsAt", fn := fun _ => fun
  | [d1, d2, d3, d4] => { results := [.lit (.bool false)], args := [d1, d2, d3, d4] }
  | _ => none }
def FnExactMomentsAtWrongFalsely : Prop := fnExactMomentsAtRow.holds Try.pinned (OpenSpec.ofChange fnExactMomentsAtWrong)

/-- 'laws.FnExactIsInside': WHATEVER THE INPUT: true; the input reads as it did. -/
def fnExactIsInsideSpec : ChangeSpec := { name := "fnExactIsInside", fn := fun _ => fun
  | [d1, d2, d3, d4] => { results := [.lit (.bool true)], args := [d1, d2, d3, d4] }
  | _ => none }
def fnExactIsInsideRow : OpenClaim := { program := "ythpeabbkcimjjaa", sum := "a21bedb9b4738ddf77315949329435ff3f1988a78935971ca5cf81ab4612843c", func := "loop.example/g03301/laws.FnExactIsInside", spec := "fnExactIsInside", unfollowed := true, recurses := true, apart := false }
def FnExactIsInsideSaid : Prop := fnExactIsInsideRow.holds Try.pinned (OpenSpec.ofChange fnExactIsInsideSpec)

/-- ITS FALSE NEIGHBOUR: 'it returns false'. Refute it at one input. -/
def fnExactIsInsideWrong : ChangeSpec := { name := "fnExactIsInside", fn := fun _ => fun
  | [d1, d2, d3, d4] => { results := [.lit (.bool false)], args := [d1, d2, d3, d4] }
  | _ => none }
def FnExactIsInsideWrongFalsely : Prop := fnExactIsInsideRow.holds Try.pinned (OpenSpec.ofChange fnExactIsInsideWrong)

/-- 'laws.FnExactPushOnPier': WHATEVER THE INPUT: true; the input reads as it did. -/
def fnExactPushOnPierSpec : ChangeSpec := { name := "fnExactPushOnPier", fn := fun _ => fun
  | [d1, d2, d3] => { results := [.lit (.bool true)], args := [d1, d2, d3] }
  | _ => none }
def fnExactPushOnPierRow : OpenClaim := { program := "ythpeabbkcimjjaa", sum := "a21bedb9b4738ddf77315949329435ff3f1988a78935971ca5cf81ab4612843c", func := "loop.example/g03301/laws.FnExactPushOnPier", spec := "fnExactPushOnPier", unfollowed := true, recurses := true, apart := false }
def FnExactPushOnPierSaid : Prop := fnExactPushOnPierRow.holds Try.pinned (OpenSpec.ofChange fnExactPushOnPierSpec)

/-- ITS FALSE NEIGHBOUR: 'it returns false'. Refute it at one input. -/
def fnExactPushOnPierWrong : ChangeSpec := { name := "fnExactPushOnPier", fn := fun _ => fun
  | [d1, d2, d3] => { results := [.lit (.bool false)], args := [d1, d2, d3] }
  | _ => none }
def FnExactPushOnPierWrongFalsely : Prop := fnExactPushOnPierRow.holds Try.pinned (OpenSpec.ofChange fnExactPushOnPierWrong)

/- THE SECOND FORM. 'bulk': how many values and letters a reading holds, each counted each time it is reached (what is shared counts as often as it is met; a slice's spare places count too). A statement '..UptoSaid' is the law's where the arguments, and the package variables that the reading takes, are together of bulk at most 1048576: NARROWER than '..Said'. Prove '..Said' where nothing that the law and all that it calls make is longer than what came in: it says more and counts as full. Else prove '..UptoSaid'. A law counts once. -/
mutual
def uptoBulk {H : Type} : DataW H → Nat
  | .lit (.string bytes) => bytes.length + 1
  | .lit _ => 1
  | .nil => 1
  | .ptr d => uptoBulk d + 1
  | .slice elems spare => uptoBulkAll elems + uptoBulkAll spare + 1
  | .agg parts => uptoBulkAll parts + 1
  | .iface _ d => uptoBulk d + 1
  | .map entries => uptoBulkEntries entries + 1
  | .held _ => 1
def uptoBulkAll {H : Type} : List (DataW H) → Nat
  | [] => 0
  | d :: r => uptoBulk d + uptoBulkAll r
def uptoBulkEntries {H : Type} : List (Lit × DataW H) → Nat
  | [] => 0
  | x :: r => uptoBulkEntry x + uptoBulkEntries r
def uptoBulkEntry {H : Type} : Lit × DataW H → Nat
  | (.string bytes, d) => bytes.length + uptoBulk d + 1
  | (_, d) => uptoBulk d + 1
 end
def uptoSmall : (H : Type) → List (DataW H) → Bool := fun _ ds => decide (uptoBulkAll ds ≤ 1048576)
def OpenSpec.upto (s : _root_.Go.ChangeSpec) : _root_.Go.OpenSpec := { _root_.Go.OpenSpec.ofChange s with cond := some uptoSmall }

/-- 'laws.FnExactLoadsOk', WHERE WHAT IT READS IS OF BULK AT MOST 1048576: true; the input reads as it did. -/
def fnExactLoadsOkUptoRow : OpenClaim := { program := "ythpeabbkcimjjaa", sum := "a21bedb9b4738ddf77315949329435ff3f1988a78935971ca5cf81ab4612843c", func := "loop.example/g03301/laws.FnExactLoadsOk", spec := "fnExactLoadsOk", unfollowed := true, recurses := true, apart := false, narrowed := true }
def FnExactLoadsOkUptoSaid : Prop := fnExactLoadsOkUptoRow.holds Try.pinned (OpenSpec.upto fnExactLoadsOkSpec)

/-- 'laws.FnExactStoneOf', WHERE WHAT IT READS IS OF BULK AT MOST 1048576: true; the input reads as it did. -/
def fnExactStoneOfUptoRow : OpenClaim := { program := "ythpeabbkcimjjaa", sum := "a21bedb9b4738ddf77315949329435ff3f1988a78935971ca5cf81ab4612843c", func := "loop.example/g03301/laws.FnExactStoneOf", spec := "fnExactStoneOf", unfollowed := true, recurses := true, apart := false, narrowed := true }
def FnExactStoneOfUptoSaid : Prop := fnExactStoneOfUptoRow.holds Try.pinned (OpenSpec.upto fnExactStoneOfSpec)

/-- 'laws.FnExactMirrorLoads', WHERE WHAT IT READS IS OF BULK AT MOST 1048576: true; the input reads as it did. -/
def fnExactMirrorLoadsUptoRow : OpenClaim := { program := "ythpeabbkcimjjaa", sum := "a21bedb9b4738ddf77315949329435ff3f1988a78935971ca5cf81ab4612843c", func := "loop.example/g03301/laws.FnExactMirrorLoads", spec := "fnExactMirrorLoads", unfollowed := true, recurses := true, apart := false, narrowed := true }
def FnExactMirrorLoadsUptoSaid : Prop := fnExactMirrorLoadsUptoRow.holds Try.pinned (OpenSpec.upto fnExactMirrorLoadsSpec)

/-- 'laws.FnExactMomentLeft', WHERE WHAT IT READS IS OF BULK AT MOST 1048576: true; the input reads as it did. -/
def fnExactMomentLeftUptoRow : OpenClaim := { program := "ythpeabbkcimjjaa", sum := "a21bedb9b4738ddf77315949329435ff3f1988a78935971ca5cf81ab4612843c", func := "loop.example/g03301/laws.FnExactMomentLeft", spec := "fnExactMomentLeft", unfollowed := true, recurses := true, apart := false, narrowed := true }
def FnExactMomentLeftUptoSaid : Prop := fnExactMomentLeftUptoRow.holds Try.pinned (OpenSpec.upto fnExactMomentLeftSpec)

/-- 'laws.FnExactWeightLeft', WHERE WHAT IT READS IS OF BULK AT MOST 1048576: true; the input reads as it did. -/
def fnExactWeightLeftUptoRow : OpenClaim := { program := "ythpeabbkcimjjaa", sum := "a21bedb9b4738ddf77315949329435ff3f1988a78935971ca5cf81ab4612843c", func := "loop.example/g03301/laws.FnExactWeightLeft", spec := "fnExactWeightLeft", unfollowed := true, recurses := true, apart := false, narrowed := true }
def FnExactWeightLeftUptoSaid : Prop := fnExactWeightLeftUptoRow.holds Try.pinned (OpenSpec.upto fnExactWeightLeftSpec)

/-- 'laws.FnExactTotalOf', WHERE WHAT IT READS IS OF BULK AT MOST 1048576: true; the input reads as it did. -/
def fnExactTotalOfUptoRow : OpenClaim := { program := "ythpeabbkcimjjaa", sum := "a21bedb9b4738ddf77315949329435ff3f1988a78935971ca5cf81ab4612843c", func := "loop.example/g03301/laws.FnExactTotalOf", spec := "fnExactTotalOf", unfollowed := true, recurses := true, apart := false, narrowed := true }
def FnExactTotalOfUptoSaid : Prop := fnExactTotalOfUptoRow.holds Try.pinned (OpenSpec.upto fnExactTotalOfSpec)

/-- 'laws.FnExactMeetingOf', WHERE WHAT IT READS IS OF BULK AT MOST 1048576: true; the input reads as it did. -/
def fnExactMeetingOfUptoRow : OpenClaim := { program := "ythpeabbkcimjjaa", sum := "a21bedb9b4738ddf77315949329435ff3f1988a78935971ca5cf81ab4612843c", func := "loop.example/g03301/laws.FnExactMeetingOf", spec := "fnExactMeetingOf", unfollowed := true, recurses := true, apart := false, narrowed := true }
def FnExactMeetingOfUptoSaid : Prop := fnExactMeetingOfUptoRow.holds Try.pinned (OpenSpec.upto fnExactMeetingOfSpec)

/-- 'laws.FnExactCommonPoint', WHERE WHAT IT READS IS OF BULK AT MOST 1048576: true; the input reads as it did. -/
def fnExactCommonPointUptoRow : OpenClaim := { program := "ythpeabbkcimjjaa", sum := "a21bedb9b4738ddf77315949329435ff3f1988a78935971ca5cf81ab4612843c", func := "loop.example/g03301/laws.FnExactCommonPoint", spec := "fnExactCommonPoint", unfollowed := true, recurses := true, apart := false, narrowed := true }
def FnExactCommonPointUptoSaid : Prop := fnExactCommonPointUptoRow.holds Try.pinned (OpenSpec.upto fnExactCommonPointSpec)

/-- 'laws.FnExactPushAt', WHERE WHAT IT READS IS OF BULK AT MOST 1048576: true; the input reads as it did. -/
def fnExactPushAtUptoRow : OpenClaim := { program := "ythpeabbkcimjjaa", sum := "a21bedb9b4738ddf77315949329435ff3f1988a78935971ca5cf81ab4612843c", func := "loop.example/g03301/laws.FnExactPushAt", spec := "fnExactPushAt", unfollowed := true, recurses := true, apart := false, narrowed := true }
def FnExactPushAtUptoSaid : Prop := fnExactPushAtUptoRow.holds Try.pinned (OpenSpec.upto fnExactPushAtSpec)

/-- 'laws.FnExactMomentsAt', WHERE WHAT IT READS IS OF BULK AT MOST 1048576: true; the input reads as it did. -/
def fnExactMomentsAtUptoRow : OpenClaim := { program := "ythpeabbkcimjjaa", sum := "a21bedb9b4738ddf77315949329435ff3f1988a78935971ca5cf81ab4612843c", func := "loop.example/g03301/laws.FnExactMomentsAt", spec := "fnExactMomentsAt", unfollowed := true, recurses := true, apart := false, narrowed := true }
def FnExactMomentsAtUptoSaid : Prop := fnExactMomentsAtUptoRow.holds Try.pinned (OpenSpec.upto fnExactMomentsAtSpec)

/-- 'laws.FnExactIsInside', WHERE WHAT IT READS IS OF BULK AT MOST 1048576: true; the input reads as it did. -/
def fnExactIsInsideUptoRow : OpenClaim := { program := "ythpeabbkcimjjaa", sum := "a21bedb9b4738ddf77315949329435ff3f1988a78935971ca5cf81ab4612843c", func := "loop.example/g03301/laws.FnExactIsInside", spec := "fnExactIsInside", unfollowed := true, recurses := true, apart := false, narrowed := true }
def FnExactIsInsideUptoSaid : Prop := fnExactIsInsideUptoRow.holds Try.pinned (OpenSpec.upto fnExactIsInsideSpec)

/-- 'laws.FnExactPushOnPier', WHERE WHAT IT READS IS OF BULK AT MOST 1048576: true; the input reads as it did. -/
def fnExactPushOnPierUptoRow : OpenClaim := { program := "ythpeabbkcimjjaa", sum := "a21bedb9b4738ddf77315949329435ff3f1988a78935971ca5cf81ab4612843c", func := "loop.example/g03301/laws.FnExactPushOnPier", spec := "fnExactPushOnPier", unfollowed := true, recurses := true, apart := false, narrowed := true }
def FnExactPushOnPierUptoSaid : Prop := fnExactPushOnPierUptoRow.holds Try.pinned (OpenSpec.upto fnExactPushOnPierSpec)

end Rows
end Go.Proofs.Ythpeabbkcimjjaa
