/-
  No cell of these rows narrows 'for every input' (looked for: loops, veiled, ifaces, maps, wideKeys, modest, calm, conditions, laid).
  DERIVED. THE GIVEN ROWS OF THIS SEAT. 12 by the template 'for every input the law returns true; each argument reads behind the call as it read before'; 0 by the template 'total and deterministic' (their statements: YtdhhglnekfboiaaTotals.lean).
  GIVEN WITH THE SEED: the statements are not yours to turn. If you find one false, say at which input.
  Laid BY PROGRAM, IN A SANDBOX (cutbox-rows.mjs): the forced cells as the released guide's own fill.sh prints them over the translation ab3a1e701de4ffb1… (all of the seat's roots in one cut). By AI agents, Wed Nov 11 2026. No macro, syntax, notation, axiom, sorry.
-/
import Derived.Test.YtdhhglnekfboiaaChecked
import GoSem.Claim
import GoSem.ClaimJoined
import GoSem.ClaimMapViews
import Derived.JoinedTies
import Derived.KernelRfl
namespace Go.Proofs.Ytdhhglnekfboiaa
/- THE CELL 'sum', in the pinned program and in every row, IS THE sha256 OF THE DUMP (.gsa) THAT YtdhhglnekfboiaaProg.lean LOADS. Nothing in Lean hashes anything: it is a label: what it is worth is what the hold of that sum in a sandbox is worth. -/
noncomputable def Try.pinned : Pinned := { name := "ytdhhglnekfboiaa", sum := "ab3a1e701de4ffb1c9a1bf3b7e515fed22f738328b73c35c3053fa2842fe397d", checked := Try.checked }
namespace Rows
def none {H : Type} : Left H := { results := [], args := [] }

/-- 'laws.FnExactMirrorStone': WHATEVER THE INPUT: true; the input reads as it did. -/
def fnExactMirrorStoneSpec : ChangeSpec := { name := "fnExactMirrorStone", fn := fun _ => fun
  | [d1, d2] => { results := [.lit (.bool true)], args := [d1, d2] }
  | _ => none }
def fnExactMirrorStoneRow : OpenClaim := { program := "ytdhhglnekfboiaa", sum := "ab3a1e701de4ffb1c9a1bf3b7e515fed22f738328b73c35c3053fa2842fe397d", func := "loop.example/g03301/laws.FnExactMirrorStone", spec := "fnExactMirrorStone", unfollowed := true, recurses := true, apart := false }
def FnExactMirrorStoneSaid : Prop := fnExactMirrorStoneRow.holds Try.pinned (OpenSpec.ofChange fnExactMirrorStoneSpec)

/-- ITS FALSE NEIGHBOUR: 'it returns false'. Refute it at one input. -/
def fnExactMirrorStoneWrong : ChangeSpec := { name := "fnExactMirrorStone", fn := fun _ => fun
  | [d1, d2] => { results := [.lit (.bool false)], args := [d1, d2] }
  | _ => none }
def FnExactMirrorStoneWrongFalsely : Prop := fnExactMirrorStoneRow.holds Try.pinned (OpenSpec.ofChange fnExactMirrorStoneWrong)

/-- 'laws.FnExactMirrorArch': WHATEVER THE INPUT: true; the input reads as it did. -/
def fnExactMirrorArchSpec : ChangeSpec := { name := "fnExactMirrorArch", fn := fun _ => fun
  | [d1, d2] => { results := [.lit (.bool true)], args := [d1, d2] }
  | _ => none }
def fnExactMirrorArchRow : OpenClaim := { program := "ytdhhglnekfboiaa", sum := "ab3a1e701de4ffb1c9a1bf3b7e515fed22f738328b73c35c3053fa2842fe397d", func := "loop.example/g03301/laws.FnExactMirrorArch", spec := "fnExactMirrorArch", unfollowed := true, recurses := true, apart := false }
def FnExactMirrorArchSaid : Prop := fnExactMirrorArchRow.holds Try.pinned (OpenSpec.ofChange fnExactMirrorArchSpec)

/-- ITS FALSE NEIGHBOUR: 'it returns false'. Refute it at one input. -/
def fnExactMirrorArchWrong : ChangeSpec := { name := "fnExactMirrorArch", fn := fun _ => fun
  | [d1, d2] => { results := [.lit (.bool false)], args := [d1, d2] }
  | _ => none }
def FnExactMirrorArchWrongFalsely : Prop := fnExactMirrorArchRow.holds Try.pinned (OpenSpec.ofChange fnExactMirrorArchWrong)

/-- 'laws.FnExactHingesOf': WHATEVER THE INPUT: true; the input reads as it did. -/
def fnExactHingesOfSpec : ChangeSpec := { name := "fnExactHingesOf", fn := fun _ => fun
  | [d1, d2] => { results := [.lit (.bool true)], args := [d1, d2] }
  | _ => none }
def fnExactHingesOfRow : OpenClaim := { program := "ytdhhglnekfboiaa", sum := "ab3a1e701de4ffb1c9a1bf3b7e515fed22f738328b73c35c3053fa2842fe397d", func := "loop.example/g03301/laws.FnExactHingesOf", spec := "fnExactHingesOf", unfollowed := true, recurses := true, apart := false }
def FnExactHingesOfSaid : Prop := fnExactHingesOfRow.holds Try.pinned (OpenSpec.ofChange fnExactHingesOfSpec)

/-- ITS FALSE NEIGHBOUR: 'it returns false'. Refute it at one input. -/
def fnExactHingesOfWrong : ChangeSpec := { name := "fnExactHingesOf", fn := fun _ => fun
  | [d1, d2] => { results := [.lit (.bool false)], args := [d1, d2] }
  | _ => none }
def FnExactHingesOfWrongFalsely : Prop := fnExactHingesOfRow.holds Try.pinned (OpenSpec.ofChange fnExactHingesOfWrong)

/-- 'laws.FnExactSidesOf': WHATEVER THE INPUT: true; the input reads as it did. -/
def fnExactSidesOfSpec : ChangeSpec := { name := "fnExactSidesOf", fn := fun _ => fun
  | [d1, d2] => { results := [.lit (.bool true)], args := [d1, d2] }
  | _ => none }
def fnExactSidesOfRow : OpenClaim := { program := "ytdhhglnekfboiaa", sum := "ab3a1e701de4ffb1c9a1bf3b7e515fed22f738328b73c35c3053fa2842fe397d", func := "loop.example/g03301/laws.FnExactSidesOf", spec := "fnExactSidesOf", unfollowed := true, recurses := true, apart := false }
def FnExactSidesOfSaid : Prop := fnExactSidesOfRow.holds Try.pinned (OpenSpec.ofChange fnExactSidesOfSpec)

/-- ITS FALSE NEIGHBOUR: 'it returns false'. Refute it at one input. -/
def fnExactSidesOfWrong : ChangeSpec := { name := "fnExactSidesOf", fn := fun _ => fun
  | [d1, d2] => { results := [.lit (.bool false)], args := [d1, d2] }
  | _ => none }
def FnExactSidesOfWrongFalsely : Prop := fnExactSidesOfRow.holds Try.pinned (OpenSpec.ofChange fnExactSidesOfWrong)

/-- 'laws.FnExactMirrorThrust': WHATEVER THE INPUT: true; the input reads as it did. -/
def fnExactMirrorThrustSpec : ChangeSpec := { name := "fnExactMirrorThrust", fn := fun _ => fun
  | [d1, d2, d3] => { results := [.lit (.bool true)], args := [d1, d2, d3] }
  | _ => none }
def fnExactMirrorThrustRow : OpenClaim := { program := "ytdhhglnekfboiaa", sum := "ab3a1e701de4ffb1c9a1bf3b7e515fed22f738328b73c35c3053fa2842fe397d", func := "loop.example/g03301/laws.FnExactMirrorThrust", spec := "fnExactMirrorThrust", unfollowed := true, recurses := true, apart := false }
def FnExactMirrorThrustSaid : Prop := fnExactMirrorThrustRow.holds Try.pinned (OpenSpec.ofChange fnExactMirrorThrustSpec)

/-- ITS FALSE NEIGHBOUR: 'it returns false'. Refute it at one input. -/
def fnExactMirrorThrustWrong : ChangeSpec := { name := "fnExactMirrorThrust", fn := fun _ => fun
  | [d1, d2, d3] => { results := [.lit (.bool false)], args := [d1, d2, d3] }
  | _ => none }
def FnExactMirrorThrustWrongFalsely : Prop := fnExactMirrorThrustRow.holds Try.pinned (OpenSpec.ofChange fnExactMirrorThrustWrong)

/-- 'laws.FnExactPlaceAt': WHATEVER THE INPUT: true; the input reads as it did. -/
def fnExactPlaceAtSpec : ChangeSpec := { name := "fnExactPlaceAt", fn := fun _ => fun
  | [d1, d2, d3, d4] => { results := [.lit (.bool true)], args := [d1, d2, d3, d4] }
  | _ => none }
def fnExactPlaceAtRow : OpenClaim := { program := "ytdhhglnekfboiaa", sum := "ab3a1e701de4ffb1c9a1bf3b7e515fed22f738328b73c35c3053fa2842fe397d", func := "loop.example/g03301/laws.FnExactPlaceAt", spec := "fnExactPlaceAt", unfollowed := true, recurses := true, apart := false }
def FnExactPlaceAtSaid : Prop := fnExactPlaceAtRow.holds Try.pinned (OpenSpec.ofChange fnExactPlaceAtSpec)

/-- ITS FALSE NEIGHBOUR: 'it returns false'. Refute it at one input. -/
def fnExactPlaceAtWrong : ChangeSpec := { name := "fnExactPlaceAt", fn := fun _ => fun
  | [d1, d2, d3, d4] => { results := [.lit (.bool false)], args := [d1, d2, d3, d4] }
  | _ => none }
def FnExactPlaceAtWrongFalsely : Prop := fnExactPlaceAtRow.holds Try.pinned (OpenSpec.ofChange fnExactPlaceAtWrong)

/-- 'laws.FnExactStandsWith': WHATEVER THE INPUT: true; the input reads as it did. -/
def fnExactStandsWithSpec : ChangeSpec := { name := "fnExactStandsWith", fn := fun _ => fun
  | [d1, d2, d3] => { results := [.lit (.bool true)], args := [d1, d2, d3] }
  | _ => none }
def fnExactStandsWithRow : OpenClaim := { program := "ytdhhglnekfboiaa", sum := "ab3a1e701de4ffb1c9a1bf3b7e515fed22f738328b73c35c3053fa2842fe397d", func := "loop.example/g03301/laws.FnExactStandsWith", spec := "fnExactStandsWith", unfollowed := true, recurses := true, apart := false }
def FnExactStandsWithSaid : Prop := fnExactStandsWithRow.holds Try.pinned (OpenSpec.ofChange fnExactStandsWithSpec)

/-- ITS FALSE NEIGHBOUR: 'it returns false'. Refute it at one input. -/
def fnExactStandsWithWrong : ChangeSpec := { name := "fnExactStandsWith", fn := fun _ => fun
  | [d1, d2, d3] => { results := [.lit (.bool false)], args := [d1, d2, d3] }
  | _ => none }
def FnExactStandsWithWrongFalsely : Prop := fnExactStandsWithRow.holds Try.pinned (OpenSpec.ofChange fnExactStandsWithWrong)

/-- 'laws.FnExactRowsOf': WHATEVER THE INPUT: true; the input reads as it did. -/
def fnExactRowsOfSpec : ChangeSpec := { name := "fnExactRowsOf", fn := fun _ => fun
  | [d1, d2] => { results := [.lit (.bool true)], args := [d1, d2] }
  | _ => none }
def fnExactRowsOfRow : OpenClaim := { program := "ytdhhglnekfboiaa", sum := "ab3a1e701de4ffb1c9a1bf3b7e515fed22f738328b73c35c3053fa2842fe397d", func := "loop.example/g03301/laws.FnExactRowsOf", spec := "fnExactRowsOf", unfollowed := true, recurses := true, apart := false }
def FnExactRowsOfSaid : Prop := fnExactRowsOfRow.holds Try.pinned (OpenSpec.ofChange fnExactRowsOfSpec)

/-- ITS FALSE NEIGHBOUR: 'it returns false'. Refute it at one input. -/
def fnExactRowsOfWrong : ChangeSpec := { name := "fnExactRowsOf", fn := fun _ => fun
  | [d1, d2] => { results := [.lit (.bool false)], args := [d1, d2] }
  | _ => none }
def FnExactRowsOfWrongFalsely : Prop := fnExactRowsOfRow.holds Try.pinned (OpenSpec.ofChange fnExactRowsOfWrong)

/-- 'laws.FnExactTouchedJoints': WHATEVER THE INPUT: true; the input reads as it did. -/
def fnExactTouchedJointsSpec : ChangeSpec := { name := "fnExactTouchedJoints", fn := fun _ => fun
  | [d1, d2, d3] => { results := [.lit (.bool true)], args := [d1, d2, d3] }
  | _ => none }
def fnExactTouchedJointsRow : OpenClaim := { program := "ytdhhglnekfboiaa", sum := "ab3a1e701de4ffb1c9a1bf3b7e515fed22f738328b73c35c3053fa2842fe397d", func := "loop.example/g03301/laws.FnExactTouchedJoints", spec := "fnExactTouchedJoints", unfollowed := true, recurses := true, apart := false }
def FnExactTouchedJointsSaid : Prop := fnExactTouchedJointsRow.holds Try.pinned (OpenSpec.ofChange fnExactTouchedJointsSpec)

/-- ITS FALSE NEIGHBOUR: 'it returns false'. Refute it at one input. -/
def fnExactTouchedJointsWrong : ChangeSpec := { name := "fnExactTouchedJoints", fn := fun _ => fun
  | [d1, d2, d3] => { results := [.lit (.bool false)], args := [d1, d2, d3] }
  | _ => none }
def FnExactTouchedJointsWrongFalsely : Prop := fnExactTouchedJointsRow.holds Try.pinned (OpenSpec.ofChange fnExactTouchedJointsWrong)

/-- 'laws.FnExactPlacesOf': WHATEVER THE INPUT: true; the input reads as it did. -/
def fnExactPlacesOfSpec : ChangeSpec := { name := "fnExactPlacesOf", fn := fun _ => fun
  | [d1, d2, d3] => { results := [.lit (.bool true)], args := [d1, d2, d3] }
  | _ => none }
def fnExactPlacesOfRow : OpenClaim := { program := "ytdhhglnekfboiaa", sum := "ab3a1e701de4ffb1c9a1bf3b7e515fed22f738328b73c35c3053fa2842fe397d", func := "loop.example/g03301/laws.FnExactPlacesOf", spec := "fnExactPlacesOf", unfollowed := true, recurses := true, apart := false }
def FnExactPlacesOfSaid : Prop := fnExactPlacesOfRow.holds Try.pinned (OpenSpec.ofChange fnExactPlacesOfSpec)

/-- ITS FALSE NEIGHBOUR: 'it returns false'. Refute it at one input. -/
def fnExactPlacesOfWrong : ChangeSpec := { name := "fnExactPlacesOf", fn := fun _ => fun
  | [d1, d2, d3] => { results := [.lit (.bool false)], args := [d1, d2, d3] }
  | _ => none }
def FnExactPlacesOfWrongFalsely : Prop := fnExactPlacesOfRow.holds Try.pinned (OpenSpec.ofChange fnExactPlacesOfWrong)

/-- 'laws.FnExactOpenHinges': WHATEVER THE INPUT: true; the input reads as it did. -/
def fnExactOpenHingesSpec : ChangeSpec := { name := "fnExactOpenHinges", fn := fun _ => fun
  | [d1, d2, d3] => { results := [.lit (.bool true)], args := [d1, d2, d3] }
  | _ => none }
def fnExactOpenHingesRow : OpenClaim := { program := "ytdhhglnekfboiaa", sum := "ab3a1e701de4ffb1c9a1bf3b7e515fed22f738328b73c35c3053fa2842fe397d", func := "loop.example/g03301/laws.FnExactOpenHinges", spec := "fnExactOpenHinges", unfollowed := true, recurses := true, apart := false }
def FnExactOpenHingesSaid : Prop := fnExactOpenHingesRow.holds Try.pinned (OpenSpec.ofChange fnExactOpenHingesSpec)

/-- ITS FALSE NEIGHBOUR: 'it returns false'. Refute it at one input. -/
def fnExactOpenHingesWrong : ChangeSpec := { name := "fnExactOpenHinges", fn := fun _ => fun
  | [d1, d2, d3] => { results := [.lit (.bool false)], args := [d1, d2, d3] }
  | _ => none }
def FnExactOpenHingesWrongFalsely : Prop := fnExactOpenHingesRow.holds Try.pinned (OpenSpec.ofChange fnExactOpenHingesWrong)

/-- 'laws.FnExactCollapseOf': WHATEVER THE INPUT: true; the input reads as it did. -/
def fnExactCollapseOfSpec : ChangeSpec := { name := "fnExactCollapseOf", fn := fun _ => fun
  | [d1, d2] => { results := [.lit (.bool true)], args := [d1, d2] }
  | _ => none }
def fnExactCollapseOfRow : OpenClaim := { program := "ytdhhglnekfboiaa", sum := "ab3a1e701de4ffb1c9a1bf3b7e515fed22f738328b73c35c3053fa2842fe397d", func := "loop.example/g03301/laws.FnExactCollapseOf", spec := "fnExactCollapseOf", unfollowed := true, recurses := true, apart := false }
def FnExactCollapseOfSaid : Prop := fnExactCollapseOfRow.holds Try.pinned (OpenSpec.ofChange fnExactCollapseOfSpec)

/-- ITS FALSE NEIGHBOUR: 'it returns false'. Refute it at one input. -/
def fnExactCollapseOfWrong : ChangeSpec := { name := "fnExactCollapseOf", fn := fun _ => fun
  | [d1, d2] => { results := [.lit (.bool false)], args := [d1, d2] }
  | _ => none }
def FnExactCollapseOfWrongFalsely : Prop := fnExactCollapseOfRow.holds Try.pinned (OpenSpec.ofChange fnExactCollapseOfWrong)

/- THE SECOND FORM. 'bulk': how many values and letters a reading holds, each counted each time it is reached (what is shared counts as often as it is met; a slice's spare places count too). A statement '..UptoSaid' is the law's where the arguments, and the package variables that the reading takes, are together of bulk at most 1048576: NARROWER than '..Said'. Prove '..Said' where nothing that the law and all that it calls make is longer than what came in: it says more and counts as full. Else prove '..UptoSaid'. A law counts once. -/
mutual
def uptoBulk {H : Type} : DataW H → Nat
  | .lit (.string bytes) => bytes.length + 1
  | .lit _ => 1
  | .nil => 1
  | .ptr d => uptoBulk d + 1
  | .slice elems spare => uptoBulkAll elems + uptoBulkAll spare + 1
  | .agg parts => uptoBulkAll parts + 1
  | .iface _ d => uptoBulk d + 1
  | .map entries => uptoBulkEntries entries + 1
  | .held _ => 1
def uptoBulkAll {H : Type} : List (DataW H) → Nat
  | [] => 0
  | d :: r => uptoBulk d + uptoBulkAll r
def uptoBulkEntries {H : Type} : List (Lit × DataW H) → Nat
  | [] => 0
  | x :: r => uptoBulkEntry x + uptoBulkEntries r
def uptoBulkEntry {H : Type} : Lit × DataW H → Nat
  | (.string bytes, d) => bytes.length + uptoBulk d + 1
  | (_, d) => uptoBulk d + 1
 end
def uptoSmall : (H : Type) → List (DataW H) → Bool := fun _ ds => decide (uptoBulkAll ds ≤ 1048576)
def OpenSpec.upto (s : _root_.Go.ChangeSpec) : _root_.Go.OpenSpec := { _root_.Go.OpenSpec.ofChange s with cond := some uptoSmall }

/-- 'laws.FnExactMirrorStone', WHERE WHAT IT READS IS OF BULK AT MOST 1048576: true; the input reads as it did. -/
def fnExactMirrorStoneUptoRow : OpenClaim := { program := "ytdhhglnekfboiaa", sum := "ab3a1e701de4ffb1c9a1bf3b7e515fed22f738328b73c35c3053fa2842fe397d", func := "loop.example/g03301/laws.FnExactMirrorStone", spec := "fnExactMirrorStone", unfollowed := true, recurses := true, apart := false, narrowed := true }
def FnExactMirrorStoneUptoSaid : Prop := fnExactMirrorStoneUptoRow.holds Try.pinned (OpenSpec.upto fnExactMirrorStoneSpec)

/-- 'laws.FnExactMirrorArch', WHERE WHAT IT READS IS OF BULK AT MOST 1048576: true; the input reads as it did. -/
def fnExactMirrorArchUptoRow : OpenClaim := { program := "ytdhhglnekfboiaa", sum := "ab3a1e701de4ffb1c9a1bf3b7e515fed22f738328b73c35c3053fa2842fe397d", func := "loop.example/g03301/laws.FnExactMirrorArch", spec := "fnExactMirrorArch", unfollowed := true, recurses := true, apart := false, narrowed := true }
def FnExactMirrorArchUptoSaid : Prop := fnExactMirrorArchUptoRow.holds Try.pinned (OpenSpec.upto fnExactMirrorArchSpec)

/-- 'laws.FnExactHingesOf', WHERE WHAT IT READS IS OF BULK AT MOST 1048576: true; the input reads as it did. -/
def fnExactHingesOfUptoRow : OpenClaim := { program := "ytdhhglnekfboiaa", sum := "ab3a1e701de4ffb1c9a1bf3b7e515fed22f738328b73c35c3053fa2842fe397d", func := "loop.example/g03301/laws.FnExactHingesOf", spec := "fnExactHingesOf", unfollowed := true, recurses := true, apart := false, narrowed := true }
def FnExactHingesOfUptoSaid : Prop := fnExactHingesOfUptoRow.holds Try.pinned (OpenSpec.upto fnExactHingesOfSpec)

/-- 'laws.FnExactSidesOf', WHERE WHAT IT READS IS OF BULK AT MOST 1048576: true; the input reads as it did. -/
def fnExactSidesOfUptoRow : OpenClaim := { program := "ytdhhglnekfboiaa", sum := "ab3a1e701de4ffb1c9a1bf3b7e515fed22f738328b73c35c3053fa2842fe397d", func := "loop.example/g03301/laws.FnExactSidesOf", spec := "fnExactSidesOf", unfollowed := true, recurses := true, apart := false, narrowed := true }
def FnExactSidesOfUptoSaid : Prop := fnExactSidesOfUptoRow.holds Try.pinned (OpenSpec.upto fnExactSidesOfSpec)

/-- 'laws.FnExactMirrorThrust', WHERE WHAT IT READS IS OF BULK AT MOST 1048576: true; the input reads as it did. -/
def fnExactMirrorThrustUptoRow : OpenClaim := { program := "ytdhhglnekfboiaa", sum := "ab3a1e701de4ffb1c9a1bf3b7e515fed22f738328b73c35c3053fa2842fe397d", func := "loop.example/g03301/laws.FnExactMirrorThrust", spec := "fnExactMirrorThrust", unfollowed := true, recurses := true, apart := false, narrowed := true }
def FnExactMirrorThrustUptoSaid : Prop := fnExactMirrorThrustUptoRow.holds Try.pinned (OpenSpec.upto fnExactMirrorThrustSpec)

/-- 'laws.FnExactPlaceAt', WHERE WHAT IT READS IS OF BULK AT MOST 1048576: true; the input reads as it did. -/
def fnExactPlaceAtUptoRow : OpenClaim := { program := "ytdhhglnekfboiaa", sum := "ab3a1e701de4ffb1c9a1bf3b7e515fed22f738328b73c35c3053fa2842fe397d", func := "loop.example/g03301/laws.FnExactPlaceAt", spec := "fnExactPlaceAt", unfollowed := true, recurses := true, apart := false, narrowed := true }
def FnExactPlaceAtUptoSaid : Prop := fnExactPlaceAtUptoRow.holds Try.pinned (OpenSpec.upto fnExactPlaceAtSpec)

/-- 'laws.FnExactStandsWith', WHERE WHAT IT READS IS OF BULK AT MOST 1048576: true; the input reads as it did. -/
def fnExactStandsWithUptoRow : OpenClaim := { program := "ytdhhglnekfboiaa", sum := "ab3a1e701de4ffb1c9a1bf3b7e515fed22f738328b73c35c3053fa2842fe397d", func := "loop.example/g03301/laws.FnExactStandsWith", spec := "fnExactStandsWith", unfollowed := true, recurses := true, apart := false, narrowed := true }
def FnExactStandsWithUptoSaid : Prop := fnExactStandsWithUptoRow.holds Try.pinned (OpenSpec.upto fnExactStandsWithSpec)

/-- 'laws.FnExactRowsOf', WHERE WHAT IT READS IS OF BULK AT MOST 1048576: true; the input reads as it did. -/
def fnExactRowsOfUptoRow : OpenClaim := { program := "ytdhhglnekfboiaa", sum := "ab3a1e701de4ffb1c9a1bf3b7e515fed22f738328b73c35c3053fa2842fe397d", func := "loop.example/g03301/laws.FnExactRowsOf", spec := "fnExactRowsOf", unfollowed := true, recurses := true, apart := false, narrowed := true }
def FnExactRowsOfUptoSaid : Prop := fnExactRowsOfUptoRow.holds Try.pinned (OpenSpec.upto fnExactRowsOfSpec)

/-- 'laws.FnExactTouchedJoints', WHERE WHAT IT READS IS OF BULK AT MOST 1048576: true; the input reads as it did. -/
def fnExactTouchedJointsUptoRow : OpenClaim := { program := "ytdhhglnekfboiaa", sum := "ab3a1e701de4ffb1c9a1bf3b7e515fed22f738328b73c35c3053fa2842fe397d", func := "loop.example/g03301/laws.FnExactTouchedJoints", spec := "fnExactTouchedJoints", unfollowed := true, recurses := true, apart := false, narrowed := true }
def FnExactTouchedJointsUptoSaid : Prop := fnExactTouchedJointsUptoRow.holds Try.pinned (OpenSpec.upto fnExactTouchedJointsSpec)

/-- 'laws.FnExactPlacesOf', WHERE WHAT IT READS IS OF BULK AT MOST 1048576: true; the input reads as it did. -/
def fnExactPlacesOfUptoRow : OpenClaim := { program := "ytdhhglnekfboiaa", sum := "ab3a1e701de4ffb1c9a1bf3b7e515fed22f738328b73c35c3053fa2842fe397d", func := "loop.example/g03301/laws.FnExactPlacesOf", spec := "fnExactPlacesOf", unfollowed := true, recurses := true, apart := false, narrowed := true }
def FnExactPlacesOfUptoSaid : Prop := fnExactPlacesOfUptoRow.holds Try.pinned (OpenSpec.upto fnExactPlacesOfSpec)

/-- 'laws.FnExactOpenHinges', WHERE WHAT IT READS IS OF BULK AT MOST 1048576: true; the input reads as it did. -/
def fnExactOpenHingesUptoRow : OpenClaim := { program := "ytdhhglnekfboiaa", sum := "ab3a1e701de4ffb1c9a1bf3b7e515fed22f738328b73c35c3053fa2842fe397d", func := "loop.example/g03301/laws.FnExactOpenHinges", spec := "fnExactOpenHinges", unfollowed := true, recurses := true, apart := false, narrowed := true }
def FnExactOpenHingesUptoSaid : Prop := fnExactOpenHingesUptoRow.holds Try.pinned (OpenSpec.upto fnExactOpenHingesSpec)

/-- 'laws.FnExactCollapseOf', WHERE WHAT IT READS IS OF BULK AT MOST 1048576: true; the input reads as it did. -/
def fnExactCollapseOfUptoRow : OpenClaim := { program := "ytdhhglnekfboiaa", sum := "ab3a1e701de4ffb1c9a1bf3b7e515fed22f738328b73c35c3053fa2842fe397d", func := "loop.example/g03301/laws.FnExactCollapseOf", spec := "fnExactCollapseOf", unfollowed := true, recurses := true, apart := false, narrowed := true }
def FnExactCollapseOfUptoSaid : Prop := fnExactCollapseOfUptoRow.holds Try.pinned (OpenSpec.upto fnExactCollapseOfSpec)

end Rows
end Go.Proofs.Ytdhhglnekfboiaa
