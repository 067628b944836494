/-
  No cell of these rows narrows 'for every input' (looked for: loops, veiled, ifaces, maps, wideKeys, modest, calm, conditions, laid).
  DERIVED. THE GIVEN ROWS OF THIS SEAT. 12 by the template 'for every input the law returns true; each argument reads behind the call as it read before'; 0 by the template 'total and deterministic' (their statements: YtkieepmkcaipaaaGreatTotals.lean).
  GIVEN WITH THE SEED: the statements are not yours to turn. If you find one false, say at which input.
  Laid BY PROGRAM, IN A SANDBOX (cutbox-rows.mjs): the forced cells as the released guide's own fill.sh prints them over the translation 042e9232123cda78… (all of the seat's roots in one cut). By AI agents, Wed Nov 11 2026. No macro, syntax, notation, axiom, sorry.
-/
import Derived.Test.YtkieepmkcaipaaaGreatChecked
import GoSem.Claim
import GoSem.ClaimJoined
import GoSem.ClaimMapViews
import Derived.JoinedTies
import Derived.KernelRfl
namespace Go.Proofs.YtkieepmkcaipaaaGreat
/- THE CELL 'sum', in the pinned program and in every row, IS THE sha256 OF THE DUMP (.gsa) THAT YtkieepmkcaipaaaGreatProg.lean LOADS. Nothing in Lean hashes anything: it is a label: what it is worth is what the hold of that sum in a sandbox is worth. -/
noncomputable def Tryz.pinned : Pinned := { name := "ytkieepmkcaipaaagreat", sum := "042e9232123cda78a8f4044a0db9e14c7ac3cf982f369c58935621f0367c962b", checked := Tryz.checked }
namespace Rows
def none {H : Type} : Left H := { results := [], args := [] }

/-- 'laws.FnCollapses': WHATEVER THE INPUT: true; the input reads as it did. -/
def fnCollapsesSpec : ChangeSpec := { name := "fnCollapses", fn := fun _ => fun
  | [d] => { results := [.lit (.bool true)], args := [d] }
  | _ => none }
def fnCollapsesRow : OpenClaim := { program := "ytkieepmkcaipaaagreat", sum := "042e9232123cda78a8f4044a0db9e14c7ac3cf982f369c58935621f0367c962b", func := "loop.example/g03301/laws.FnCollapses", spec := "fnCollapses", inPlace := ["(*sync.WaitGroup).Add", "internal/race.ReleaseMerge", "internal/race.Disable", "internal/race.Enable", "internal/synctest.IsInBubble", "internal/synctest.Associate[sync.WaitGroup]", "sync.fatal", "sync/atomic.OrUint64", "sync/atomic.AddUint64", "internal/race.Read", "sync/atomic.LoadUint64", "sync/atomic.StoreUint64", "internal/synctest.Disassociate[sync.WaitGroup]", "sync.runtime_Semrelease", "(*sync.WaitGroup).Done", "(*sync.WaitGroup).Wait", "internal/race.Acquire", "internal/synctest.IsAssociated[sync.WaitGroup]", "sync/atomic.CompareAndSwapUint64", "internal/race.Write", "sync.runtime_SemacquireWaitGroup"], unfollowed := true, recurses := true, leaving := true, apart := false }
def FnCollapsesSaid : Prop := fnCollapsesRow.holds Tryz.pinned (OpenSpec.ofChange fnCollapsesSpec)

/-- ITS FALSE NEIGHBOUR: 'it returns false'. Refute it at one input. -/
def fnCollapsesWrong : ChangeSpec := { name := "fnCollapses", fn := fun _ => fun
  | [d] => { results := [.lit (.bool false)], args := [d] }
  | _ => none }
def FnCollapsesWrongFalsely : Prop := fnCollapsesRow.holds Tryz.pinned (OpenSpec.ofChange fnCollapsesWrong)

/-- 'laws.FnFactors': WHATEVER THE INPUT: true; the input reads as it did. -/
def fnFactorsSpec : ChangeSpec := { name := "fnFactors", fn := fun _ => fun
  | [d] => { results := [.lit (.bool true)], args := [d] }
  | _ => none }
def fnFactorsRow : OpenClaim := { program := "ytkieepmkcaipaaagreat", sum := "042e9232123cda78a8f4044a0db9e14c7ac3cf982f369c58935621f0367c962b", func := "loop.example/g03301/laws.FnFactors", spec := "fnFactors", inPlace := ["(*sync.WaitGroup).Add", "internal/race.ReleaseMerge", "internal/race.Disable", "internal/race.Enable", "internal/synctest.IsInBubble", "internal/synctest.Associate[sync.WaitGroup]", "sync.fatal", "sync/atomic.OrUint64", "sync/atomic.AddUint64", "internal/race.Read", "sync/atomic.LoadUint64", "sync/atomic.StoreUint64", "internal/synctest.Disassociate[sync.WaitGroup]", "sync.runtime_Semrelease", "(*sync.WaitGroup).Done", "(*sync.WaitGroup).Wait", "internal/race.Acquire", "internal/synctest.IsAssociated[sync.WaitGroup]", "sync/atomic.CompareAndSwapUint64", "internal/race.Write", "sync.runtime_SemacquireWaitGroup"], unfollowed := true, recurses := true, leaving := true, apart := false }
def FnFactorsSaid : Prop := fnFactorsRow.holds Tryz.pinned (OpenSpec.ofChange fnFactorsSpec)

/-- ITS FALSE NEIGHBOUR: 'it returns false'. Refute it at one input. -/
def fnFactorsWrong : ChangeSpec := { name := "fnFactors", fn := fun _ => fun
  | [d] => { results := [.lit (.bool false)], args := [d] }
  | _ => none }
def FnFactorsWrongFalsely : Prop := fnFactorsRow.holds Tryz.pinned (OpenSpec.ofChange fnFactorsWrong)

/-- 'laws.FnExactStands': WHATEVER THE INPUT: true; the input reads as it did. -/
def fnExactStandsSpec : ChangeSpec := { name := "fnExactStands", fn := fun _ => fun
  | [d1, d2] => { results := [.lit (.bool true)], args := [d1, d2] }
  | _ => none }
def fnExactStandsRow : OpenClaim := { program := "ytkieepmkcaipaaagreat", sum := "042e9232123cda78a8f4044a0db9e14c7ac3cf982f369c58935621f0367c962b", func := "loop.example/g03301/laws.FnExactStands", spec := "fnExactStands", inPlace := ["(*sync.WaitGroup).Add", "internal/race.ReleaseMerge", "internal/race.Disable", "internal/race.Enable", "internal/synctest.IsInBubble", "internal/synctest.Associate[sync.WaitGroup]", "sync.fatal", "sync/atomic.OrUint64", "sync/atomic.AddUint64", "internal/race.Read", "sync/atomic.LoadUint64", "sync/atomic.StoreUint64", "internal/synctest.Disassociate[sync.WaitGroup]", "sync.runtime_Semrelease", "(*sync.WaitGroup).Done", "(*sync.WaitGroup).Wait", "internal/race.Acquire", "internal/synctest.IsAssociated[sync.WaitGroup]", "sync/atomic.CompareAndSwapUint64", "internal/race.Write", "sync.runtime_SemacquireWaitGroup"], unfollowed := true, recurses := true, leaving := true, apart := false }
def FnExactStandsSaid : Prop := fnExactStandsRow.holds Tryz.pinned (OpenSpec.ofChange fnExactStandsSpec)

/-- ITS FALSE NEIGHBOUR: 'it returns false'. Refute it at one input. -/
def fnExactStandsWrong : ChangeSpec := { name := "fnExactStands", fn := fun _ => fun
  | [d1, d2] => { results := [.lit (.bool false)], args := [d1, d2] }
  | _ => none }
def FnExactStandsWrongFalsely : Prop := fnExactStandsRow.holds Tryz.pinned (OpenSpec.ofChange fnExactStandsWrong)

/-- 'laws.FnExactFirstThrust': WHATEVER THE INPUT: true; the input reads as it did. -/
def fnExactFirstThrustSpec : ChangeSpec := { name := "fnExactFirstThrust", fn := fun _ => fun
  | [d1, d2] => { results := [.lit (.bool true)], args := [d1, d2] }
  | _ => none }
def fnExactFirstThrustRow : OpenClaim := { program := "ytkieepmkcaipaaagreat", sum := "042e9232123cda78a8f4044a0db9e14c7ac3cf982f369c58935621f0367c962b", func := "loop.example/g03301/laws.FnExactFirstThrust", spec := "fnExactFirstThrust", inPlace := ["(*sync.WaitGroup).Add", "internal/race.ReleaseMerge", "internal/race.Disable", "internal/race.Enable", "internal/synctest.IsInBubble", "internal/synctest.Associate[sync.WaitGroup]", "sync.fatal", "sync/atomic.OrUint64", "sync/atomic.AddUint64", "internal/race.Read", "sync/atomic.LoadUint64", "sync/atomic.StoreUint64", "internal/synctest.Disassociate[sync.WaitGroup]", "sync.runtime_Semrelease", "(*sync.WaitGroup).Done", "(*sync.WaitGroup).Wait", "internal/race.Acquire", "internal/synctest.IsAssociated[sync.WaitGroup]", "sync/atomic.CompareAndSwapUint64", "internal/race.Write", "sync.runtime_SemacquireWaitGroup"], unfollowed := true, recurses := true, leaving := true, apart := false }
def FnExactFirstThrustSaid : Prop := fnExactFirstThrustRow.holds Tryz.pinned (OpenSpec.ofChange fnExactFirstThrustSpec)

/-- ITS FALSE NEIGHBOUR: 'it returns false'. Refute it at one input. -/
def fnExactFirstThrustWrong : ChangeSpec := { name := "fnExactFirstThrust", fn := fun _ => fun
  | [d1, d2] => { results := [.lit (.bool false)], args := [d1, d2] }
  | _ => none }
def FnExactFirstThrustWrongFalsely : Prop := fnExactFirstThrustRow.holds Tryz.pinned (OpenSpec.ofChange fnExactFirstThrustWrong)

/-- 'laws.FnExactStandsAt': WHATEVER THE INPUT: true; the input reads as it did. -/
def fnExactStandsAtSpec : ChangeSpec := { name := "fnExactStandsAt", fn := fun _ => fun
  | [d1, d2, d3, d4] => { results := [.lit (.bool true)], args := [d1, d2, d3, d4] }
  | _ => none }
def fnExactStandsAtRow : OpenClaim := { program := "ytkieepmkcaipaaagreat", sum := "042e9232123cda78a8f4044a0db9e14c7ac3cf982f369c58935621f0367c962b", func := "loop.example/g03301/laws.FnExactStandsAt", spec := "fnExactStandsAt", inPlace := ["(*sync.WaitGroup).Add", "internal/race.ReleaseMerge", "internal/race.Disable", "internal/race.Enable", "internal/synctest.IsInBubble", "internal/synctest.Associate[sync.WaitGroup]", "sync.fatal", "sync/atomic.OrUint64", "sync/atomic.AddUint64", "internal/race.Read", "sync/atomic.LoadUint64", "sync/atomic.StoreUint64", "internal/synctest.Disassociate[sync.WaitGroup]", "sync.runtime_Semrelease", "(*sync.WaitGroup).Done", "(*sync.WaitGroup).Wait", "internal/race.Acquire", "internal/synctest.IsAssociated[sync.WaitGroup]", "sync/atomic.CompareAndSwapUint64", "internal/race.Write", "sync.runtime_SemacquireWaitGroup"], unfollowed := true, recurses := true, leaving := true, apart := false }
def FnExactStandsAtSaid : Prop := fnExactStandsAtRow.holds Tryz.pinned (OpenSpec.ofChange fnExactStandsAtSpec)

/-- ITS FALSE NEIGHBOUR: 'it returns false'. Refute it at one input. -/
def fnExactStandsAtWrong : ChangeSpec := { name := "fnExactStandsAt", fn := fun _ => fun
  | [d1, d2, d3, d4] => { results := [.lit (.bool false)], args := [d1, d2, d3, d4] }
  | _ => none }
def FnExactStandsAtWrongFalsely : Prop := fnExactStandsAtRow.holds Tryz.pinned (OpenSpec.ofChange fnExactStandsAtWrong)

/-- 'laws.FnExactLeastThrust': WHATEVER THE INPUT: true; the input reads as it did. -/
def fnExactLeastThrustSpec : ChangeSpec := { name := "fnExactLeastThrust", fn := fun _ => fun
  | [d1, d2] => { results := [.lit (.bool true)], args := [d1, d2] }
  | _ => none }
def fnExactLeastThrustRow : OpenClaim := { program := "ytkieepmkcaipaaagreat", sum := "042e9232123cda78a8f4044a0db9e14c7ac3cf982f369c58935621f0367c962b", func := "loop.example/g03301/laws.FnExactLeastThrust", spec := "fnExactLeastThrust", inPlace := ["(*sync.WaitGroup).Add", "internal/race.ReleaseMerge", "internal/race.Disable", "internal/race.Enable", "internal/synctest.IsInBubble", "internal/synctest.Associate[sync.WaitGroup]", "sync.fatal", "sync/atomic.OrUint64", "sync/atomic.AddUint64", "internal/race.Read", "sync/atomic.LoadUint64", "sync/atomic.StoreUint64", "internal/synctest.Disassociate[sync.WaitGroup]", "sync.runtime_Semrelease", "(*sync.WaitGroup).Done", "(*sync.WaitGroup).Wait", "internal/race.Acquire", "internal/synctest.IsAssociated[sync.WaitGroup]", "sync/atomic.CompareAndSwapUint64", "internal/race.Write", "sync.runtime_SemacquireWaitGroup"], unfollowed := true, recurses := true, leaving := true, apart := false }
def FnExactLeastThrustSaid : Prop := fnExactLeastThrustRow.holds Tryz.pinned (OpenSpec.ofChange fnExactLeastThrustSpec)

/-- ITS FALSE NEIGHBOUR: 'it returns false'. Refute it at one input. -/
def fnExactLeastThrustWrong : ChangeSpec := { name := "fnExactLeastThrust", fn := fun _ => fun
  | [d1, d2] => { results := [.lit (.bool false)], args := [d1, d2] }
  | _ => none }
def FnExactLeastThrustWrongFalsely : Prop := fnExactLeastThrustRow.holds Tryz.pinned (OpenSpec.ofChange fnExactLeastThrustWrong)

/-- 'laws.FnExactFactorWidth': WHATEVER THE INPUT: true; the input reads as it did. -/
def fnExactFactorWidthSpec : ChangeSpec := { name := "fnExactFactorWidth", fn := fun _ => fun
  | [d1, d2, d3, d4] => { results := [.lit (.bool true)], args := [d1, d2, d3, d4] }
  | _ => none }
def fnExactFactorWidthRow : OpenClaim := { program := "ytkieepmkcaipaaagreat", sum := "042e9232123cda78a8f4044a0db9e14c7ac3cf982f369c58935621f0367c962b", func := "loop.example/g03301/laws.FnExactFactorWidth", spec := "fnExactFactorWidth", inPlace := ["(*sync.WaitGroup).Add", "internal/race.ReleaseMerge", "internal/race.Disable", "internal/race.Enable", "internal/synctest.IsInBubble", "internal/synctest.Associate[sync.WaitGroup]", "sync.fatal", "sync/atomic.OrUint64", "sync/atomic.AddUint64", "internal/race.Read", "sync/atomic.LoadUint64", "sync/atomic.StoreUint64", "internal/synctest.Disassociate[sync.WaitGroup]", "sync.runtime_Semrelease", "(*sync.WaitGroup).Done", "(*sync.WaitGroup).Wait", "internal/race.Acquire", "internal/synctest.IsAssociated[sync.WaitGroup]", "sync/atomic.CompareAndSwapUint64", "internal/race.Write", "sync.runtime_SemacquireWaitGroup"], unfollowed := true, recurses := true, leaving := true, apart := false }
def FnExactFactorWidthSaid : Prop := fnExactFactorWidthRow.holds Tryz.pinned (OpenSpec.ofChange fnExactFactorWidthSpec)

/-- ITS FALSE NEIGHBOUR: 'it returns false'. Refute it at one input. -/
def fnExactFactorWidthWrong : ChangeSpec := { name := "fnExactFactorWidth", fn := fun _ => fun
  | [d1, d2, d3, d4] => { results := [.lit (.bool false)], args := [d1, d2, d3, d4] }
  | _ => none }
def FnExactFactorWidthWrongFalsely : Prop := fnExactFactorWidthRow.holds Tryz.pinned (OpenSpec.ofChange fnExactFactorWidthWrong)

/-- 'laws.FnExactThrustsOf': WHATEVER THE INPUT: true; the input reads as it did. -/
def fnExactThrustsOfSpec : ChangeSpec := { name := "fnExactThrustsOf", fn := fun _ => fun
  | [d1, d2] => { results := [.lit (.bool true)], args := [d1, d2] }
  | _ => none }
def fnExactThrustsOfRow : OpenClaim := { program := "ytkieepmkcaipaaagreat", sum := "042e9232123cda78a8f4044a0db9e14c7ac3cf982f369c58935621f0367c962b", func := "loop.example/g03301/laws.FnExactThrustsOf", spec := "fnExactThrustsOf", inPlace := ["(*sync.WaitGroup).Add", "internal/race.ReleaseMerge", "internal/race.Disable", "internal/race.Enable", "internal/synctest.IsInBubble", "internal/synctest.Associate[sync.WaitGroup]", "sync.fatal", "sync/atomic.OrUint64", "sync/atomic.AddUint64", "internal/race.Read", "sync/atomic.LoadUint64", "sync/atomic.StoreUint64", "internal/synctest.Disassociate[sync.WaitGroup]", "sync.runtime_Semrelease", "(*sync.WaitGroup).Done", "(*sync.WaitGroup).Wait", "internal/race.Acquire", "internal/synctest.IsAssociated[sync.WaitGroup]", "sync/atomic.CompareAndSwapUint64", "internal/race.Write", "sync.runtime_SemacquireWaitGroup"], unfollowed := true, recurses := true, leaving := true, apart := false }
def FnExactThrustsOfSaid : Prop := fnExactThrustsOfRow.holds Tryz.pinned (OpenSpec.ofChange fnExactThrustsOfSpec)

/-- ITS FALSE NEIGHBOUR: 'it returns false'. Refute it at one input. -/
def fnExactThrustsOfWrong : ChangeSpec := { name := "fnExactThrustsOf", fn := fun _ => fun
  | [d1, d2] => { results := [.lit (.bool false)], args := [d1, d2] }
  | _ => none }
def FnExactThrustsOfWrongFalsely : Prop := fnExactThrustsOfRow.holds Tryz.pinned (OpenSpec.ofChange fnExactThrustsOfWrong)

/-- 'laws.FnExactGreatestFactor': WHATEVER THE INPUT: true; the input reads as it did. -/
def fnExactGreatestFactorSpec : ChangeSpec := { name := "fnExactGreatestFactor", fn := fun _ => fun
  | [d1, d2, d3, d4] => { results := [.lit (.bool true)], args := [d1, d2, d3, d4] }
  | _ => none }
def fnExactGreatestFactorRow : OpenClaim := { program := "ytkieepmkcaipaaagreat", sum := "042e9232123cda78a8f4044a0db9e14c7ac3cf982f369c58935621f0367c962b", func := "loop.example/g03301/laws.FnExactGreatestFactor", spec := "fnExactGreatestFactor", inPlace := ["(*sync.WaitGroup).Add", "internal/race.ReleaseMerge", "internal/race.Disable", "internal/race.Enable", "internal/synctest.IsInBubble", "internal/synctest.Associate[sync.WaitGroup]", "sync.fatal", "sync/atomic.OrUint64", "sync/atomic.AddUint64", "internal/race.Read", "sync/atomic.LoadUint64", "sync/atomic.StoreUint64", "internal/synctest.Disassociate[sync.WaitGroup]", "sync.runtime_Semrelease", "(*sync.WaitGroup).Done", "(*sync.WaitGroup).Wait", "internal/race.Acquire", "internal/synctest.IsAssociated[sync.WaitGroup]", "sync/atomic.CompareAndSwapUint64", "internal/race.Write", "sync.runtime_SemacquireWaitGroup"], unfollowed := true, recurses := true, leaving := true, apart := false }
def FnExactGreatestFactorSaid : Prop := fnExactGreatestFactorRow.holds Tryz.pinned (OpenSpec.ofChange fnExactGreatestFactorSpec)

/-- ITS FALSE NEIGHBOUR: 'it returns false'. Refute it at one input. -/
def fnExactGreatestFactorWrong : ChangeSpec := { name := "fnExactGreatestFactor", fn := fun _ => fun
  | [d1, d2, d3, d4] => { results := [.lit (.bool false)], args := [d1, d2, d3, d4] }
  | _ => none }
def FnExactGreatestFactorWrongFalsely : Prop := fnExactGreatestFactorRow.holds Tryz.pinned (OpenSpec.ofChange fnExactGreatestFactorWrong)

/-- 'laws.FnExactLeastFactor': WHATEVER THE INPUT: true; the input reads as it did. -/
def fnExactLeastFactorSpec : ChangeSpec := { name := "fnExactLeastFactor", fn := fun _ => fun
  | [d1, d2, d3, d4] => { results := [.lit (.bool true)], args := [d1, d2, d3, d4] }
  | _ => none }
def fnExactLeastFactorRow : OpenClaim := { program := "ytkieepmkcaipaaagreat", sum := "042e9232123cda78a8f4044a0db9e14c7ac3cf982f369c58935621f0367c962b", func := "loop.example/g03301/laws.FnExactLeastFactor", spec := "fnExactLeastFactor", inPlace := ["(*sync.WaitGroup).Add", "internal/race.ReleaseMerge", "internal/race.Disable", "internal/race.Enable", "internal/synctest.IsInBubble", "internal/synctest.Associate[sync.WaitGroup]", "sync.fatal", "sync/atomic.OrUint64", "sync/atomic.AddUint64", "internal/race.Read", "sync/atomic.LoadUint64", "sync/atomic.StoreUint64", "internal/synctest.Disassociate[sync.WaitGroup]", "sync.runtime_Semrelease", "(*sync.WaitGroup).Done", "(*sync.WaitGroup).Wait", "internal/race.Acquire", "internal/synctest.IsAssociated[sync.WaitGroup]", "sync/atomic.CompareAndSwapUint64", "internal/race.Write", "sync.runtime_SemacquireWaitGroup"], unfollowed := true, recurses := true, leaving := true, apart := false }
def FnExactLeastFactorSaid : Prop := fnExactLeastFactorRow.holds Tryz.pinned (OpenSpec.ofChange fnExactLeastFactorSpec)

/-- ITS FALSE NEIGHBOUR: 'it returns false'. Refute it at one input. -/
def fnExactLeastFactorWrong : ChangeSpec := { name := "fnExactLeastFactor", fn := fun _ => fun
  | [d1, d2, d3, d4] => { results := [.lit (.bool false)], args := [d1, d2, d3, d4] }
  | _ => none }
def FnExactLeastFactorWrongFalsely : Prop := fnExactLeastFactorRow.holds Tryz.pinned (OpenSpec.ofChange fnExactLeastFactorWrong)

/-- 'laws.FnExactCentralThrust': WHATEVER THE INPUT: true; the input reads as it did. -/
def fnExactCentralThrustSpec : ChangeSpec := { name := "fnExactCentralThrust", fn := fun _ => fun
  | [d1, d2] => { results := [.lit (.bool true)], args := [d1, d2] }
  | _ => none }
def fnExactCentralThrustRow : OpenClaim := { program := "ytkieepmkcaipaaagreat", sum := "042e9232123cda78a8f4044a0db9e14c7ac3cf982f369c58935621f0367c962b", func := "loop.example/g03301/laws.FnExactCentralThrust", spec := "fnExactCentralThrust", inPlace := ["(*sync.WaitGroup).Add", "internal/race.ReleaseMerge", "internal/race.Disable", "internal/race.Enable", "internal/synctest.IsInBubble", "internal/synctest.Associate[sync.WaitGroup]", "sync.fatal", "sync/atomic.OrUint64", "sync/atomic.AddUint64", "internal/race.Read", "sync/atomic.LoadUint64", "sync/atomic.StoreUint64", "internal/synctest.Disassociate[sync.WaitGroup]", "sync.runtime_Semrelease", "(*sync.WaitGroup).Done", "(*sync.WaitGroup).Wait", "internal/race.Acquire", "internal/synctest.IsAssociated[sync.WaitGroup]", "sync/atomic.CompareAndSwapUint64", "internal/race.Write", "sync.runtime_SemacquireWaitGroup"], unfollowed := true, recurses := true, leaving := true, apart := false }
def FnExactCentralThrustSaid : Prop := fnExactCentralThrustRow.holds Tryz.pinned (OpenSpec.ofChange fnExactCentralThrustSpec)

/-- ITS FALSE NEIGHBOUR: 'it returns false'. Refute it at one input. -/
def fnExactCentralThrustWrong : ChangeSpec := { name := "fnExactCentralThrust", fn := fun _ => fun
  | [d1, d2] => { results := [.lit (.bool false)], args := [d1, d2] }
  | _ => none }
def FnExactCentralThrustWrongFalsely : Prop := fnExactCentralThrustRow.holds Tryz.pinned (OpenSpec.ofChange fnExactCentralThrustWrong)

/-- 'laws.FnPushes': WHATEVER THE INPUT: true; the input reads as it did. -/
def fnPushesSpec : ChangeSpec := { name := "fnPushes", fn := fun _ => fun
  | [d] => { results := [.lit (.bool true)], args := [d] }
  | _ => none }
def fnPushesRow : OpenClaim := { program := "ytkieepmkcaipaaagreat", sum := "042e9232123cda78a8f4044a0db9e14c7ac3cf982f369c58935621f0367c962b", func := "loop.example/g03301/laws.FnPushes", spec := "fnPushes", inPlace := ["(*sync.WaitGroup).Add", "internal/race.ReleaseMerge", "internal/race.Disable", "internal/race.Enable", "internal/synctest.IsInBubble", "internal/synctest.Associate[sync.WaitGroup]", "sync.fatal", "sync/atomic.OrUint64", "sync/atomic.AddUint64", "internal/race.Read", "sync/atomic.LoadUint64", "sync/atomic.StoreUint64", "internal/synctest.Disassociate[sync.WaitGroup]", "sync.runtime_Semrelease", "(*sync.WaitGroup).Done", "(*sync.WaitGroup).Wait", "internal/race.Acquire", "internal/synctest.IsAssociated[sync.WaitGroup]", "sync/atomic.CompareAndSwapUint64", "internal/race.Write", "sync.runtime_SemacquireWaitGroup"], unfollowed := true, recurses := true, leaving := true, apart := false }
def FnPushesSaid : Prop := fnPushesRow.holds Tryz.pinned (OpenSpec.ofChange fnPushesSpec)

/-- ITS FALSE NEIGHBOUR: 'it returns false'. Refute it at one input. -/
def fnPushesWrong : ChangeSpec := { name := "fnPushes", fn := fun _ => fun
  | [d] => { results := [.lit (.bool false)], args := [d] }
  | _ => none }
def FnPushesWrongFalsely : Prop := fnPushesRow.holds Tryz.pinned (OpenSpec.ofChange fnPushesWrong)

/- THE SECOND FORM. 'bulk': how many values and letters a reading holds, each counted each time it is reached (what is shared counts as often as it is met; a slice's spare places count too). A statement '..UptoSaid' is the law's where the arguments, and the package variables that the reading takes, are together of bulk at most 1048576: NARROWER than '..Said'. Prove '..Said' where nothing that the law and all that it calls make is longer than what came in: it says more and counts as full. Else prove '..UptoSaid'. A law counts once. -/
mutual
def uptoBulk {H : Type} : DataW H → Nat
  | .lit (.string bytes) => bytes.length + 1
  | .lit _ => 1
  | .nil => 1
  | .ptr d => uptoBulk d + 1
  | .slice elems spare => uptoBulkAll elems + uptoBulkAll spare + 1
  | .agg parts => uptoBulkAll parts + 1
  | .iface _ d => uptoBulk d + 1
  | .map entries => uptoBulkEntries entries + 1
  | .held _ => 1
def uptoBulkAll {H : Type} : List (DataW H) → Nat
  | [] => 0
  | d :: r => uptoBulk d + uptoBulkAll r
def uptoBulkEntries {H : Type} : List (Lit × DataW H) → Nat
  | [] => 0
  | x :: r => uptoBulkEntry x + uptoBulkEntries r
def uptoBulkEntry {H : Type} : Lit × DataW H → Nat
  | (.string bytes, d) => bytes.length + uptoBulk d + 1
  | (_, d) => uptoBulk d + 1
 end
def uptoSmall : (H : Type) → List (DataW H) → Bool := fun _ ds => decide (uptoBulkAll ds ≤ 1048576)
def OpenSpec.upto (s : _root_.Go.ChangeSpec) : _root_.Go.OpenSpec := { _root_.Go.OpenSpec.ofChange s with cond := some uptoSmall }

/-- 'laws.FnCollapses', WHERE WHAT IT READS IS OF BULK AT MOST 1048576: true; the input reads as it did. -/
def fnCollapsesUptoRow : OpenClaim := { program := "ytkieepmkcaipaaagreat", sum := "042e9232123cda78a8f4044a0db9e14c7ac3cf982f369c58935621f0367c962b", func := "loop.example/g03301/laws.FnCollapses", spec := "fnCollapses", inPlace := ["(*sync.WaitGroup).Add", "internal/race.ReleaseMerge", "internal/race.Disable", "internal/race.Enable", "internal/synctest.IsInBubble", "internal/synctest.Associate[sync.WaitGroup]", "sync.fatal", "sync/atomic.OrUint64", "sync/atomic.AddUint64", "internal/race.Read", "sync/atomic.LoadUint64", "sync/atomic.StoreUint64", "internal/synctest.Disassociate[sync.WaitGroup]", "sync.runtime_Semrelease", "(*sync.WaitGroup).Done", "(*sync.WaitGroup).Wait", "internal/race.Acquire", "internal/synctest.IsAssociated[sync.WaitGroup]", "sync/atomic.CompareAndSwapUint64", "internal/race.Write", "sync.runtime_SemacquireWaitGroup"], unfollowed := true, recurses := true, leaving := true, apart := false, narrowed := true }
def FnCollapsesUptoSaid : Prop := fnCollapsesUptoRow.holds Tryz.pinned (OpenSpec.upto fnCollapsesSpec)

/-- 'laws.FnFactors', WHERE WHAT IT READS IS OF BULK AT MOST 1048576: true; the input reads as it did. -/
def fnFactorsUptoRow : OpenClaim := { program := "ytkieepmkcaipaaagreat", sum := "042e9232123cda78a8f4044a0db9e14c7ac3cf982f369c58935621f0367c962b", func := "loop.example/g03301/laws.FnFactors", spec := "fnFactors", inPlace := ["(*sync.WaitGroup).Add", "internal/race.ReleaseMerge", "internal/race.Disable", "internal/race.Enable", "internal/synctest.IsInBubble", "internal/synctest.Associate[sync.WaitGroup]", "sync.fatal", "sync/atomic.OrUint64", "sync/atomic.AddUint64", "internal/race.Read", "sync/atomic.LoadUint64", "sync/atomic.StoreUint64", "internal/synctest.Disassociate[sync.WaitGroup]", "sync.runtime_Semrelease", "(*sync.WaitGroup).Done", "(*sync.WaitGroup).Wait", "internal/race.Acquire", "internal/synctest.IsAssociated[sync.WaitGroup]", "sync/atomic.CompareAndSwapUint64", "internal/race.Write", "sync.runtime_SemacquireWaitGroup"], unfollowed := true, recurses := true, leaving := true, apart := false, narrowed := true }
def FnFactorsUptoSaid : Prop := fnFactorsUptoRow.holds Tryz.pinned (OpenSpec.upto fnFactorsSpec)

/-- 'laws.FnExactStands', WHERE WHAT IT READS IS OF BULK AT MOST 1048576: true; the input reads as it did. -/
def fnExactStandsUptoRow : OpenClaim := { program := "ytkieepmkcaipaaagreat", sum := "042e9232123cda78a8f4044a0db9e14c7ac3cf982f369c58935621f0367c962b", func := "loop.example/g03301/laws.FnExactStands", spec := "fnExactStands", inPlace := ["(*sync.WaitGroup).Add", "internal/race.ReleaseMerge", "internal/race.Disable", "internal/race.Enable", "internal/synctest.IsInBubble", "internal/synctest.Associate[sync.WaitGroup]", "sync.fatal", "sync/atomic.OrUint64", "sync/atomic.AddUint64", "internal/race.Read", "sync/atomic.LoadUint64", "sync/atomic.StoreUint64", "internal/synctest.Disassociate[sync.WaitGroup]", "sync.runtime_Semrelease", "(*sync.WaitGroup).Done", "(*sync.WaitGroup).Wait", "internal/race.Acquire", "internal/synctest.IsAssociated[sync.WaitGroup]", "sync/atomic.CompareAndSwapUint64", "internal/race.Write", "sync.runtime_SemacquireWaitGroup"], unfollowed := true, recurses := true, leaving := true, apart := false, narrowed := true }
def FnExactStandsUptoSaid : Prop := fnExactStandsUptoRow.holds Tryz.pinned (OpenSpec.upto fnExactStandsSpec)

/-- 'laws.FnExactFirstThrust', WHERE WHAT IT READS IS OF BULK AT MOST 1048576: true; the input reads as it did. -/
def fnExactFirstThrustUptoRow : OpenClaim := { program := "ytkieepmkcaipaaagreat", sum := "042e9232123cda78a8f4044a0db9e14c7ac3cf982f369c58935621f0367c962b", func := "loop.example/g03301/laws.FnExactFirstThrust", spec := "fnExactFirstThrust", inPlace := ["(*sync.WaitGroup).Add", "internal/race.ReleaseMerge", "internal/race.Disable", "internal/race.Enable", "internal/synctest.IsInBubble", "internal/synctest.Associate[sync.WaitGroup]", "sync.fatal", "sync/atomic.OrUint64", "sync/atomic.AddUint64", "internal/race.Read", "sync/atomic.LoadUint64", "sync/atomic.StoreUint64", "internal/synctest.Disassociate[sync.WaitGroup]", "sync.runtime_Semrelease", "(*sync.WaitGroup).Done", "(*sync.WaitGroup).Wait", "internal/race.Acquire", "internal/synctest.IsAssociated[sync.WaitGroup]", "sync/atomic.CompareAndSwapUint64", "internal/race.Write", "sync.runtime_SemacquireWaitGroup"], unfollowed := true, recurses := true, leaving := true, apart := false, narrowed := true }
def FnExactFirstThrustUptoSaid : Prop := fnExactFirstThrustUptoRow.holds Tryz.pinned (OpenSpec.upto fnExactFirstThrustSpec)

/-- 'laws.FnExactStandsAt', WHERE WHAT IT READS IS OF BULK AT MOST 1048576: true; the input reads as it did. -/
def fnExactStandsAtUptoRow : OpenClaim := { program := "ytkieepmkcaipaaagreat", sum := "042e9232123cda78a8f4044a0db9e14c7ac3cf982f369c58935621f0367c962b", func := "loop.example/g03301/laws.FnExactStandsAt", spec := "fnExactStandsAt", inPlace := ["(*sync.WaitGroup).Add", "internal/race.ReleaseMerge", "internal/race.Disable", "internal/race.Enable", "internal/synctest.IsInBubble", "internal/synctest.Associate[sync.WaitGroup]", "sync.fatal", "sync/atomic.OrUint64", "sync/atomic.AddUint64", "internal/race.Read", "sync/atomic.LoadUint64", "sync/atomic.StoreUint64", "internal/synctest.Disassociate[sync.WaitGroup]", "sync.runtime_Semrelease", "(*sync.WaitGroup).Done", "(*sync.WaitGroup).Wait", "internal/race.Acquire", "internal/synctest.IsAssociated[sync.WaitGroup]", "sync/atomic.CompareAndSwapUint64", "internal/race.Write", "sync.runtime_SemacquireWaitGroup"], unfollowed := true, recurses := true, leaving := true, apart := false, narrowed := true }
def FnExactStandsAtUptoSaid : Prop := fnExactStandsAtUptoRow.holds Tryz.pinned (OpenSpec.upto fnExactStandsAtSpec)

/-- 'laws.FnExactLeastThrust', WHERE WHAT IT READS IS OF BULK AT MOST 1048576: true; the input reads as it did. -/
def fnExactLeastThrustUptoRow : OpenClaim := { program := "ytkieepmkcaipaaagreat", sum := "042e9232123cda78a8f4044a0db9e14c7ac3cf982f369c58935621f0367c962b", func := "loop.example/g03301/laws.FnExactLeastThrust", spec := "fnExactLeastThrust", inPlace := ["(*sync.WaitGroup).Add", "internal/race.ReleaseMerge", "internal/race.Disable", "internal/race.Enable", "internal/synctest.IsInBubble", "internal/synctest.Associate[sync.WaitGroup]", "sync.fatal", "sync/atomic.OrUint64", "sync/atomic.AddUint64", "internal/race.Read", "sync/atomic.LoadUint64", "sync/atomic.StoreUint64", "internal/synctest.Disassociate[sync.WaitGroup]", "sync.runtime_Semrelease", "(*sync.WaitGroup).Done", "(*sync.WaitGroup).Wait", "internal/race.Acquire", "internal/synctest.IsAssociated[sync.WaitGroup]", "sync/atomic.CompareAndSwapUint64", "internal/race.Write", "sync.runtime_SemacquireWaitGroup"], unfollowed := true, recurses := true, leaving := true, apart := false, narrowed := true }
def FnExactLeastThrustUptoSaid : Prop := fnExactLeastThrustUptoRow.holds Tryz.pinned (OpenSpec.upto fnExactLeastThrustSpec)

/-- 'laws.FnExactFactorWidth', WHERE WHAT IT READS IS OF BULK AT MOST 1048576: true; the input reads as it did. -/
def fnExactFactorWidthUptoRow : OpenClaim := { program := "ytkieepmkcaipaaagreat", sum := "042e9232123cda78a8f4044a0db9e14c7ac3cf982f369c58935621f0367c962b", func := "loop.example/g03301/laws.FnExactFactorWidth", spec := "fnExactFactorWidth", inPlace := ["(*sync.WaitGroup).Add", "internal/race.ReleaseMerge", "internal/race.Disable", "internal/race.Enable", "internal/synctest.IsInBubble", "internal/synctest.Associate[sync.WaitGroup]", "sync.fatal", "sync/atomic.OrUint64", "sync/atomic.AddUint64", "internal/race.Read", "sync/atomic.LoadUint64", "sync/atomic.StoreUint64", "internal/synctest.Disassociate[sync.WaitGroup]", "sync.runtime_Semrelease", "(*sync.WaitGroup).Done", "(*sync.WaitGroup).Wait", "internal/race.Acquire", "internal/synctest.IsAssociated[sync.WaitGroup]", "sync/atomic.CompareAndSwapUint64", "internal/race.Write", "sync.runtime_SemacquireWaitGroup"], unfollowed := true, recurses := true, leaving := true, apart := false, narrowed := true }
def FnExactFactorWidthUptoSaid : Prop := fnExactFactorWidthUptoRow.holds Tryz.pinned (OpenSpec.upto fnExactFactorWidthSpec)

/-- 'laws.FnExactThrustsOf', WHERE WHAT IT READS IS OF BULK AT MOST 1048576: true; the input reads as it did. -/
def fnExactThrustsOfUptoRow : OpenClaim := { program := "ytkieepmkcaipaaagreat", sum := "042e9232123cda78a8f4044a0db9e14c7ac3cf982f369c58935621f0367c962b", func := "loop.example/g03301/laws.FnExactThrustsOf", spec := "fnExactThrustsOf", inPlace := ["(*sync.WaitGroup).Add", "internal/race.ReleaseMerge", "internal/race.Disable", "internal/race.Enable", "internal/synctest.IsInBubble", "internal/synctest.Associate[sync.WaitGroup]", "sync.fatal", "sync/atomic.OrUint64", "sync/atomic.AddUint64", "internal/race.Read", "sync/atomic.LoadUint64", "sync/atomic.StoreUint64", "internal/synctest.Disassociate[sync.WaitGroup]", "sync.runtime_Semrelease", "(*sync.WaitGroup).Done", "(*sync.WaitGroup).Wait", "internal/race.Acquire", "internal/synctest.IsAssociated[sync.WaitGroup]", "sync/atomic.CompareAndSwapUint64", "internal/race.Write", "sync.runtime_SemacquireWaitGroup"], unfollowed := true, recurses := true, leaving := true, apart := false, narrowed := true }
def FnExactThrustsOfUptoSaid : Prop := fnExactThrustsOfUptoRow.holds Tryz.pinned (OpenSpec.upto fnExactThrustsOfSpec)

/-- 'laws.FnExactGreatestFactor', WHERE WHAT IT READS IS OF BULK AT MOST 1048576: true; the input reads as it did. -/
def fnExactGreatestFactorUptoRow : OpenClaim := { program := "ytkieepmkcaipaaagreat", sum := "042e9232123cda78a8f4044a0db9e14c7ac3cf982f369c58935621f0367c962b", func := "loop.example/g03301/laws.FnExactGreatestFactor", spec := "fnExactGreatestFactor", inPlace := ["(*sync.WaitGroup).Add", "internal/race.ReleaseMerge", "internal/race.Disable", "internal/race.Enable", "internal/synctest.IsInBubble", "internal/synctest.Associate[sync.WaitGroup]", "sync.fatal", "sync/atomic.OrUint64", "sync/atomic.AddUint64", "internal/race.Read", "sync/atomic.LoadUint64", "sync/atomic.StoreUint64", "internal/synctest.Disassociate[sync.WaitGroup]", "sync.runtime_Semrelease", "(*sync.WaitGroup).Done", "(*sync.WaitGroup).Wait", "internal/race.Acquire", "internal/synctest.IsAssociated[sync.WaitGroup]", "sync/atomic.CompareAndSwapUint64", "internal/race.Write", "sync.runtime_SemacquireWaitGroup"], unfollowed := true, recurses := true, leaving := true, apart := false, narrowed := true }
def FnExactGreatestFactorUptoSaid : Prop := fnExactGreatestFactorUptoRow.holds Tryz.pinned (OpenSpec.upto fnExactGreatestFactorSpec)

/-- 'laws.FnExactLeastFactor', WHERE WHAT IT READS IS OF BULK AT MOST 1048576: true; the input reads as it did. -/
def fnExactLeastFactorUptoRow : OpenClaim := { program := "ytkieepmkcaipaaagreat", sum := "042e9232123cda78a8f4044a0db9e14c7ac3cf982f369c58935621f0367c962b", func := "loop.example/g03301/laws.FnExactLeastFactor", spec := "fnExactLeastFactor", inPlace := ["(*sync.WaitGroup).Add", "internal/race.ReleaseMerge", "internal/race.Disable", "internal/race.Enable", "internal/synctest.IsInBubble", "internal/synctest.Associate[sync.WaitGroup]", "sync.fatal", "sync/atomic.OrUint64", "sync/atomic.AddUint64", "internal/race.Read", "sync/atomic.LoadUint64", "sync/atomic.StoreUint64", "internal/synctest.Disassociate[sync.WaitGroup]", "sync.runtime_Semrelease", "(*sync.WaitGroup).Done", "(*sync.WaitGroup).Wait", "internal/race.Acquire", "internal/synctest.IsAssociated[sync.WaitGroup]", "sync/atomic.CompareAndSwapUint64", "internal/race.Write", "sync.runtime_SemacquireWaitGroup"], unfollowed := true, recurses := true, leaving := true, apart := false, narrowed := true }
def FnExactLeastFactorUptoSaid : Prop := fnExactLeastFactorUptoRow.holds Tryz.pinned (OpenSpec.upto fnExactLeastFactorSpec)

/-- 'laws.FnExactCentralThrust', WHERE WHAT IT READS IS OF BULK AT MOST 1048576: true; the input reads as it did. -/
def fnExactCentralThrustUptoRow : OpenClaim := { program := "ytkieepmkcaipaaagreat", sum := "042e9232123cda78a8f4044a0db9e14c7ac3cf982f369c58935621f0367c962b", func := "loop.example/g03301/laws.FnExactCentralThrust", spec := "fnExactCentralThrust", inPlace := ["(*sync.WaitGroup).Add", "internal/race.ReleaseMerge", "internal/race.Disable", "internal/race.Enable", "internal/synctest.IsInBubble", "internal/synctest.Associate[sync.WaitGroup]", "sync.fatal", "sync/atomic.OrUint64", "sync/atomic.AddUint64", "internal/race.Read", "sync/atomic.LoadUint64", "sync/atomic.StoreUint64", "internal/synctest.Disassociate[sync.WaitGroup]", "sync.runtime_Semrelease", "(*sync.WaitGroup).Done", "(*sync.WaitGroup).Wait", "internal/race.Acquire", "internal/synctest.IsAssociated[sync.WaitGroup]", "sync/atomic.CompareAndSwapUint64", "internal/race.Write", "sync.runtime_SemacquireWaitGroup"], unfollowed := true, recurses := true, leaving := true, apart := false, narrowed := true }
def FnExactCentralThrustUptoSaid : Prop := fnExactCentralThrustUptoRow.holds Tryz.pinned (OpenSpec.upto fnExactCentralThrustSpec)

/-- 'laws.FnPushes', WHERE WHAT IT READS IS OF BULK AT MOST 1048576: true; the input reads as it did. -/
def fnPushesUptoRow : OpenClaim := { program := "ytkieepmkcaipaaagreat", sum := "042e9232123cda78a8f4044a0db9e14c7ac3cf982f369c58935621f0367c962b", func := "loop.example/g03301/laws.FnPushes", spec := "fnPushes", inPlace := ["(*sync.WaitGroup).Add", "internal/race.ReleaseMerge", "internal/race.Disable", "internal/race.Enable", "internal/synctest.IsInBubble", "internal/synctest.Associate[sync.WaitGroup]", "sync.fatal", "sync/atomic.OrUint64", "sync/atomic.AddUint64", "internal/race.Read", "sync/atomic.LoadUint64", "sync/atomic.StoreUint64", "internal/synctest.Disassociate[sync.WaitGroup]", "sync.runtime_Semrelease", "(*sync.WaitGroup).Done", "(*sync.WaitGroup).Wait", "internal/race.Acquire", "internal/synctest.IsAssociated[sync.WaitGroup]", "sync/atomic.CompareAndSwapUint64", "internal/race.Write", "sync.runtime_SemacquireWaitGroup"], unfollowed := true, recurses := true, leaving := true, apart := false, narrowed := true }
def FnPushesUptoSaid : Prop := fnPushesUptoRow.holds Tryz.pinned (OpenSpec.upto fnPushesSpec)

end Rows
end Go.Proofs.YtkieepmkcaipaaaGreat
