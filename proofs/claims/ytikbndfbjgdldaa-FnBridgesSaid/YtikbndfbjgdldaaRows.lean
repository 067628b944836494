/-
  No cell of these rows narrows 'for every input' (looked for: loops, veiled, ifaces, maps, wideKeys, modest, calm, conditions, laid).
  DERIVED. THE GIVEN ROWS OF THIS SEAT. 3 by the template 'for every input the law returns true; each argument reads behind the call as it read before'; 0 by the template 'total and deterministic' (their statements: YtikbndfbjgdldaaTotals.lean).
  GIVEN WITH THE SEED: the statements are not yours to turn. If you find one false, say at which input.
  Laid BY PROGRAM, IN A SANDBOX (cutbox-rows.mjs): the forced cells as the released guide's own fill.sh prints them over the translation 7c09653433bd9f9b… (all of the seat's roots in one cut). By AI agents, Wed Nov 11 2026. No macro, syntax, notation, axiom, sorry.
-/
import Derived.Test.YtikbndfbjgdldaaChecked
import GoSem.Claim
import GoSem.ClaimJoined
import GoSem.ClaimMapViews
import Derived.JoinedTies
import Derived.KernelRfl
namespace Go.Proofs.Ytikbndfbjgdldaa
/- THE CELL 'sum', in the pinned program and in every row, IS THE sha256 OF THE DUMP (.gsa) THAT YtikbndfbjgdldaaProg.lean LOADS. Nothing in Lean hashes anything: it is a label: what it is worth is what the hold of that sum in a sandbox is worth. -/
noncomputable def Try.pinned : Pinned := { name := "ytikbndfbjgdldaa", sum := "7c09653433bd9f9b7d0e93a55c3a9dc185a8c16db5f639ff8ed94fad168202f4", checked := Try.checked }
namespace Rows
def none {H : Type} : Left H := { results := [], args := [] }

/-- 'laws.FnBridges': WHATEVER THE INPUT: true; the input reads as it did. -/
def fnBridgesSpec : ChangeSpec := { name := "fnBridges", fn := fun _ => fun
  | [d] => { results := [.lit (.bool true)], args := [d] }
  | _ => none }
def fnBridgesRow : OpenClaim := { program := "ytikbndfbjgdldaa", sum := "7c09653433bd9f9b7d0e93a55c3a9dc185a8c16db5f639ff8ed94fad168202f4", func := "loop.example/g03301/laws.FnBridges", spec := "fnBridges", apart := false }
def FnBridgesSaid : Prop := fnBridgesRow.holds Try.pinned (OpenSpec.ofChange fnBridgesSpec)

/-- ITS FALSE NEIGHBOUR: 'it returns false'. Refute it at one input. -/
def fnBridgesWrong : ChangeSpec := { name := "fnBridges", fn := fun _ => fun
  | [d] => { results := [.lit (.bool false)], args := [d] }
  | _ => none }
def FnBridgesWrongFalsely : Prop := fnBridgesRow.holds Try.pinned (OpenSpec.ofChange fnBridgesWrong)

/-- 'laws.FnButtresses': WHATEVER THE INPUT: true; the input reads as it did. -/
def fnButtressesSpec : ChangeSpec := { name := "fnButtresses", fn := fun _ => fun
  | [d] => { results := [.lit (.bool true)], args := [d] }
  | _ => none }
def fnButtressesRow : OpenClaim := { program := "ytikbndfbjgdldaa", sum := "7c09653433bd9f9b7d0e93a55c3a9dc185a8c16db5f639ff8ed94fad168202f4", func := "loop.example/g03301/laws.FnButtresses", spec := "fnButtresses", unfollowed := true, recurses := true, apart := false }
def FnButtressesSaid : Prop := fnButtressesRow.holds Try.pinned (OpenSpec.ofChange fnButtressesSpec)

/-- ITS FALSE NEIGHBOUR: 'it returns false'. Refute it at one input. -/
def fnButtressesWrong : ChangeSpec := { name := "fnButtresses", fn := fun _ => fun
  | [d] => { results := [.lit (.bool false)], args := [d] }
  | _ => none }
def FnButtressesWrongFalsely : Prop := fnButtressesRow.holds Try.pinned (OpenSpec.ofChange fnButtressesWrong)

/-- 'laws.FnLoads': WHATEVER THE INPUT: true; the input reads as it did. -/
def fnLoadsSpec : ChangeSpec := { name := "fnLoads", fn := fun _ => fun
  | [d] => { results := [.lit (.bool true)], args := [d] }
  | _ => none }
def fnLoadsRow : OpenClaim := { program := "ytikbndfbjgdldaa", sum := "7c09653433bd9f9b7d0e93a55c3a9dc185a8c16db5f639ff8ed94fad168202f4", func := "loop.example/g03301/laws.FnLoads", spec := "fnLoads", unfollowed := true, recurses := true, apart := false }
def FnLoadsSaid : Prop := fnLoadsRow.holds Try.pinned (OpenSpec.ofChange fnLoadsSpec)

/-- ITS FALSE NEIGHBOUR: 'it returns false'. Refute it at one input. -/
def fnLoadsWrong : ChangeSpec := { name := "fnLoads", fn := fun _ => fun
  | [d] => { results := [.lit (.bool false)], args := [d] }
  | _ => none }
def FnLoadsWrongFalsely : Prop := fnLoadsRow.holds Try.pinned (OpenSpec.ofChange fnLoadsWrong)

/- THE SECOND FORM. 'bulk': how many values and letters a reading holds, each counted each time it is reached (what is shared counts as often as it is met; a slice's spare places count too). A statement '..UptoSaid' is the law's where the arguments, and the package variables that the reading takes, are together of bulk at most 1048576: NARROWER than '..Said'. Prove '..Said' where nothing that the law and all that it calls make is longer than what came in: it says more and counts as full. Else prove '..UptoSaid'. A law counts once. -/
mutual
def uptoBulk {H : Type} : DataW H → Nat
  | .lit (.string bytes) => bytes.length + 1
  | .lit _ => 1
  | .nil => 1
  | .ptr d => uptoBulk d + 1
  | .slice elems spare => uptoBulkAll elems + uptoBulkAll spare + 1
  | .agg parts => uptoBulkAll parts + 1
  | .iface _ d => uptoBulk d + 1
  | .map entries => uptoBulkEntries entries + 1
  | .held _ => 1
def uptoBulkAll {H : Type} : List (DataW H) → Nat
  | [] => 0
  | d :: r => uptoBulk d + uptoBulkAll r
def uptoBulkEntries {H : Type} : List (Lit × DataW H) → Nat
  | [] => 0
  | x :: r => uptoBulkEntry x + uptoBulkEntries r
def uptoBulkEntry {H : Type} : Lit × DataW H → Nat
  | (.string bytes, d) => bytes.length + uptoBulk d + 1
  | (_, d) => uptoBulk d + 1
 end
def uptoSmall : (H : Type) → List (DataW H) → Bool := fun _ ds => decide (uptoBulkAll ds ≤ 1048576)
def OpenSpec.upto (s : _root_.Go.ChangeSpec) : _root_.Go.OpenSpec := { _root_.Go.OpenSpec.ofChange s with cond := some uptoSmall }

/-- 'laws.FnBridges', WHERE WHAT IT READS IS OF BULK AT MOST 1048576: true; the input reads as it did. -/
def fnBridgesUptoRow : OpenClaim := { program := "ytikbndfbjgdldaa", sum := "7c09653433bd9f9b7d0e93a55c3a9dc185a8c16db5f639ff8ed94fad168202f4", func := "loop.example/g03301/laws.FnBridges", spec := "fnBridges", apart := false, narrowed := true }
def FnBridgesUptoSaid : Prop := fnBridgesUptoRow.holds Try.pinned (OpenSpec.upto fnBridgesSpec)

/-- 'laws.FnButtresses', WHERE WHAT IT READS IS OF BULK AT MOST 1048576: true; the input reads as it did. -/
def fnButtressesUptoRow : OpenClaim := { program := "ytikbndfbjgdldaa", sum := "7c09653433bd9f9b7d0e93a55c3a9dc185a8c16db5f639ff8ed94fad168202f4", func := "loop.example/g03301/laws.FnButtresses", spec := "fnButtresses", unfollowed := true, recurses := true, apart := false, narrowed := true }
def FnButtressesUptoSaid : Prop := fnButtressesUptoRow.holds Try.pinned (OpenSpec.upto fnButtressesSpec)

/-- 'laws.FnLoads', WHERE WHAT IT READS IS OF BULK AT MOST 1048576: true; the input reads as it did. -/
def fnLoadsUptoRow : OpenClaim := { program := "ytikbndfbjgdldaa", sum := "7c09653433bd9f9b7d0e93a55c3a9dc185a8c16db5f639ff8ed94fad168202f4", func := "loop.example/g03301/laws.FnLoads", spec := "fnLoads", unfollowed := true, recurses := true, apart := false, narrowed := true }
def FnLoadsUptoSaid : Prop := fnLoadsUptoRow.holds Try.pinned (OpenSpec.upto fnLoadsSpec)

end Rows
end Go.Proofs.Ytikbndfbjgdldaa
