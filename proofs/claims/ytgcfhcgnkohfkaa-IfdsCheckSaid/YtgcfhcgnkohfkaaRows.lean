/-
  No cell of these rows narrows 'for every input' (looked for: loops, veiled, ifaces, maps, wideKeys, modest, calm, conditions, laid).
  DERIVED. THE GIVEN ROWS OF THIS SEAT. 4 by the template 'for every input the law returns true; each argument reads behind the call as it read before'; 0 by the template 'total and deterministic' (their statements: YtgcfhcgnkohfkaaTotals.lean).
  GIVEN WITH THE SEED: the statements are not yours to turn. If you find one false, say at which input.
  Laid BY PROGRAM, IN A SANDBOX (cutbox-rows.mjs): the forced cells as the released guide's own fill.sh prints them over the translation 6cbae004b3f08ef7… (all of the seat's roots in one cut). By AI agents, Wed Nov 11 2026. No macro, syntax, notation, axiom, sorry.
-/
import Derived.Test.YtgcfhcgnkohfkaaChecked
import GoSem.Claim
import GoSem.ClaimJoined
import GoSem.ClaimMapViews
import Derived.JoinedTies
import Derived.KernelRfl
namespace Go.Proofs.Ytgcfhcgnkohfkaa
/- THE CELL 'sum', in the pinned program and in every row, IS THE sha256 OF THE DUMP (.gsa) THAT YtgcfhcgnkohfkaaProg.lean LOADS. Nothing in Lean hashes anything: it is a label: what it is worth is what the hold of that sum in a sandbox is worth. -/
noncomputable def Try.pinned : Pinned := { name := "ytgcfhcgnkohfkaa", sum := "6cbae004b3f08ef7de5d1caa51c2c042f0a643a40f74b43f91f0506f7bae4eeb", checked := Try.checked }
namespace Rows
def none {H : Type} : Left H := { results := [], args := [] }

/-- 'dataflowlaw30.IfdsCheck': WHATEVER THE INPUT: true; the input reads as it did. -/
def ifdsCheckSpec : ChangeSpec := { name := "ifdsCheck", fn := fun _ => fun
  | [d] => { results := [.lit (.bool true)], args := [d] }
  | _ => none }
def ifdsCheckRow : OpenClaim := { program := "ytgcfhcgnkohfkaa", sum := "6cbae004b3f08ef7de5d1caa51c2c042f0a643a40f74b43f91f0506f7bae4eeb", func := "dataflow/dataflowlaw30.IfdsCheck", spec := "ifdsCheck", unfollowed := true, recurses := true, plainKeys := false, apart := false }
def IfdsCheckSaid : Prop := ifdsCheckRow.holds Try.pinned (OpenSpec.ofChange ifdsCheckSpec)

/-- ITS FALSE NEIGHBOUR: 'it returns false'. Refute it at one input. -/
def ifdsCheckWrong : ChangeSpec := { name := "ifdsCheck", fn := fun _ => fun
  | [d] => { results := [.lit (.bool false)], args := [d] }
  | _ => none }
def IfdsCheckWrongFalsely : Prop := ifdsCheckRow.holds Try.pinned (OpenSpec.ofChange ifdsCheckWrong)

/-- 'dataflowlaw30.IfdsHolds': WHATEVER THE INPUT: true; the input reads as it did. -/
def ifdsHoldsSpec : ChangeSpec := { name := "ifdsHolds", fn := fun _ => fun
  | [d1, d2, d3] => { results := [.lit (.bool true)], args := [d1, d2, d3] }
  | _ => none }
def ifdsHoldsRow : OpenClaim := { program := "ytgcfhcgnkohfkaa", sum := "6cbae004b3f08ef7de5d1caa51c2c042f0a643a40f74b43f91f0506f7bae4eeb", func := "dataflow/dataflowlaw30.IfdsHolds", spec := "ifdsHolds", unfollowed := true, recurses := true, plainKeys := false, apart := false }
def IfdsHoldsSaid : Prop := ifdsHoldsRow.holds Try.pinned (OpenSpec.ofChange ifdsHoldsSpec)

/-- ITS FALSE NEIGHBOUR: 'it returns false'. Refute it at one input. -/
def ifdsHoldsWrong : ChangeSpec := { name := "ifdsHolds", fn := fun _ => fun
  | [d1, d2, d3] => { results := [.lit (.bool false)], args := [d1, d2, d3] }
  | _ => none }
def IfdsHoldsWrongFalsely : Prop := ifdsHoldsRow.holds Try.pinned (OpenSpec.ofChange ifdsHoldsWrong)

/-- 'dataflowlaw30.IfdsGrows': WHATEVER THE INPUT: true; the input reads as it did. -/
def ifdsGrowsSpec : ChangeSpec := { name := "ifdsGrows", fn := fun _ => fun
  | [d1, d2, d3] => { results := [.lit (.bool true)], args := [d1, d2, d3] }
  | _ => none }
def ifdsGrowsRow : OpenClaim := { program := "ytgcfhcgnkohfkaa", sum := "6cbae004b3f08ef7de5d1caa51c2c042f0a643a40f74b43f91f0506f7bae4eeb", func := "dataflow/dataflowlaw30.IfdsGrows", spec := "ifdsGrows", unfollowed := true, recurses := true, plainKeys := false, apart := false }
def IfdsGrowsSaid : Prop := ifdsGrowsRow.holds Try.pinned (OpenSpec.ofChange ifdsGrowsSpec)

/-- ITS FALSE NEIGHBOUR: 'it returns false'. Refute it at one input. -/
def ifdsGrowsWrong : ChangeSpec := { name := "ifdsGrows", fn := fun _ => fun
  | [d1, d2, d3] => { results := [.lit (.bool false)], args := [d1, d2, d3] }
  | _ => none }
def IfdsGrowsWrongFalsely : Prop := ifdsGrowsRow.holds Try.pinned (OpenSpec.ofChange ifdsGrowsWrong)

/-- 'dataflowlaw31.ExplodedWithin': WHATEVER THE INPUT: true; the input reads as it did. -/
def explodedWithinSpec : ChangeSpec := { name := "explodedWithin", fn := fun _ => fun
  | [d1, d2] => { results := [.lit (.bool true)], args := [d1, d2] }
  | _ => none }
def explodedWithinRow : OpenClaim := { program := "ytgcfhcgnkohfkaa", sum := "6cbae004b3f08ef7de5d1caa51c2c042f0a643a40f74b43f91f0506f7bae4eeb", func := "dataflow/dataflowlaw31.ExplodedWithin", spec := "explodedWithin", unfollowed := true, recurses := true, plainKeys := false, apart := false }
def ExplodedWithinSaid : Prop := explodedWithinRow.holds Try.pinned (OpenSpec.ofChange explodedWithinSpec)

/-- ITS FALSE NEIGHBOUR: 'it returns false'. Refute it at one input. -/
def explodedWithinWrong : ChangeSpec := { name := "explodedWithin", fn := fun _ => fun
  | [d1, d2] => { results := [.lit (.bool false)], args := [d1, d2] }
  | _ => none }
def ExplodedWithinWrongFalsely : Prop := explodedWithinRow.holds Try.pinned (OpenSpec.ofChange explodedWithinWrong)

/- THE SECOND FORM. 'bulk': how many values and letters a reading holds, each counted each time it is reached (what is shared counts as often as it is met; a slice's spare places count too). A statement '..UptoSaid' is the law's where the arguments, and the package variables that the reading takes, are together of bulk at most 1048576: NARROWER than '..Said'. Prove '..Said' where nothing that the law and all that it calls make is longer than what came in: it says more and counts as full. Else prove '..UptoSaid'. A law counts once. -/
mutual
def uptoBulk {H : Type} : DataW H → Nat
  | .lit (.string bytes) => bytes.length + 1
  | .lit _ => 1
  | .nil => 1
  | .ptr d => uptoBulk d + 1
  | .slice elems spare => uptoBulkAll elems + uptoBulkAll spare + 1
  | .agg parts => uptoBulkAll parts + 1
  | .iface _ d => uptoBulk d + 1
  | .map entries => uptoBulkEntries entries + 1
  | .held _ => 1
def uptoBulkAll {H : Type} : List (DataW H) → Nat
  | [] => 0
  | d :: r => uptoBulk d + uptoBulkAll r
def uptoBulkEntries {H : Type} : List (Lit × DataW H) → Nat
  | [] => 0
  | x :: r => uptoBulkEntry x + uptoBulkEntries r
def uptoBulkEntry {H : Type} : Lit × DataW H → Nat
  | (.string bytes, d) => bytes.length + uptoBulk d + 1
  | (_, d) => uptoBulk d + 1
 end
def uptoSmall : (H : Type) → List (DataW H) → Bool := fun _ ds => decide (uptoBulkAll ds ≤ 1048576)
def OpenSpec.upto (s : _root_.Go.ChangeSpec) : _root_.Go.OpenSpec := { _root_.Go.OpenSpec.ofChange s with cond := some uptoSmall }

/-- 'dataflowlaw30.IfdsCheck', WHERE WHAT IT READS IS OF BULK AT MOST 1048576: true; the input reads as it did. -/
def ifdsCheckUptoRow : OpenClaim := { program := "ytgcfhcgnkohfkaa", sum := "6cbae004b3f08ef7de5d1caa51c2c042f0a643a40f74b43f91f0506f7bae4eeb", func := "dataflow/dataflowlaw30.IfdsCheck", spec := "ifdsCheck", unfollowed := true, recurses := true, plainKeys := false, apart := false, narrowed := true }
def IfdsCheckUptoSaid : Prop := ifdsCheckUptoRow.holds Try.pinned (OpenSpec.upto ifdsCheckSpec)

/-- 'dataflowlaw30.IfdsHolds', WHERE WHAT IT READS IS OF BULK AT MOST 1048576: true; the input reads as it did. -/
def ifdsHoldsUptoRow : OpenClaim := { program := "ytgcfhcgnkohfkaa", sum := "6cbae004b3f08ef7de5d1caa51c2c042f0a643a40f74b43f91f0506f7bae4eeb", func := "dataflow/dataflowlaw30.IfdsHolds", spec := "ifdsHolds", unfollowed := true, recurses := true, plainKeys := false, apart := false, narrowed := true }
def IfdsHoldsUptoSaid : Prop := ifdsHoldsUptoRow.holds Try.pinned (OpenSpec.upto ifdsHoldsSpec)

/-- 'dataflowlaw30.IfdsGrows', WHERE WHAT IT READS IS OF BULK AT MOST 1048576: true; the input reads as it did. -/
def ifdsGrowsUptoRow : OpenClaim := { program := "ytgcfhcgnkohfkaa", sum := "6cbae004b3f08ef7de5d1caa51c2c042f0a643a40f74b43f91f0506f7bae4eeb", func := "dataflow/dataflowlaw30.IfdsGrows", spec := "ifdsGrows", unfollowed := true, recurses := true, plainKeys := false, apart := false, narrowed := true }
def IfdsGrowsUptoSaid : Prop := ifdsGrowsUptoRow.holds Try.pinned (OpenSpec.upto ifdsGrowsSpec)

/-- 'dataflowlaw31.ExplodedWithin', WHERE WHAT IT READS IS OF BULK AT MOST 1048576: true; the input reads as it did. -/
def explodedWithinUptoRow : OpenClaim := { program := "ytgcfhcgnkohfkaa", sum := "6cbae004b3f08ef7de5d1caa51c2c042f0a643a40f74b43f91f0506f7bae4eeb", func := "dataflow/dataflowlaw31.ExplodedWithin", spec := "explodedWithin", unfollowed := true, recurses := true, plainKeys := false, apart := false, narrowed := true }
def ExplodedWithinUptoSaid : Prop := explodedWithinUptoRow.holds Try.pinned (OpenSpec.upto explodedWithinSpec)

end Rows
end Go.Proofs.Ytgcfhcgnkohfkaa
