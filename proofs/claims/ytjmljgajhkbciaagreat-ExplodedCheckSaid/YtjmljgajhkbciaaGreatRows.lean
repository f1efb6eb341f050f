/-
  No cell of these rows narrows 'for every input' (looked for: loops, veiled, ifaces, maps, wideKeys, modest, calm, conditions, laid).
  DERIVED. THE GIVEN ROWS OF THIS SEAT. 3 by the template 'for every input the law returns true; each argument reads behind the call as it read before'; 0 by the template 'total and deterministic' (their statements: YtjmljgajhkbciaaGreatTotals.lean).
  GIVEN WITH THE SEED: the statements are not yours to turn. If you find one false, say at which input.
  Laid BY PROGRAM, IN A SANDBOX (cutbox-rows.mjs): the forced cells as the released guide's own fill.sh prints them over the translation ed0e58027aabac53… (all of the seat's roots in one cut). By AI agents, Wed Nov 11 2026. No macro, syntax, notation, axiom, sorry.
-/
import Derived.Test.YtjmljgajhkbciaaGreatChecked
import GoSem.Claim
import GoSem.ClaimJoined
import GoSem.ClaimMapViews
import Derived.JoinedTies
import Derived.KernelRfl
namespace Go.Proofs.YtjmljgajhkbciaaGreat
/- THE CELL 'sum', in the pinned program and in every row, IS THE sha256 OF THE DUMP (.gsa) THAT YtjmljgajhkbciaaGreatProg.lean LOADS. Nothing in Lean hashes anything: it is a label: what it is worth is what the hold of that sum in a sandbox is worth. -/
noncomputable def Tryz.pinned : Pinned := { name := "ytjmljgajhkbciaagreat", sum := "ed0e58027aabac53031fc1bedbaff7d6bb301bfe1f49117f94537260cb65c45e", checked := Tryz.checked }
namespace Rows
def none {H : Type} : Left H := { results := [], args := [] }

/-- 'dataflowlaw31.ExplodedAlong': WHATEVER THE INPUT: true; the input reads as it did. -/
def explodedAlongSpec : ChangeSpec := { name := "explodedAlong", fn := fun _ => fun
  | [d1, d2] => { results := [.lit (.bool true)], args := [d1, d2] }
  | _ => none }
def explodedAlongRow : OpenClaim := { program := "ytjmljgajhkbciaagreat", sum := "ed0e58027aabac53031fc1bedbaff7d6bb301bfe1f49117f94537260cb65c45e", func := "dataflow/dataflowlaw31.ExplodedAlong", spec := "explodedAlong", unfollowed := true, recurses := true, apart := false }
def ExplodedAlongSaid : Prop := explodedAlongRow.holds Tryz.pinned (OpenSpec.ofChange explodedAlongSpec)

/-- ITS FALSE NEIGHBOUR: 'it returns false'. Refute it at one input. -/
def explodedAlongWrong : ChangeSpec := { name := "explodedAlong", fn := fun _ => fun
  | [d1, d2] => { results := [.lit (.bool false)], args := [d1, d2] }
  | _ => none }
def ExplodedAlongWrongFalsely : Prop := explodedAlongRow.holds Tryz.pinned (OpenSpec.ofChange explodedAlongWrong)

/-- 'dataflowlaw31.ExplodedCheck': WHATEVER THE INPUT: true; the input reads as it did. -/
def explodedCheckSpec : ChangeSpec := { name := "explodedCheck", fn := fun _ => fun
  | [d1, d2] => { results := [.lit (.bool true)], args := [d1, d2] }
  | _ => none }
def explodedCheckRow : OpenClaim := { program := "ytjmljgajhkbciaagreat", sum := "ed0e58027aabac53031fc1bedbaff7d6bb301bfe1f49117f94537260cb65c45e", func := "dataflow/dataflowlaw31.ExplodedCheck", spec := "explodedCheck", unfollowed := true, recurses := true, apart := false }
def ExplodedCheckSaid : Prop := explodedCheckRow.holds Tryz.pinned (OpenSpec.ofChange explodedCheckSpec)

/-- ITS FALSE NEIGHBOUR: 'it returns false'. Refute it at one input. -/
def explodedCheckWrong : ChangeSpec := { name := "explodedCheck", fn := fun _ => fun
  | [d1, d2] => { results := [.lit (.bool false)], args := [d1, d2] }
  | _ => none }
def ExplodedCheckWrongFalsely : Prop := explodedCheckRow.holds Tryz.pinned (OpenSpec.ofChange explodedCheckWrong)

/-- 'dataflowlaw31.ExplodedMeet': WHATEVER THE INPUT: true; the input reads as it did. -/
def explodedMeetSpec : ChangeSpec := { name := "explodedMeet", fn := fun _ => fun
  | [d1, d2] => { results := [.lit (.bool true)], args := [d1, d2] }
  | _ => none }
def explodedMeetRow : OpenClaim := { program := "ytjmljgajhkbciaagreat", sum := "ed0e58027aabac53031fc1bedbaff7d6bb301bfe1f49117f94537260cb65c45e", func := "dataflow/dataflowlaw31.ExplodedMeet", spec := "explodedMeet", unfollowed := true, recurses := true, apart := false }
def ExplodedMeetSaid : Prop := explodedMeetRow.holds Tryz.pinned (OpenSpec.ofChange explodedMeetSpec)

/-- ITS FALSE NEIGHBOUR: 'it returns false'. Refute it at one input. -/
def explodedMeetWrong : ChangeSpec := { name := "explodedMeet", fn := fun _ => fun
  | [d1, d2] => { results := [.lit (.bool false)], args := [d1, d2] }
  | _ => none }
def ExplodedMeetWrongFalsely : Prop := explodedMeetRow.holds Tryz.pinned (OpenSpec.ofChange explodedMeetWrong)

/- THE SECOND FORM. 'bulk': how many values and letters a reading holds, each counted each time it is reached (what is shared counts as often as it is met; a slice's spare places count too). A statement '..UptoSaid' is the law's where the arguments, and the package variables that the reading takes, are together of bulk at most 1048576: NARROWER than '..Said'. Prove '..Said' where nothing that the law and all that it calls make is longer than what came in: it says more and counts as full. Else prove '..UptoSaid'. A law counts once. -/
mutual
def uptoBulk {H : Type} : DataW H → Nat
  | .lit (.string bytes) => bytes.length + 1
  | .lit _ => 1
  | .nil => 1
  | .ptr d => uptoBulk d + 1
  | .slice elems spare => uptoBulkAll elems + uptoBulkAll spare + 1
  | .agg parts => uptoBulkAll parts + 1
  | .iface _ d => uptoBulk d + 1
  | .map entries => uptoBulkEntries entries + 1
  | .held _ => 1
def uptoBulkAll {H : Type} : List (DataW H) → Nat
  | [] => 0
  | d :: r => uptoBulk d + uptoBulkAll r
def uptoBulkEntries {H : Type} : List (Lit × DataW H) → Nat
  | [] => 0
  | x :: r => uptoBulkEntry x + uptoBulkEntries r
def uptoBulkEntry {H : Type} : Lit × DataW H → Nat
  | (.string bytes, d) => bytes.length + uptoBulk d + 1
  | (_, d) => uptoBulk d + 1
 end
def uptoSmall : (H : Type) → List (DataW H) → Bool := fun _ ds => decide (uptoBulkAll ds ≤ 1048576)
def OpenSpec.upto (s : _root_.Go.ChangeSpec) : _root_.Go.OpenSpec := { _root_.Go.OpenSpec.ofChange s with cond := some uptoSmall }

/-- 'dataflowlaw31.ExplodedAlong', WHERE WHAT IT READS IS OF BULK AT MOST 1048576: true; the input reads as it did. -/
def explodedAlongUptoRow : OpenClaim := { program := "ytjmljgajhkbciaagreat", sum := "ed0e58027aabac53031fc1bedbaff7d6bb301bfe1f49117f94537260cb65c45e", func := "dataflow/dataflowlaw31.ExplodedAlong", spec := "explodedAlong", unfollowed := true, recurses := true, apart := false, narrowed := true }
def ExplodedAlongUptoSaid : Prop := explodedAlongUptoRow.holds Tryz.pinned (OpenSpec.upto explodedAlongSpec)

/-- 'dataflowlaw31.ExplodedCheck', WHERE WHAT IT READS IS OF BULK AT MOST 1048576: true; the input reads as it did. -/
def explodedCheckUptoRow : OpenClaim := { program := "ytjmljgajhkbciaagreat", sum := "ed0e58027aabac53031fc1bedbaff7d6bb301bfe1f49117f94537260cb65c45e", func := "dataflow/dataflowlaw31.ExplodedCheck", spec := "explodedCheck", unfollowed := true, recurses := true, apart := false, narrowed := true }
def ExplodedCheckUptoSaid : Prop := explodedCheckUptoRow.holds Tryz.pinned (OpenSpec.upto explodedCheckSpec)

/-- 'dataflowlaw31.ExplodedMeet', WHERE WHAT IT READS IS OF BULK AT MOST 1048576: true; the input reads as it did. -/
def explodedMeetUptoRow : OpenClaim := { program := "ytjmljgajhkbciaagreat", sum := "ed0e58027aabac53031fc1bedbaff7d6bb301bfe1f49117f94537260cb65c45e", func := "dataflow/dataflowlaw31.ExplodedMeet", spec := "explodedMeet", unfollowed := true, recurses := true, apart := false, narrowed := true }
def ExplodedMeetUptoSaid : Prop := explodedMeetUptoRow.holds Tryz.pinned (OpenSpec.upto explodedMeetSpec)

end Rows
end Go.Proofs.YtjmljgajhkbciaaGreat
