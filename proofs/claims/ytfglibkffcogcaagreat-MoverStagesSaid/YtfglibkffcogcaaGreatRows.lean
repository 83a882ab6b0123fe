/-
  No cell of these rows narrows 'for every input' (looked for: loops, veiled, ifaces, maps, wideKeys, modest, calm, conditions, laid).
  DERIVED. THE GIVEN ROWS OF THIS SEAT. 2 by the template 'for every input the law returns true; each argument reads behind the call as it read before'; 0 by the template 'total and deterministic' (their statements: YtfglibkffcogcaaGreatTotals.lean).
  GIVEN WITH THE SEED: the statements are not yours to turn. If you find one false, say at which input.
  Laid BY PROGRAM, IN A SANDBOX (cutbox-rows.mjs): the forced cells as the released guide's own fill.sh prints them over the translation 5e85fd3210ca1a29… (all of the seat's roots in one cut). By AI agents, Wed Nov 11 2026. No macro, syntax, notation, axiom, sorry.
-/
import Derived.Test.YtfglibkffcogcaaGreatChecked
import GoSem.Claim
import GoSem.ClaimJoined
import GoSem.ClaimMapViews
import Derived.JoinedTies
import Derived.KernelRfl
namespace Go.Proofs.YtfglibkffcogcaaGreat
/- THE CELL 'sum', in the pinned program and in every row, IS THE sha256 OF THE DUMP (.gsa) THAT YtfglibkffcogcaaGreatProg.lean LOADS. Nothing in Lean hashes anything: it is a label: what it is worth is what the hold of that sum in a sandbox is worth. -/
noncomputable def Tryz.pinned : Pinned := { name := "ytfglibkffcogcaagreat", sum := "5e85fd3210ca1a296e2b99d8de2b1efc91aaa0798d5d50bae690c8b8b7b1195a", checked := Tryz.checked }
namespace Rows
def none {H : Type} : Left H := { results := [], args := [] }

/-- 'watershedlaw27.MoverRuns': WHATEVER THE INPUT: true; the input reads as it did. -/
def moverRunsSpec : ChangeSpec := { name := "moverRuns", fn := fun _ => fun
  | [d1, d2] => { results := [.lit (.bool true)], args := [d1, d2] }
  | _ => none }
def moverRunsRow : OpenClaim := { program := "ytfglibkffcogcaagreat", sum := "5e85fd3210ca1a296e2b99d8de2b1efc91aaa0798d5d50bae690c8b8b7b1195a", func := "watershed/watershedlaw27.MoverRuns", spec := "moverRuns", unfollowed := true, recurses := true, apart := false }
def MoverRunsSaid : Prop := moverRunsRow.holds Tryz.pinned (OpenSpec.ofChange moverRunsSpec)

/-- ITS FALSE NEIGHBOUR: 'it returns false'. Refute it at one input. -/
def moverRunsWrong : ChangeSpec := { name := "moverRuns", fn := fun _ => fun
  | [d1, d2] => { results := [.lit (.bool false)], args := [d1, d2] }
  | _ => none }
def MoverRunsWrongFalsely : Prop := moverRunsRow.holds Tryz.pinned (OpenSpec.ofChange moverRunsWrong)

/-- 'watershedlaw27.MoverStages': WHATEVER THE INPUT: true; the input reads as it did. -/
def moverStagesSpec : ChangeSpec := { name := "moverStages", fn := fun _ => fun
  | [] => { results := [.lit (.bool true)], args := [] }
  | _ => none }
def moverStagesRow : OpenClaim := { program := "ytfglibkffcogcaagreat", sum := "5e85fd3210ca1a296e2b99d8de2b1efc91aaa0798d5d50bae690c8b8b7b1195a", func := "watershed/watershedlaw27.MoverStages", spec := "moverStages", unfollowed := true, recurses := true, apart := false }
def MoverStagesSaid : Prop := moverStagesRow.holds Tryz.pinned (OpenSpec.ofChange moverStagesSpec)

/-- ITS FALSE NEIGHBOUR: 'it returns false'. Refute it at one input. -/
def moverStagesWrong : ChangeSpec := { name := "moverStages", fn := fun _ => fun
  | [] => { results := [.lit (.bool false)], args := [] }
  | _ => none }
def MoverStagesWrongFalsely : Prop := moverStagesRow.holds Tryz.pinned (OpenSpec.ofChange moverStagesWrong)

/- THE SECOND FORM. 'bulk': how many values and letters a reading holds, each counted each time it is reached (what is shared counts as often as it is met; a slice's spare places count too). A statement '..UptoSaid' is the law's where the arguments, and the package variables that the reading takes, are together of bulk at most 1048576: NARROWER than '..Said'. Prove '..Said' where nothing that the law and all that it calls make is longer than what came in: it says more and counts as full. Else prove '..UptoSaid'. A law counts once. -/
mutual
def uptoBulk {H : Type} : DataW H → Nat
  | .lit (.string bytes) => bytes.length + 1
  | .lit _ => 1
  | .nil => 1
  | .ptr d => uptoBulk d + 1
  | .slice elems spare => uptoBulkAll elems + uptoBulkAll spare + 1
  | .agg parts => uptoBulkAll parts + 1
  | .iface _ d => uptoBulk d + 1
  | .map entries => uptoBulkEntries entries + 1
  | .held _ => 1
def uptoBulkAll {H : Type} : List (DataW H) → Nat
  | [] => 0
  | d :: r => uptoBulk d + uptoBulkAll r
def uptoBulkEntries {H : Type} : List (Lit × DataW H) → Nat
  | [] => 0
  | x :: r => uptoBulkEntry x + uptoBulkEntries r
def uptoBulkEntry {H : Type} : Lit × DataW H → Nat
  | (.string bytes, d) => bytes.length + uptoBulk d + 1
  | (_, d) => uptoBulk d + 1
 end
def uptoSmall : (H : Type) → List (DataW H) → Bool := fun _ ds => decide (uptoBulkAll ds ≤ 1048576)
def OpenSpec.upto (s : _root_.Go.ChangeSpec) : _root_.Go.OpenSpec := { _root_.Go.OpenSpec.ofChange s with cond := some uptoSmall }

/-- 'watershedlaw27.MoverRuns', WHERE WHAT IT READS IS OF BULK AT MOST 1048576: true; the input reads as it did. -/
def moverRunsUptoRow : OpenClaim := { program := "ytfglibkffcogcaagreat", sum := "5e85fd3210ca1a296e2b99d8de2b1efc91aaa0798d5d50bae690c8b8b7b1195a", func := "watershed/watershedlaw27.MoverRuns", spec := "moverRuns", unfollowed := true, recurses := true, apart := false, narrowed := true }
def MoverRunsUptoSaid : Prop := moverRunsUptoRow.holds Tryz.pinned (OpenSpec.upto moverRunsSpec)

/-- 'watershedlaw27.MoverStages', WHERE WHAT IT READS IS OF BULK AT MOST 1048576: true; the input reads as it did. -/
def moverStagesUptoRow : OpenClaim := { program := "ytfglibkffcogcaagreat", sum := "5e85fd3210ca1a296e2b99d8de2b1efc91aaa0798d5d50bae690c8b8b7b1195a", func := "watershed/watershedlaw27.MoverStages", spec := "moverStages", unfollowed := true, recurses := true, apart := false, narrowed := true }
def MoverStagesUptoSaid : Prop := moverStagesUptoRow.holds Tryz.pinned (OpenSpec.upto moverStagesSpec)

end Rows
end Go.Proofs.YtfglibkffcogcaaGreat
