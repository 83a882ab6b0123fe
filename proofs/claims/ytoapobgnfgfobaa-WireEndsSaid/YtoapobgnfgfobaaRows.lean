/-
  No cell of these rows narrows 'for every input' (looked for: loops, veiled, ifaces, maps, wideKeys, modest, calm, conditions, laid).
  DERIVED. THE GIVEN ROWS OF THIS SEAT. 8 by the template 'for every input the law returns true; each argument reads behind the call as it read before'; 0 by the template 'total and deterministic' (their statements: YtoapobgnfgfobaaTotals.lean).
  GIVEN WITH THE SEED: the statements are not yours to turn. If you find one false, say at which input.
  Laid BY PROGRAM, IN A SANDBOX (cutbox-rows.mjs): the forced cells as the released guide's own fill.sh prints them over the translation 8d7616dee4bab4eb… (all of the seat's roots in one cut). By AI agents, Wed Nov 11 2026. No macro, syntax, notation, axiom, sorry.
-/
import Derived.Test.YtoapobgnfgfobaaChecked
import GoSem.Claim
import GoSem.ClaimJoined
import GoSem.ClaimMapViews
import Derived.JoinedTies
import Derived.KernelRfl
namespace Go.Proofs.Ytoapobgnfgfobaa
/- THE CELL 'sum', in the pinned program and in every row, IS THE sha256 OF THE DUMP (.gsa) THAT YtoapobgnfgfobaaProg.lean LOADS. Nothing in Lean hashes anything: it is a label: what it is worth is what the hold of that sum in a sandbox is worth. -/
noncomputable def Try.pinned : Pinned := { name := "ytoapobgnfgfobaa", sum := "8d7616dee4bab4eb43f1721d5f661a9cdb223b007ec03a3b5d458eeda5e4efe1", checked := Try.checked }
namespace Rows
def none {H : Type} : Left H := { results := [], args := [] }

/-- 'watershedlaw17.PastRuns': WHATEVER THE INPUT: true; the input reads as it did. -/
def pastRunsSpec : ChangeSpec := { name := "pastRuns", fn := fun _ => fun
  | [d1, d2] => { results := [.lit (.bool true)], args := [d1, d2] }
  | _ => none }
def pastRunsRow : OpenClaim := { program := "ytoapobgnfgfobaa", sum := "8d7616dee4bab4eb43f1721d5f661a9cdb223b007ec03a3b5d458eeda5e4efe1", func := "watershed/watershedlaw17.PastRuns", spec := "pastRuns", unfollowed := true, recurses := true, apart := false }
def PastRunsSaid : Prop := pastRunsRow.holds Try.pinned (OpenSpec.ofChange pastRunsSpec)

/-- ITS FALSE NEIGHBOUR: 'it returns false'. Refute it at one input. -/
def pastRunsWrong : ChangeSpec := { name := "pastRuns", fn := fun _ => fun
  | [d1, d2] => { results := [.lit (.bool false)], args := [d1, d2] }
  | _ => none }
def PastRunsWrongFalsely : Prop := pastRunsRow.holds Try.pinned (OpenSpec.ofChange pastRunsWrong)

/-- 'watershedlaw02.WireAgain': WHATEVER THE INPUT: true; the input reads as it did. -/
def wireAgainSpec : ChangeSpec := { name := "wireAgain", fn := fun _ => fun
  | [d] => { results := [.lit (.bool true)], args := [d] }
  | _ => none }
def wireAgainRow : OpenClaim := { program := "ytoapobgnfgfobaa", sum := "8d7616dee4bab4eb43f1721d5f661a9cdb223b007ec03a3b5d458eeda5e4efe1", func := "watershed/watershedlaw02.WireAgain", spec := "wireAgain", apart := false }
def WireAgainSaid : Prop := wireAgainRow.holds Try.pinned (OpenSpec.ofChange wireAgainSpec)

/-- ITS FALSE NEIGHBOUR: 'it returns false'. Refute it at one input. -/
def wireAgainWrong : ChangeSpec := { name := "wireAgain", fn := fun _ => fun
  | [d] => { results := [.lit (.bool false)], args := [d] }
  | _ => none }
def WireAgainWrongFalsely : Prop := wireAgainRow.holds Try.pinned (OpenSpec.ofChange wireAgainWrong)

/-- 'watershedlaw17.PastReads': WHATEVER THE INPUT: true; the input reads as it did. -/
def pastReadsSpec : ChangeSpec := { name := "pastReads", fn := fun _ => fun
  | [d] => { results := [.lit (.bool true)], args := [d] }
  | _ => none }
def pastReadsRow : OpenClaim := { program := "ytoapobgnfgfobaa", sum := "8d7616dee4bab4eb43f1721d5f661a9cdb223b007ec03a3b5d458eeda5e4efe1", func := "watershed/watershedlaw17.PastReads", spec := "pastReads", unfollowed := true, recurses := true, apart := false }
def PastReadsSaid : Prop := pastReadsRow.holds Try.pinned (OpenSpec.ofChange pastReadsSpec)

/-- ITS FALSE NEIGHBOUR: 'it returns false'. Refute it at one input. -/
def pastReadsWrong : ChangeSpec := { name := "pastReads", fn := fun _ => fun
  | [d] => { results := [.lit (.bool false)], args := [d] }
  | _ => none }
def PastReadsWrongFalsely : Prop := pastReadsRow.holds Try.pinned (OpenSpec.ofChange pastReadsWrong)

/-- 'watershedlaw02.WireWrites': WHATEVER THE INPUT: true; the input reads as it did. -/
def wireWritesSpec : ChangeSpec := { name := "wireWrites", fn := fun _ => fun
  | [d1, d2, d3, d4] => { results := [.lit (.bool true)], args := [d1, d2, d3, d4] }
  | _ => none }
def wireWritesRow : OpenClaim := { program := "ytoapobgnfgfobaa", sum := "8d7616dee4bab4eb43f1721d5f661a9cdb223b007ec03a3b5d458eeda5e4efe1", func := "watershed/watershedlaw02.WireWrites", spec := "wireWrites", apart := false }
def WireWritesSaid : Prop := wireWritesRow.holds Try.pinned (OpenSpec.ofChange wireWritesSpec)

/-- ITS FALSE NEIGHBOUR: 'it returns false'. Refute it at one input. -/
def wireWritesWrong : ChangeSpec := { name := "wireWrites", fn := fun _ => fun
  | [d1, d2, d3, d4] => { results := [.lit (.bool false)], args := [d1, d2, d3, d4] }
  | _ => none }
def WireWritesWrongFalsely : Prop := wireWritesRow.holds Try.pinned (OpenSpec.ofChange wireWritesWrong)

/-- 'watershedlaw02.WireReads': WHATEVER THE INPUT: true; the input reads as it did. -/
def wireReadsSpec : ChangeSpec := { name := "wireReads", fn := fun _ => fun
  | [d1, d2] => { results := [.lit (.bool true)], args := [d1, d2] }
  | _ => none }
def wireReadsRow : OpenClaim := { program := "ytoapobgnfgfobaa", sum := "8d7616dee4bab4eb43f1721d5f661a9cdb223b007ec03a3b5d458eeda5e4efe1", func := "watershed/watershedlaw02.WireReads", spec := "wireReads", apart := false }
def WireReadsSaid : Prop := wireReadsRow.holds Try.pinned (OpenSpec.ofChange wireReadsSpec)

/-- ITS FALSE NEIGHBOUR: 'it returns false'. Refute it at one input. -/
def wireReadsWrong : ChangeSpec := { name := "wireReads", fn := fun _ => fun
  | [d1, d2] => { results := [.lit (.bool false)], args := [d1, d2] }
  | _ => none }
def WireReadsWrongFalsely : Prop := wireReadsRow.holds Try.pinned (OpenSpec.ofChange wireReadsWrong)

/-- 'watershedlaw02.WireEnds': WHATEVER THE INPUT: true; the input reads as it did. -/
def wireEndsSpec : ChangeSpec := { name := "wireEnds", fn := fun _ => fun
  | [] => { results := [.lit (.bool true)], args := [] }
  | _ => none }
def wireEndsRow : OpenClaim := { program := "ytoapobgnfgfobaa", sum := "8d7616dee4bab4eb43f1721d5f661a9cdb223b007ec03a3b5d458eeda5e4efe1", func := "watershed/watershedlaw02.WireEnds", spec := "wireEnds", apart := false }
def WireEndsSaid : Prop := wireEndsRow.holds Try.pinned (OpenSpec.ofChange wireEndsSpec)

/-- ITS FALSE NEIGHBOUR: 'it returns false'. Refute it at one input. -/
def wireEndsWrong : ChangeSpec := { name := "wireEnds", fn := fun _ => fun
  | [] => { results := [.lit (.bool false)], args := [] }
  | _ => none }
def WireEndsWrongFalsely : Prop := wireEndsRow.holds Try.pinned (OpenSpec.ofChange wireEndsWrong)

/-- 'watershedlaw02.WireBack': WHATEVER THE INPUT: true; the input reads as it did. -/
def wireBackSpec : ChangeSpec := { name := "wireBack", fn := fun _ => fun
  | [d1, d2, d3, d4] => { results := [.lit (.bool true)], args := [d1, d2, d3, d4] }
  | _ => none }
def wireBackRow : OpenClaim := { program := "ytoapobgnfgfobaa", sum := "8d7616dee4bab4eb43f1721d5f661a9cdb223b007ec03a3b5d458eeda5e4efe1", func := "watershed/watershedlaw02.WireBack", spec := "wireBack", apart := false }
def WireBackSaid : Prop := wireBackRow.holds Try.pinned (OpenSpec.ofChange wireBackSpec)

/-- ITS FALSE NEIGHBOUR: 'it returns false'. Refute it at one input. -/
def wireBackWrong : ChangeSpec := { name := "wireBack", fn := fun _ => fun
  | [d1, d2, d3, d4] => { results := [.lit (.bool false)], args := [d1, d2, d3, d4] }
  | _ => none }
def WireBackWrongFalsely : Prop := wireBackRow.holds Try.pinned (OpenSpec.ofChange wireBackWrong)

/-- 'watershedlaw17.PastGrows': WHATEVER THE INPUT: true; the input reads as it did. -/
def pastGrowsSpec : ChangeSpec := { name := "pastGrows", fn := fun _ => fun
  | [d1, d2, d3] => { results := [.lit (.bool true)], args := [d1, d2, d3] }
  | _ => none }
def pastGrowsRow : OpenClaim := { program := "ytoapobgnfgfobaa", sum := "8d7616dee4bab4eb43f1721d5f661a9cdb223b007ec03a3b5d458eeda5e4efe1", func := "watershed/watershedlaw17.PastGrows", spec := "pastGrows", unfollowed := true, recurses := true, apart := false }
def PastGrowsSaid : Prop := pastGrowsRow.holds Try.pinned (OpenSpec.ofChange pastGrowsSpec)

/-- ITS FALSE NEIGHBOUR: 'it returns false'. Refute it at one input. -/
def pastGrowsWrong : ChangeSpec := { name := "pastGrows", fn := fun _ => fun
  | [d1, d2, d3] => { results := [.lit (.bool false)], args := [d1, d2, d3] }
  | _ => none }
def PastGrowsWrongFalsely : Prop := pastGrowsRow.holds Try.pinned (OpenSpec.ofChange pastGrowsWrong)

/- THE SECOND FORM. 'bulk': how many values and letters a reading holds, each counted each time it is reached (what is shared counts as often as it is met; a slice's spare places count too). A statement '..UptoSaid' is the law's where the arguments, and the package variables that the reading takes, are together of bulk at most 1048576: NARROWER than '..Said'. Prove '..Said' where nothing that the law and all that it calls make is longer than what came in: it says more and counts as full. Else prove '..UptoSaid'. A law counts once. -/
mutual
def uptoBulk {H : Type} : DataW H → Nat
  | .lit (.string bytes) => bytes.length + 1
  | .lit _ => 1
  | .nil => 1
  | .ptr d => uptoBulk d + 1
  | .slice elems spare => uptoBulkAll elems + uptoBulkAll spare + 1
  | .agg parts => uptoBulkAll parts + 1
  | .iface _ d => uptoBulk d + 1
  | .map entries => uptoBulkEntries entries + 1
  | .held _ => 1
def uptoBulkAll {H : Type} : List (DataW H) → Nat
  | [] => 0
  | d :: r => uptoBulk d + uptoBulkAll r
def uptoBulkEntries {H : Type} : List (Lit × DataW H) → Nat
  | [] => 0
  | x :: r => uptoBulkEntry x + uptoBulkEntries r
def uptoBulkEntry {H : Type} : Lit × DataW H → Nat
  | (.string bytes, d) => bytes.length + uptoBulk d + 1
  | (_, d) => uptoBulk d + 1
 end
def uptoSmall : (H : Type) → List (DataW H) → Bool := fun _ ds => decide (uptoBulkAll ds ≤ 1048576)
def OpenSpec.upto (s : _root_.Go.ChangeSpec) : _root_.Go.OpenSpec := { _root_.Go.OpenSpec.ofChange s with cond := some uptoSmall }

/-- 'watershedlaw17.PastRuns', WHERE WHAT IT READS IS OF BULK AT MOST 1048576: true; the input reads as it did. -/
def pastRunsUptoRow : OpenClaim := { program := "ytoapobgnfgfobaa", sum := "8d7616dee4bab4eb43f1721d5f661a9cdb223b007ec03a3b5d458eeda5e4efe1", func := "watershed/watershedlaw17.PastRuns", spec := "pastRuns", unfollowed := true, recurses := true, apart := false, narrowed := true }
def PastRunsUptoSaid : Prop := pastRunsUptoRow.holds Try.pinned (OpenSpec.upto pastRunsSpec)

/-- 'watershedlaw02.WireAgain', WHERE WHAT IT READS IS OF BULK AT MOST 1048576: true; the input reads as it did. -/
def wireAgainUptoRow : OpenClaim := { program := "ytoapobgnfgfobaa", sum := "8d7616dee4bab4eb43f1721d5f661a9cdb223b007ec03a3b5d458eeda5e4efe1", func := "watershed/watershedlaw02.WireAgain", spec := "wireAgain", apart := false, narrowed := true }
def WireAgainUptoSaid : Prop := wireAgainUptoRow.holds Try.pinned (OpenSpec.upto wireAgainSpec)

/-- 'watershedlaw17.PastReads', WHERE WHAT IT READS IS OF BULK AT MOST 1048576: true; the input reads as it did. -/
def pastReadsUptoRow : OpenClaim := { program := "ytoapobgnfgfobaa", sum := "8d7616dee4bab4eb43f1721d5f661a9cdb223b007ec03a3b5d458eeda5e4efe1", func := "watershed/watershedlaw17.PastReads", spec := "pastReads", unfollowed := true, recurses := true, apart := false, narrowed := true }
def PastReadsUptoSaid : Prop := pastReadsUptoRow.holds Try.pinned (OpenSpec.upto pastReadsSpec)

/-- 'watershedlaw02.WireWrites', WHERE WHAT IT READS IS OF BULK AT MOST 1048576: true; the input reads as it did. -/
def wireWritesUptoRow : OpenClaim := { program := "ytoapobgnfgfobaa", sum := "8d7616dee4bab4eb43f1721d5f661a9cdb223b007ec03a3b5d458eeda5e4efe1", func := "watershed/watershedlaw02.WireWrites", spec := "wireWrites", apart := false, narrowed := true }
def WireWritesUptoSaid : Prop := wireWritesUptoRow.holds Try.pinned (OpenSpec.upto wireWritesSpec)

/-- 'watershedlaw02.WireReads', WHERE WHAT IT READS IS OF BULK AT MOST 1048576: true; the input reads as it did. -/
def wireReadsUptoRow : OpenClaim := { program := "ytoapobgnfgfobaa", sum := "8d7616dee4bab4eb43f1721d5f661a9cdb223b007ec03a3b5d458eeda5e4efe1", func := "watershed/watershedlaw02.WireReads", spec := "wireReads", apart := false, narrowed := true }
def WireReadsUptoSaid : Prop := wireReadsUptoRow.holds Try.pinned (OpenSpec.upto wireReadsSpec)

/-- 'watershedlaw02.WireEnds', WHERE WHAT IT READS IS OF BULK AT MOST 1048576: true; the input reads as it did. -/
def wireEndsUptoRow : OpenClaim := { program := "ytoapobgnfgfobaa", sum := "8d7616dee4bab4eb43f1721d5f661a9cdb223b007ec03a3b5d458eeda5e4efe1", func := "watershed/watershedlaw02.WireEnds", spec := "wireEnds", apart := false, narrowed := true }
def WireEndsUptoSaid : Prop := wireEndsUptoRow.holds Try.pinned (OpenSpec.upto wireEndsSpec)

/-- 'watershedlaw02.WireBack', WHERE WHAT IT READS IS OF BULK AT MOST 1048576: true; the input reads as it did. -/
def wireBackUptoRow : OpenClaim := { program := "ytoapobgnfgfobaa", sum := "8d7616dee4bab4eb43f1721d5f661a9cdb223b007ec03a3b5d458eeda5e4efe1", func := "watershed/watershedlaw02.WireBack", spec := "wireBack", apart := false, narrowed := true }
def WireBackUptoSaid : Prop := wireBackUptoRow.holds Try.pinned (OpenSpec.upto wireBackSpec)

/-- 'watershedlaw17.PastGrows', WHERE WHAT IT READS IS OF BULK AT MOST 1048576: true; the input reads as it did. -/
def pastGrowsUptoRow : OpenClaim := { program := "ytoapobgnfgfobaa", sum := "8d7616dee4bab4eb43f1721d5f661a9cdb223b007ec03a3b5d458eeda5e4efe1", func := "watershed/watershedlaw17.PastGrows", spec := "pastGrows", unfollowed := true, recurses := true, apart := false, narrowed := true }
def PastGrowsUptoSaid : Prop := pastGrowsUptoRow.holds Try.pinned (OpenSpec.upto pastGrowsSpec)

end Rows
end Go.Proofs.Ytoapobgnfgfobaa
