/-
  No cell of these rows narrows 'for every input' (looked for: loops, veiled, ifaces, maps, wideKeys, modest, calm, conditions, laid).
  DERIVED. THE GIVEN ROWS OF THIS SEAT. 5 by the template 'for every input the law returns true; each argument reads behind the call as it read before'; 0 by the template 'total and deterministic' (their statements: YtippdjaakcgeoaaGreatTotals.lean).
  GIVEN WITH THE SEED: the statements are not yours to turn. If you find one false, say at which input.
  Laid BY PROGRAM, IN A SANDBOX (cutbox-rows.mjs): the forced cells as the released guide's own fill.sh prints them over the translation 7781d0da1b1ef5c3… (all of the seat's roots in one cut). By AI agents, Wed Nov 11 2026. No macro, syntax, notation, axiom, sorry.
-/
import Derived.Test.YtippdjaakcgeoaaGreatChecked
import GoSem.Claim
import GoSem.ClaimJoined
import GoSem.ClaimMapViews
import Derived.JoinedTies
import Derived.KernelRfl
namespace Go.Proofs.YtippdjaakcgeoaaGreat
/- THE CELL 'sum', in the pinned program and in every row, IS THE sha256 OF THE DUMP (.gsa) THAT YtippdjaakcgeoaaGreatProg.lean LOADS. Nothing in Lean hashes anything: it is a label: what it is worth is what the hold of that sum in a sandbox is worth. -/
noncomputable def Tryz.pinned : Pinned := { name := "ytippdjaakcgeoaagreat", sum := "7781d0da1b1ef5c388e72460fe361236389c77f692c9a0438dde01ee413c0b49", checked := Tryz.checked }
namespace Rows
def none {H : Type} : Left H := { results := [], args := [] }

/-- 'watershedlaw25.NetRuns': WHATEVER THE INPUT: true; the input reads as it did. -/
def netRunsSpec : ChangeSpec := { name := "netRuns", fn := fun _ => fun
  | [d1, d2, d3] => { results := [.lit (.bool true)], args := [d1, d2, d3] }
  | _ => none }
def netRunsRow : OpenClaim := { program := "ytippdjaakcgeoaagreat", sum := "7781d0da1b1ef5c388e72460fe361236389c77f692c9a0438dde01ee413c0b49", func := "watershed/watershedlaw25.NetRuns", spec := "netRuns", unfollowed := true, recurses := true, plainKeys := false, apart := false }
def NetRunsSaid : Prop := netRunsRow.holds Tryz.pinned (OpenSpec.ofChange netRunsSpec)

/-- ITS FALSE NEIGHBOUR: 'it returns false'. Refute it at one input. -/
def netRunsWrong : ChangeSpec := { name := "netRuns", fn := fun _ => fun
  | [d1, d2, d3] => { results := [.lit (.bool false)], args := [d1, d2, d3] }
  | _ => none }
def NetRunsWrongFalsely : Prop := netRunsRow.holds Tryz.pinned (OpenSpec.ofChange netRunsWrong)

/-- 'watershedlaw25.NetEnds': WHATEVER THE INPUT: true; the input reads as it did. -/
def netEndsSpec : ChangeSpec := { name := "netEnds", fn := fun _ => fun
  | [] => { results := [.lit (.bool true)], args := [] }
  | _ => none }
def netEndsRow : OpenClaim := { program := "ytippdjaakcgeoaagreat", sum := "7781d0da1b1ef5c388e72460fe361236389c77f692c9a0438dde01ee413c0b49", func := "watershed/watershedlaw25.NetEnds", spec := "netEnds", unfollowed := true, recurses := true, plainKeys := false, apart := false }
def NetEndsSaid : Prop := netEndsRow.holds Tryz.pinned (OpenSpec.ofChange netEndsSpec)

/-- ITS FALSE NEIGHBOUR: 'it returns false'. Refute it at one input. -/
def netEndsWrong : ChangeSpec := { name := "netEnds", fn := fun _ => fun
  | [] => { results := [.lit (.bool false)], args := [] }
  | _ => none }
def NetEndsWrongFalsely : Prop := netEndsRow.holds Tryz.pinned (OpenSpec.ofChange netEndsWrong)

/-- 'watershedlaw11.LetterPuts': WHATEVER THE INPUT: true; the input reads as it did. -/
def letterPutsSpec : ChangeSpec := { name := "letterPuts", fn := fun _ => fun
  | [d1, d2, d3] => { results := [.lit (.bool true)], args := [d1, d2, d3] }
  | _ => none }
def letterPutsRow : OpenClaim := { program := "ytippdjaakcgeoaagreat", sum := "7781d0da1b1ef5c388e72460fe361236389c77f692c9a0438dde01ee413c0b49", func := "watershed/watershedlaw11.LetterPuts", spec := "letterPuts", unfollowed := true, recurses := true, plainKeys := false, apart := false }
def LetterPutsSaid : Prop := letterPutsRow.holds Tryz.pinned (OpenSpec.ofChange letterPutsSpec)

/-- ITS FALSE NEIGHBOUR: 'it returns false'. Refute it at one input. -/
def letterPutsWrong : ChangeSpec := { name := "letterPuts", fn := fun _ => fun
  | [d1, d2, d3] => { results := [.lit (.bool false)], args := [d1, d2, d3] }
  | _ => none }
def LetterPutsWrongFalsely : Prop := letterPutsRow.holds Tryz.pinned (OpenSpec.ofChange letterPutsWrong)

/-- 'watershedlaw11.LetterGets': WHATEVER THE INPUT: true; the input reads as it did. -/
def letterGetsSpec : ChangeSpec := { name := "letterGets", fn := fun _ => fun
  | [d] => { results := [.lit (.bool true)], args := [d] }
  | _ => none }
def letterGetsRow : OpenClaim := { program := "ytippdjaakcgeoaagreat", sum := "7781d0da1b1ef5c388e72460fe361236389c77f692c9a0438dde01ee413c0b49", func := "watershed/watershedlaw11.LetterGets", spec := "letterGets", unfollowed := true, recurses := true, plainKeys := false, apart := false }
def LetterGetsSaid : Prop := letterGetsRow.holds Tryz.pinned (OpenSpec.ofChange letterGetsSpec)

/-- ITS FALSE NEIGHBOUR: 'it returns false'. Refute it at one input. -/
def letterGetsWrong : ChangeSpec := { name := "letterGets", fn := fun _ => fun
  | [d] => { results := [.lit (.bool false)], args := [d] }
  | _ => none }
def LetterGetsWrongFalsely : Prop := letterGetsRow.holds Tryz.pinned (OpenSpec.ofChange letterGetsWrong)

/-- 'watershedlaw11.LetterEnds': WHATEVER THE INPUT: true; the input reads as it did. -/
def letterEndsSpec : ChangeSpec := { name := "letterEnds", fn := fun _ => fun
  | [] => { results := [.lit (.bool true)], args := [] }
  | _ => none }
def letterEndsRow : OpenClaim := { program := "ytippdjaakcgeoaagreat", sum := "7781d0da1b1ef5c388e72460fe361236389c77f692c9a0438dde01ee413c0b49", func := "watershed/watershedlaw11.LetterEnds", spec := "letterEnds", unfollowed := true, recurses := true, plainKeys := false, apart := false }
def LetterEndsSaid : Prop := letterEndsRow.holds Tryz.pinned (OpenSpec.ofChange letterEndsSpec)

/-- ITS FALSE NEIGHBOUR: 'it returns false'. Refute it at one input. -/
def letterEndsWrong : ChangeSpec := { name := "letterEnds", fn := fun _ => fun
  | [] => { results := [.lit (.bool false)], args := [] }
  | _ => none }
def LetterEndsWrongFalsely : Prop := letterEndsRow.holds Tryz.pinned (OpenSpec.ofChange letterEndsWrong)

/- THE SECOND FORM. 'bulk': how many values and letters a reading holds, each counted each time it is reached (what is shared counts as often as it is met; a slice's spare places count too). A statement '..UptoSaid' is the law's where the arguments, and the package variables that the reading takes, are together of bulk at most 1048576: NARROWER than '..Said'. Prove '..Said' where nothing that the law and all that it calls make is longer than what came in: it says more and counts as full. Else prove '..UptoSaid'. A law counts once. -/
mutual
def uptoBulk {H : Type} : DataW H → Nat
  | .lit (.string bytes) => bytes.length + 1
  | .lit _ => 1
  | .nil => 1
  | .ptr d => uptoBulk d + 1
  | .slice elems spare => uptoBulkAll elems + uptoBulkAll spare + 1
  | .agg parts => uptoBulkAll parts + 1
  | .iface _ d => uptoBulk d + 1
  | .map entries => uptoBulkEntries entries + 1
  | .held _ => 1
def uptoBulkAll {H : Type} : List (DataW H) → Nat
  | [] => 0
  | d :: r => uptoBulk d + uptoBulkAll r
def uptoBulkEntries {H : Type} : List (Lit × DataW H) → Nat
  | [] => 0
  | x :: r => uptoBulkEntry x + uptoBulkEntries r
def uptoBulkEntry {H : Type} : Lit × DataW H → Nat
  | (.string bytes, d) => bytes.length + uptoBulk d + 1
  | (_, d) => uptoBulk d + 1
 end
def uptoSmall : (H : Type) → List (DataW H) → Bool := fun _ ds => decide (uptoBulkAll ds ≤ 1048576)
def OpenSpec.upto (s : _root_.Go.ChangeSpec) : _root_.Go.OpenSpec := { _root_.Go.OpenSpec.ofChange s with cond := some uptoSmall }

/-- 'watershedlaw25.NetRuns', WHERE WHAT IT READS IS OF BULK AT MOST 1048576: true; the input reads as it did. -/
def netRunsUptoRow : OpenClaim := { program := "ytippdjaakcgeoaagreat", sum := "7781d0da1b1ef5c388e72460fe361236389c77f692c9a0438dde01ee413c0b49", func := "watershed/watershedlaw25.NetRuns", spec := "netRuns", unfollowed := true, recurses := true, plainKeys := false, apart := false, narrowed := true }
def NetRunsUptoSaid : Prop := netRunsUptoRow.holds Tryz.pinned (OpenSpec.upto netRunsSpec)

/-- 'watershedlaw25.NetEnds', WHERE WHAT IT READS IS OF BULK AT MOST 1048576: true; the input reads as it did. -/
def netEndsUptoRow : OpenClaim := { program := "ytippdjaakcgeoaagreat", sum := "7781d0da1b1ef5c388e72460fe361236389c77f692c9a0438dde01ee413c0b49", func := "watershed/watershedlaw25.NetEnds", spec := "netEnds", unfollowed := true, recurses := true, plainKeys := false, apart := false, narrowed := true }
def NetEndsUptoSaid : Prop := netEndsUptoRow.holds Tryz.pinned (OpenSpec.upto netEndsSpec)

/-- 'watershedlaw11.LetterPuts', WHERE WHAT IT READS IS OF BULK AT MOST 1048576: true; the input reads as it did. -/
def letterPutsUptoRow : OpenClaim := { program := "ytippdjaakcgeoaagreat", sum := "7781d0da1b1ef5c388e72460fe361236389c77f692c9a0438dde01ee413c0b49", func := "watershed/watershedlaw11.LetterPuts", spec := "letterPuts", unfollowed := true, recurses := true, plainKeys := false, apart := false, narrowed := true }
def LetterPutsUptoSaid : Prop := letterPutsUptoRow.holds Tryz.pinned (OpenSpec.upto letterPutsSpec)

/-- 'watershedlaw11.LetterGets', WHERE WHAT IT READS IS OF BULK AT MOST 1048576: true; the input reads as it did. -/
def letterGetsUptoRow : OpenClaim := { program := "ytippdjaakcgeoaagreat", sum := "7781d0da1b1ef5c388e72460fe361236389c77f692c9a0438dde01ee413c0b49", func := "watershed/watershedlaw11.LetterGets", spec := "letterGets", unfollowed := true, recurses := true, plainKeys := false, apart := false, narrowed := true }
def LetterGetsUptoSaid : Prop := letterGetsUptoRow.holds Tryz.pinned (OpenSpec.upto letterGetsSpec)

/-- 'watershedlaw11.LetterEnds', WHERE WHAT IT READS IS OF BULK AT MOST 1048576: true; the input reads as it did. -/
def letterEndsUptoRow : OpenClaim := { program := "ytippdjaakcgeoaagreat", sum := "7781d0da1b1ef5c388e72460fe361236389c77f692c9a0438dde01ee413c0b49", func := "watershed/watershedlaw11.LetterEnds", spec := "letterEnds", unfollowed := true, recurses := true, plainKeys := false, apart := false, narrowed := true }
def LetterEndsUptoSaid : Prop := letterEndsUptoRow.holds Tryz.pinned (OpenSpec.upto letterEndsSpec)

end Rows
end Go.Proofs.YtippdjaakcgeoaaGreat
