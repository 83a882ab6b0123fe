/-
  No cell of these rows narrows 'for every input' (looked for: loops, veiled, ifaces, maps, wideKeys, modest, calm, conditions, laid).
  DERIVED. THE GIVEN ROWS OF THIS SEAT. 3 by the template 'for every input the law returns true; each argument reads behind the call as it read before'; 0 by the template 'total and deterministic' (their statements: YtgmcjfjdjnoljaaTotals.lean).
  GIVEN WITH THE SEED: the statements are not yours to turn. If you find one false, say at which input.
  Laid BY PROGRAM, IN A SANDBOX (cutbox-rows.mjs): the forced cells as the released guide's own fill.sh prints them over the translation a3ec7b521d8d1b61… (all of the seat's roots in one cut). By AI agents, Wed Nov 11 2026. No macro, syntax, notation, axiom, sorry.
-/
import Derived.Test.YtgmcjfjdjnoljaaChecked
import GoSem.Claim
import GoSem.ClaimJoined
import GoSem.ClaimMapViews
import Derived.JoinedTies
import Derived.KernelRfl
namespace Go.Proofs.Ytgmcjfjdjnoljaa
/- THE CELL 'sum', in the pinned program and in every row, IS THE sha256 OF THE DUMP (.gsa) THAT YtgmcjfjdjnoljaaProg.lean LOADS. Nothing in Lean hashes anything: it is a label: what it is worth is what the hold of that sum in a sandbox is worth. -/
noncomputable def Try.pinned : Pinned := { name := "ytgmcjfjdjnoljaa", sum := "a3ec7b521d8d1b6145e9b8f9545b5b68ec4999995116d0dc8f90a754fc1dedf4", checked := Try.checked }
namespace Rows
def none {H : Type} : Left H := { results := [], args := [] }

/-- 'watershedlaw19.RulingDecides': WHATEVER THE INPUT: true; the input reads as it did. -/
def rulingDecidesSpec : ChangeSpec := { name := "rulingDecides", fn := fun _ => fun
  | [d1, d2, d3] => { results := [.lit (.bool true)], args := [d1, d2, d3] }
  | _ => none }
def rulingDecidesRow : OpenClaim := { program := "ytgmcjfjdjnoljaa", sum := "a3ec7b521d8d1b6145e9b8f9545b5b68ec4999995116d0dc8f90a754fc1dedf4", func := "watershed/watershedlaw19.RulingDecides", spec := "rulingDecides", unfollowed := true, recurses := true, plainKeys := false, apart := false }
def RulingDecidesSaid : Prop := rulingDecidesRow.holds Try.pinned (OpenSpec.ofChange rulingDecidesSpec)

/-- ITS FALSE NEIGHBOUR: 'it returns false'. Refute it at one input. -/
def rulingDecidesWrong : ChangeSpec := { name := "rulingDecides", fn := fun _ => fun
  | [d1, d2, d3] => { results := [.lit (.bool false)], args := [d1, d2, d3] }
  | _ => none }
def RulingDecidesWrongFalsely : Prop := rulingDecidesRow.holds Try.pinned (OpenSpec.ofChange rulingDecidesWrong)

/-- 'watershedlaw19.RulingReads': WHATEVER THE INPUT: true; the input reads as it did. -/
def rulingReadsSpec : ChangeSpec := { name := "rulingReads", fn := fun _ => fun
  | [d] => { results := [.lit (.bool true)], args := [d] }
  | _ => none }
def rulingReadsRow : OpenClaim := { program := "ytgmcjfjdjnoljaa", sum := "a3ec7b521d8d1b6145e9b8f9545b5b68ec4999995116d0dc8f90a754fc1dedf4", func := "watershed/watershedlaw19.RulingReads", spec := "rulingReads", unfollowed := true, recurses := true, plainKeys := false, apart := false }
def RulingReadsSaid : Prop := rulingReadsRow.holds Try.pinned (OpenSpec.ofChange rulingReadsSpec)

/-- ITS FALSE NEIGHBOUR: 'it returns false'. Refute it at one input. -/
def rulingReadsWrong : ChangeSpec := { name := "rulingReads", fn := fun _ => fun
  | [d] => { results := [.lit (.bool false)], args := [d] }
  | _ => none }
def RulingReadsWrongFalsely : Prop := rulingReadsRow.holds Try.pinned (OpenSpec.ofChange rulingReadsWrong)

/-- 'watershedlaw19.RulingFirst': WHATEVER THE INPUT: true; the input reads as it did. -/
def rulingFirstSpec : ChangeSpec := { name := "rulingFirst", fn := fun _ => fun
  | [d1, d2] => { results := [.lit (.bool true)], args := [d1, d2] }
  | _ => none }
def rulingFirstRow : OpenClaim := { program := "ytgmcjfjdjnoljaa", sum := "a3ec7b521d8d1b6145e9b8f9545b5b68ec4999995116d0dc8f90a754fc1dedf4", func := "watershed/watershedlaw19.RulingFirst", spec := "rulingFirst", unfollowed := true, recurses := true, plainKeys := false, apart := false }
def RulingFirstSaid : Prop := rulingFirstRow.holds Try.pinned (OpenSpec.ofChange rulingFirstSpec)

/-- ITS FALSE NEIGHBOUR: 'it returns false'. Refute it at one input. -/
def rulingFirstWrong : ChangeSpec := { name := "rulingFirst", fn := fun _ => fun
  | [d1, d2] => { results := [.lit (.bool false)], args := [d1, d2] }
  | _ => none }
def RulingFirstWrongFalsely : Prop := rulingFirstRow.holds Try.pinned (OpenSpec.ofChange rulingFirstWrong)

/- THE SECOND FORM. 'bulk': how many values and letters a reading holds, each counted each time it is reached (what is shared counts as often as it is met; a slice's spare places count too). A statement '..UptoSaid' is the law's where the arguments, and the package variables that the reading takes, are together of bulk at most 1048576: NARROWER than '..Said'. Prove '..Said' where nothing that the law and all that it calls make is longer than what came in: it says more and counts as full. Else prove '..UptoSaid'. A law counts once. -/
mutual
def uptoBulk {H : Type} : DataW H → Nat
  | .lit (.string bytes) => bytes.length + 1
  | .lit _ => 1
  | .nil => 1
  | .ptr d => uptoBulk d + 1
  | .slice elems spare => uptoBulkAll elems + uptoBulkAll spare + 1
  | .agg parts => uptoBulkAll parts + 1
  | .iface _ d => uptoBulk d + 1
  | .map entries => uptoBulkEntries entries + 1
  | .held _ => 1
def uptoBulkAll {H : Type} : List (DataW H) → Nat
  | [] => 0
  | d :: r => uptoBulk d + uptoBulkAll r
def uptoBulkEntries {H : Type} : List (Lit × DataW H) → Nat
  | [] => 0
  | x :: r => uptoBulkEntry x + uptoBulkEntries r
def uptoBulkEntry {H : Type} : Lit × DataW H → Nat
  | (.string bytes, d) => bytes.length + uptoBulk d + 1
  | (_, d) => uptoBulk d + 1
 end
def uptoSmall : (H : Type) → List (DataW H) → Bool := fun _ ds => decide (uptoBulkAll ds ≤ 1048576)
def OpenSpec.upto (s : _root_.Go.ChangeSpec) : _root_.Go.OpenSpec := { _root_.Go.OpenSpec.ofChange s with cond := some uptoSmall }

/-- 'watershedlaw19.RulingDecides', WHERE WHAT IT READS IS OF BULK AT MOST 1048576: true; the input reads as it did. -/
def rulingDecidesUptoRow : OpenClaim := { program := "ytgmcjfjdjnoljaa", sum := "a3ec7b521d8d1b6145e9b8f9545b5b68ec4999995116d0dc8f90a754fc1dedf4", func := "watershed/watershedlaw19.RulingDecides", spec := "rulingDecides", unfollowed := true, recurses := true, plainKeys := false, apart := false, narrowed := true }
def RulingDecidesUptoSaid : Prop := rulingDecidesUptoRow.holds Try.pinned (OpenSpec.upto rulingDecidesSpec)

/-- 'watershedlaw19.RulingReads', WHERE WHAT IT READS IS OF BULK AT MOST 1048576: true; the input reads as it did. -/
def rulingReadsUptoRow : OpenClaim := { program := "ytgmcjfjdjnoljaa", sum := "a3ec7b521d8d1b6145e9b8f9545b5b68ec4999995116d0dc8f90a754fc1dedf4", func := "watershed/watershedlaw19.RulingReads", spec := "rulingReads", unfollowed := true, recurses := true, plainKeys := false, apart := false, narrowed := true }
def RulingReadsUptoSaid : Prop := rulingReadsUptoRow.holds Try.pinned (OpenSpec.upto rulingReadsSpec)

/-- 'watershedlaw19.RulingFirst', WHERE WHAT IT READS IS OF BULK AT MOST 1048576: true; the input reads as it did. -/
def rulingFirstUptoRow : OpenClaim := { program := "ytgmcjfjdjnoljaa", sum := "a3ec7b521d8d1b6145e9b8f9545b5b68ec4999995116d0dc8f90a754fc1dedf4", func := "watershed/watershedlaw19.RulingFirst", spec := "rulingFirst", unfollowed := true, recurses := true, plainKeys := false, apart := false, narrowed := true }
def RulingFirstUptoSaid : Prop := rulingFirstUptoRow.holds Try.pinned (OpenSpec.upto rulingFirstSpec)

end Rows
end Go.Proofs.Ytgmcjfjdjnoljaa
