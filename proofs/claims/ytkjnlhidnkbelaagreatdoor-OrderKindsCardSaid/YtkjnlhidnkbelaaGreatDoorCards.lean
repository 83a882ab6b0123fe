/-
  DERIVED. GIVEN WITH THE SEED: THE CARDS: each row of YtkjnlhidnkbelaaGreatDoorRows.lean that lists a variable, with what it lists TIED to the program's text (the seventh form; the later family's looks); each row that meets fmt, with fmt's text TOLD by the authors' own Lean function (tested against real Go, not proved from fmt's source: count such statements apart). THE CARD IS WHAT COUNTS. Prove the row's statement (the work); the ties are given (YtkjnlhidnkbelaaGreatDoorTie.lean); close each card by the builder's one call (the guide's Derived/Test/ToyasCard.lean, 'card_holds'). Laid BY PROGRAM, IN A SANDBOX (cutbox-door.mjs). By AI agents, Wed Nov 11 2026. No macro, syntax, notation, axiom, sorry.
-/
import Derived.Test.YtkjnlhidnkbelaaGreatDoorRows
import GoSem.ClaimSeven
namespace Go.Proofs.YtkjnlhidnkbelaaGreatDoor
namespace Rows

/-- THE TIED CARD OF 'watershedlaw22.OrderKinds'. -/
def orderKindsCard : Claim7 := { stood := { row := orderKindsRow, standIns := [], harness := (true, "035ea5a1277d176742750efb32ae9ec28af84f8bac6b91c8c50e5bfee89d5f96"), looks := true }, kinds := [], alts := [], laidByText := true, laidKinds := [.data, .pinned], laidTests := true, laidLooks := .later }
def OrderKindsCardSaid : Prop := Claim7.holds Tryz.pinned (.plain (OpenSpec.ofChange orderKindsSpec)) orderKindsCard

/-- THE TIED CARD OF 'watershedlaw22.OrderBack'. -/
def orderBackCard : Claim7 := { stood := { row := orderBackRow, standIns := [], harness := (true, "035ea5a1277d176742750efb32ae9ec28af84f8bac6b91c8c50e5bfee89d5f96"), looks := true }, kinds := [], alts := [], laidByText := true, laidKinds := [.data, .pinned], laidTests := true, laidLooks := .later }
def OrderBackCardSaid : Prop := Claim7.holds Tryz.pinned (.plain (OpenSpec.ofChange orderBackSpec)) orderBackCard

/-- THE TIED CARD OF 'watershedlaw22.OrderPuts'. -/
def orderPutsCard : Claim7 := { stood := { row := orderPutsRow, standIns := [], harness := (true, "035ea5a1277d176742750efb32ae9ec28af84f8bac6b91c8c50e5bfee89d5f96"), looks := true }, kinds := [], alts := [], laidByText := true, laidKinds := [.data, .pinned], laidTests := true, laidLooks := .later }
def OrderPutsCardSaid : Prop := Claim7.holds Tryz.pinned (.plain (OpenSpec.ofChange orderPutsSpec)) orderPutsCard

/-- THE TIED CARD OF 'watershedlaw22.OrderTells'. -/
def orderTellsCard : Claim7 := { stood := { row := orderTellsRow, standIns := [], harness := (true, "035ea5a1277d176742750efb32ae9ec28af84f8bac6b91c8c50e5bfee89d5f96"), looks := true }, kinds := [], alts := [], laidByText := true, laidKinds := [.data, .pinned], laidTests := true, laidLooks := .later }
def OrderTellsCardSaid : Prop := Claim7.holds Tryz.pinned (.plain (OpenSpec.ofChange orderTellsSpec)) orderTellsCard

/-- THE TIED CARD OF 'watershedlaw22.OrderGets'. -/
def orderGetsCard : Claim7 := { stood := { row := orderGetsRow, standIns := [], harness := (true, "035ea5a1277d176742750efb32ae9ec28af84f8bac6b91c8c50e5bfee89d5f96"), looks := true }, kinds := [], alts := [], laidByText := true, laidKinds := [.data, .pinned], laidTests := true, laidLooks := .later }
def OrderGetsCardSaid : Prop := Claim7.holds Tryz.pinned (.plain (OpenSpec.ofChange orderGetsSpec)) orderGetsCard

/-- THE SECOND FORM's CARD OF 'watershedlaw22.OrderKinds'. -/
def orderKindsUptoCard : Claim7 := { stood := { row := orderKindsUptoRow, standIns := [], harness := (true, "035ea5a1277d176742750efb32ae9ec28af84f8bac6b91c8c50e5bfee89d5f96"), looks := true }, kinds := [], alts := [], laidByText := true, laidKinds := [.data, .pinned], laidTests := true, laidLooks := .later }
def OrderKindsUptoCardSaid : Prop := Claim7.holds Tryz.pinned (.plain (OpenSpec.upto orderKindsSpec)) orderKindsUptoCard

/-- THE SECOND FORM's CARD OF 'watershedlaw22.OrderBack'. -/
def orderBackUptoCard : Claim7 := { stood := { row := orderBackUptoRow, standIns := [], harness := (true, "035ea5a1277d176742750efb32ae9ec28af84f8bac6b91c8c50e5bfee89d5f96"), looks := true }, kinds := [], alts := [], laidByText := true, laidKinds := [.data, .pinned], laidTests := true, laidLooks := .later }
def OrderBackUptoCardSaid : Prop := Claim7.holds Tryz.pinned (.plain (OpenSpec.upto orderBackSpec)) orderBackUptoCard

/-- THE SECOND FORM's CARD OF 'watershedlaw22.OrderPuts'. -/
def orderPutsUptoCard : Claim7 := { stood := { row := orderPutsUptoRow, standIns := [], harness := (true, "035ea5a1277d176742750efb32ae9ec28af84f8bac6b91c8c50e5bfee89d5f96"), looks := true }, kinds := [], alts := [], laidByText := true, laidKinds := [.data, .pinned], laidTests := true, laidLooks := .later }
def OrderPutsUptoCardSaid : Prop := Claim7.holds Tryz.pinned (.plain (OpenSpec.upto orderPutsSpec)) orderPutsUptoCard

/-- THE SECOND FORM's CARD OF 'watershedlaw22.OrderTells'. -/
def orderTellsUptoCard : Claim7 := { stood := { row := orderTellsUptoRow, standIns := [], harness := (true, "035ea5a1277d176742750efb32ae9ec28af84f8bac6b91c8c50e5bfee89d5f96"), looks := true }, kinds := [], alts := [], laidByText := true, laidKinds := [.data, .pinned], laidTests := true, laidLooks := .later }
def OrderTellsUptoCardSaid : Prop := Claim7.holds Tryz.pinned (.plain (OpenSpec.upto orderTellsSpec)) orderTellsUptoCard

/-- THE SECOND FORM's CARD OF 'watershedlaw22.OrderGets'. -/
def orderGetsUptoCard : Claim7 := { stood := { row := orderGetsUptoRow, standIns := [], harness := (true, "035ea5a1277d176742750efb32ae9ec28af84f8bac6b91c8c50e5bfee89d5f96"), looks := true }, kinds := [], alts := [], laidByText := true, laidKinds := [.data, .pinned], laidTests := true, laidLooks := .later }
def OrderGetsUptoCardSaid : Prop := Claim7.holds Tryz.pinned (.plain (OpenSpec.upto orderGetsSpec)) orderGetsUptoCard
end Rows
end Go.Proofs.YtkjnlhidnkbelaaGreatDoor
