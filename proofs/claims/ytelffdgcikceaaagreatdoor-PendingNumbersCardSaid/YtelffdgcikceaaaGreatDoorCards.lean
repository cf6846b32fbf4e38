/-
  DERIVED. GIVEN WITH THE SEED: THE CARDS: each row of YtelffdgcikceaaaGreatDoorRows.lean that lists a variable, with what it lists TIED to the program's text (the seventh form; the later family's looks); each row that meets fmt, with fmt's text TOLD by the authors' own Lean function (tested against real Go, not proved from fmt's source: count such statements apart). THE CARD IS WHAT COUNTS. Prove the row's statement (the work); the ties are given (YtelffdgcikceaaaGreatDoorTie.lean); close each card by the builder's one call (the guide's Derived/Test/ToyasCard.lean, 'card_holds'). Laid BY PROGRAM, IN A SANDBOX (cutbox-door.mjs). By AI agents, Wed Nov 11 2026. No macro, syntax, notation, axiom, sorry.
-/
import Derived.Test.YtelffdgcikceaaaGreatDoorRows
import GoSem.ClaimSeven
namespace Go.Proofs.YtelffdgcikceaaaGreatDoor
namespace Rows

/-- THE TIED CARD OF 'parchmentlaw28.PendingMerges'. -/
def pendingMergesCard : Claim7 := { stood := { row := pendingMergesRow, standIns := [], harness := (true, "ee184132c1015bfbbf946d45624b9aef1c959002604530e9b3b0d51ffbb17bba"), looks := false }, kinds := [], alts := [], laidByText := true, laidKinds := [.data, .data, .data, .widerDeep, .widerDeep, .data, .data, .pinned, .pinned], laidTests := true, laidLooks := .later }
def PendingMergesCardSaid : Prop := Claim7.holds Tryz.pinned (.plain (OpenSpec.ofChange pendingMergesSpec)) pendingMergesCard

/-- THE TIED CARD OF 'parchmentlaw28.PendingRight'. -/
def pendingRightCard : Claim7 := { stood := { row := pendingRightRow, standIns := [], harness := (true, "ee184132c1015bfbbf946d45624b9aef1c959002604530e9b3b0d51ffbb17bba"), looks := false }, kinds := [], alts := [], laidByText := true, laidKinds := [.data, .data, .data, .widerDeep, .widerDeep, .data, .data, .pinned, .pinned], laidTests := true, laidLooks := .later }
def PendingRightCardSaid : Prop := Claim7.holds Tryz.pinned (.plain (OpenSpec.ofChange pendingRightSpec)) pendingRightCard

/-- THE TIED CARD OF 'parchmentlaw28.PendingOrder'. -/
def pendingOrderCard : Claim7 := { stood := { row := pendingOrderRow, standIns := [], harness := (true, "ee184132c1015bfbbf946d45624b9aef1c959002604530e9b3b0d51ffbb17bba"), looks := false }, kinds := [], alts := [], laidByText := true, laidKinds := [.data, .data, .data, .widerDeep, .widerDeep, .data, .data, .pinned, .pinned], laidTests := true, laidLooks := .later }
def PendingOrderCardSaid : Prop := Claim7.holds Tryz.pinned (.plain (OpenSpec.ofChange pendingOrderSpec)) pendingOrderCard

/-- THE TIED CARD OF 'parchmentlaw28.PendingNumbers'. -/
def pendingNumbersCard : Claim7 := { stood := { row := pendingNumbersRow, standIns := [], harness := (true, "ee184132c1015bfbbf946d45624b9aef1c959002604530e9b3b0d51ffbb17bba"), looks := false }, kinds := [], alts := [], laidByText := true, laidKinds := [.data, .data, .data, .widerDeep, .widerDeep, .data, .data, .pinned, .pinned], laidTests := true, laidLooks := .later }
def PendingNumbersCardSaid : Prop := Claim7.holds Tryz.pinned (.plain (OpenSpec.ofChange pendingNumbersSpec)) pendingNumbersCard

/-- THE SECOND FORM's CARD OF 'parchmentlaw28.PendingMerges'. -/
def pendingMergesUptoCard : Claim7 := { stood := { row := pendingMergesUptoRow, standIns := [], harness := (true, "ee184132c1015bfbbf946d45624b9aef1c959002604530e9b3b0d51ffbb17bba"), looks := false }, kinds := [], alts := [], laidByText := true, laidKinds := [.data, .data, .data, .widerDeep, .widerDeep, .data, .data, .pinned, .pinned], laidTests := true, laidLooks := .later }
def PendingMergesUptoCardSaid : Prop := Claim7.holds Tryz.pinned (.plain (OpenSpec.upto pendingMergesSpec)) pendingMergesUptoCard

/-- THE SECOND FORM's CARD OF 'parchmentlaw28.PendingRight'. -/
def pendingRightUptoCard : Claim7 := { stood := { row := pendingRightUptoRow, standIns := [], harness := (true, "ee184132c1015bfbbf946d45624b9aef1c959002604530e9b3b0d51ffbb17bba"), looks := false }, kinds := [], alts := [], laidByText := true, laidKinds := [.data, .data, .data, .widerDeep, .widerDeep, .data, .data, .pinned, .pinned], laidTests := true, laidLooks := .later }
def PendingRightUptoCardSaid : Prop := Claim7.holds Tryz.pinned (.plain (OpenSpec.upto pendingRightSpec)) pendingRightUptoCard

/-- THE SECOND FORM's CARD OF 'parchmentlaw28.PendingOrder'. -/
def pendingOrderUptoCard : Claim7 := { stood := { row := pendingOrderUptoRow, standIns := [], harness := (true, "ee184132c1015bfbbf946d45624b9aef1c959002604530e9b3b0d51ffbb17bba"), looks := false }, kinds := [], alts := [], laidByText := true, laidKinds := [.data, .data, .data, .widerDeep, .widerDeep, .data, .data, .pinned, .pinned], laidTests := true, laidLooks := .later }
def PendingOrderUptoCardSaid : Prop := Claim7.holds Tryz.pinned (.plain (OpenSpec.upto pendingOrderSpec)) pendingOrderUptoCard

/-- THE SECOND FORM's CARD OF 'parchmentlaw28.PendingNumbers'. -/
def pendingNumbersUptoCard : Claim7 := { stood := { row := pendingNumbersUptoRow, standIns := [], harness := (true, "ee184132c1015bfbbf946d45624b9aef1c959002604530e9b3b0d51ffbb17bba"), looks := false }, kinds := [], alts := [], laidByText := true, laidKinds := [.data, .data, .data, .widerDeep, .widerDeep, .data, .data, .pinned, .pinned], laidTests := true, laidLooks := .later }
def PendingNumbersUptoCardSaid : Prop := Claim7.holds Tryz.pinned (.plain (OpenSpec.upto pendingNumbersSpec)) pendingNumbersUptoCard
end Rows
end Go.Proofs.YtelffdgcikceaaaGreatDoor
