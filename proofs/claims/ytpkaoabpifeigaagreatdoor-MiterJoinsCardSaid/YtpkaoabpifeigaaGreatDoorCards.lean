/-
  DERIVED. GIVEN WITH THE SEED: THE CARDS: each row of YtpkaoabpifeigaaGreatDoorRows.lean that lists a variable, with what it lists TIED to the program's text (the seventh form; the later family's looks); each row that meets fmt, with fmt's text TOLD by the authors' own Lean function (tested against real Go, not proved from fmt's source: count such statements apart). THE CARD IS WHAT COUNTS. Prove the row's statement (the work); the ties are given (YtpkaoabpifeigaaGreatDoorTie.lean); close each card by the builder's one call (the guide's Derived/Test/ToyasCard.lean, 'card_holds'). Laid BY PROGRAM, IN A SANDBOX (cutbox-door.mjs). By AI agents, Wed Nov 11 2026. No macro, syntax, notation, axiom, sorry.
-/
import Derived.Test.YtpkaoabpifeigaaGreatDoorRows
import GoSem.ClaimSeven
namespace Go.Proofs.YtpkaoabpifeigaaGreatDoor
namespace Rows

/-- THE TIED CARD OF 'interlocklaw36.MiterShifts'. -/
def miterShiftsCard : Claim7 := { stood := { row := miterShiftsRow, standIns := [], harness := (true, "aee08d5940fb00c5dbb08598177976062092f20730922db8957e1cb80a856c82"), looks := true }, kinds := [], alts := [], laidByText := true, laidKinds := [.data, .pinned], laidTests := true, laidLooks := .later }
def MiterShiftsCardSaid : Prop := Claim7.holds Tryz.pinned (.plain (OpenSpec.ofChange miterShiftsSpec)) miterShiftsCard

/-- THE TIED CARD OF 'interlocklaw36.MiterSelf'. -/
def miterSelfCard : Claim7 := { stood := { row := miterSelfRow, standIns := [], harness := (true, "aee08d5940fb00c5dbb08598177976062092f20730922db8957e1cb80a856c82"), looks := true }, kinds := [], alts := [], laidByText := true, laidKinds := [.data, .pinned], laidTests := true, laidLooks := .later }
def MiterSelfCardSaid : Prop := Claim7.holds Tryz.pinned (.plain (OpenSpec.ofChange miterSelfSpec)) miterSelfCard

/-- THE TIED CARD OF 'interlocklaw36.MiterJoins'. -/
def miterJoinsCard : Claim7 := { stood := { row := miterJoinsRow, standIns := [], harness := (true, "aee08d5940fb00c5dbb08598177976062092f20730922db8957e1cb80a856c82"), looks := true }, kinds := [], alts := [], laidByText := true, laidKinds := [.data, .pinned], laidTests := true, laidLooks := .later }
def MiterJoinsCardSaid : Prop := Claim7.holds Tryz.pinned (.plain (OpenSpec.ofChange miterJoinsSpec)) miterJoinsCard

/-- THE TIED CARD OF 'interlocklaw36.MiterDiffers'. -/
def miterDiffersCard : Claim7 := { stood := { row := miterDiffersRow, standIns := [], harness := (true, "aee08d5940fb00c5dbb08598177976062092f20730922db8957e1cb80a856c82"), looks := true }, kinds := [], alts := [], laidByText := true, laidKinds := [.data, .pinned], laidTests := true, laidLooks := .later }
def MiterDiffersCardSaid : Prop := Claim7.holds Tryz.pinned (.plain (OpenSpec.ofChange miterDiffersSpec)) miterDiffersCard

/-- THE SECOND FORM's CARD OF 'interlocklaw36.MiterShifts'. -/
def miterShiftsUptoCard : Claim7 := { stood := { row := miterShiftsUptoRow, standIns := [], harness := (true, "aee08d5940fb00c5dbb08598177976062092f20730922db8957e1cb80a856c82"), looks := true }, kinds := [], alts := [], laidByText := true, laidKinds := [.data, .pinned], laidTests := true, laidLooks := .later }
def MiterShiftsUptoCardSaid : Prop := Claim7.holds Tryz.pinned (.plain (OpenSpec.upto miterShiftsSpec)) miterShiftsUptoCard

/-- THE SECOND FORM's CARD OF 'interlocklaw36.MiterSelf'. -/
def miterSelfUptoCard : Claim7 := { stood := { row := miterSelfUptoRow, standIns := [], harness := (true, "aee08d5940fb00c5dbb08598177976062092f20730922db8957e1cb80a856c82"), looks := true }, kinds := [], alts := [], laidByText := true, laidKinds := [.data, .pinned], laidTests := true, laidLooks := .later }
def MiterSelfUptoCardSaid : Prop := Claim7.holds Tryz.pinned (.plain (OpenSpec.upto miterSelfSpec)) miterSelfUptoCard

/-- THE SECOND FORM's CARD OF 'interlocklaw36.MiterJoins'. -/
def miterJoinsUptoCard : Claim7 := { stood := { row := miterJoinsUptoRow, standIns := [], harness := (true, "aee08d5940fb00c5dbb08598177976062092f20730922db8957e1cb80a856c82"), looks := true }, kinds := [], alts := [], laidByText := true, laidKinds := [.data, .pinned], laidTests := true, laidLooks := .later }
def MiterJoinsUptoCardSaid : Prop := Claim7.holds Tryz.pinned (.plain (OpenSpec.upto miterJoinsSpec)) miterJoinsUptoCard

/-- THE SECOND FORM's CARD OF 'interlocklaw36.MiterDiffers'. -/
def miterDiffersUptoCard : Claim7 := { stood := { row := miterDiffersUptoRow, standIns := [], harness := (true, "aee08d5940fb00c5dbb08598177976062092f20730922db8957e1cb80a856c82"), looks := true }, kinds := [], alts := [], laidByText := true, laidKinds := [.data, .pinned], laidTests := true, laidLooks := .later }
def MiterDiffersUptoCardSaid : Prop := Claim7.holds Tryz.pinned (.plain (OpenSpec.upto miterDiffersSpec)) miterDiffersUptoCard
end Rows
end Go.Proofs.YtpkaoabpifeigaaGreatDoor
