/-
  DERIVED. GIVEN WITH THE SEED: THE CARDS: each row of YtjcaejdokillgaaDoorRows.lean that lists a variable, with what it lists TIED to the program's text (the seventh form; the later family's looks); each row that meets fmt, with fmt's text TOLD by the authors' own Lean function (tested against real Go, not proved from fmt's source: count such statements apart). THE CARD IS WHAT COUNTS. Prove the row's statement (the work); the ties are given (YtjcaejdokillgaaDoorTie.lean); close each card by the builder's one call (the guide's Derived/Test/ToyasCard.lean, 'card_holds'). Laid BY PROGRAM, IN A SANDBOX (cutbox-door.mjs). By AI agents, Wed Nov 11 2026. No macro, syntax, notation, axiom, sorry.
-/
import Derived.Test.YtjcaejdokillgaaDoorRows
import GoSem.ClaimSeven
namespace Go.Proofs.YtjcaejdokillgaaDoor
namespace Rows

/-- THE TIED CARD OF 'interlocklaw04.AagBack'. -/
def aagBackCard : Claim7 := { stood := { row := aagBackRow, standIns := [], harness := (true, "64430af31e4198dd605a8df4ad591603243d97df9f7591d0eb34026d82d7b751"), looks := true }, kinds := [], alts := [], laidByText := true, laidKinds := [.data, .pinned], laidTests := true, laidLooks := .later }
def AagBackCardSaid : Prop := Claim7.holds Tryd.pinned (.plain (OpenSpec.ofChange aagBackSpec)) aagBackCard

/-- THE TIED CARD OF 'interlocklaw04.AagCuts'. -/
def aagCutsCard : Claim7 := { stood := { row := aagCutsRow, standIns := [], harness := (true, "64430af31e4198dd605a8df4ad591603243d97df9f7591d0eb34026d82d7b751"), looks := true }, kinds := [], alts := [], laidByText := true, laidKinds := [.data, .pinned], laidTests := true, laidLooks := .later }
def AagCutsCardSaid : Prop := Claim7.holds Tryd.pinned (.plain (OpenSpec.ofChange aagCutsSpec)) aagCutsCard

/-- THE TIED CARD OF 'interlocklaw04.AagComments'. -/
def aagCommentsCard : Claim7 := { stood := { row := aagCommentsRow, standIns := [], harness := (true, "64430af31e4198dd605a8df4ad591603243d97df9f7591d0eb34026d82d7b751"), looks := true }, kinds := [], alts := [], laidByText := true, laidKinds := [.data, .pinned], laidTests := true, laidLooks := .later }
def AagCommentsCardSaid : Prop := Claim7.holds Tryd.pinned (.plain (OpenSpec.ofChange aagCommentsSpec)) aagCommentsCard

/-- THE TIED CARD OF 'interlocklaw32.CommandBlanks'. -/
def commandBlanksCard : Claim7 := { stood := { row := commandBlanksRow, standIns := [], harness := (true, "64430af31e4198dd605a8df4ad591603243d97df9f7591d0eb34026d82d7b751"), looks := true }, kinds := [], alts := [], laidByText := true, laidKinds := [.data, .pinned], laidTests := true, laidLooks := .later }
def CommandBlanksCardSaid : Prop := Claim7.holds Tryd.pinned (.plain (OpenSpec.ofChange commandBlanksSpec)) commandBlanksCard

/-- THE TIED CARD OF 'interlocklaw05.AigBack'. -/
def aigBackCard : Claim7 := { stood := { row := aigBackRow, standIns := [], harness := (true, "64430af31e4198dd605a8df4ad591603243d97df9f7591d0eb34026d82d7b751"), looks := true }, kinds := [], alts := [], laidByText := true, laidKinds := [.data, .pinned], laidTests := true, laidLooks := .later }
def AigBackCardSaid : Prop := Claim7.holds Tryd.pinned (.plain (OpenSpec.ofChange aigBackSpec)) aigBackCard

/-- THE TIED CARD OF 'interlocklaw05.AigCuts'. -/
def aigCutsCard : Claim7 := { stood := { row := aigCutsRow, standIns := [], harness := (true, "64430af31e4198dd605a8df4ad591603243d97df9f7591d0eb34026d82d7b751"), looks := true }, kinds := [], alts := [], laidByText := true, laidKinds := [.data, .pinned], laidTests := true, laidLooks := .later }
def AigCutsCardSaid : Prop := Claim7.holds Tryd.pinned (.plain (OpenSpec.ofChange aigCutsSpec)) aigCutsCard

/-- THE SECOND FORM's CARD OF 'interlocklaw04.AagBack'. -/
def aagBackUptoCard : Claim7 := { stood := { row := aagBackUptoRow, standIns := [], harness := (true, "64430af31e4198dd605a8df4ad591603243d97df9f7591d0eb34026d82d7b751"), looks := true }, kinds := [], alts := [], laidByText := true, laidKinds := [.data, .pinned], laidTests := true, laidLooks := .later }
def AagBackUptoCardSaid : Prop := Claim7.holds Tryd.pinned (.plain (OpenSpec.upto aagBackSpec)) aagBackUptoCard

/-- THE SECOND FORM's CARD OF 'interlocklaw04.AagCuts'. -/
def aagCutsUptoCard : Claim7 := { stood := { row := aagCutsUptoRow, standIns := [], harness := (true, "64430af31e4198dd605a8df4ad591603243d97df9f7591d0eb34026d82d7b751"), looks := true }, kinds := [], alts := [], laidByText := true, laidKinds := [.data, .pinned], laidTests := true, laidLooks := .later }
def AagCutsUptoCardSaid : Prop := Claim7.holds Tryd.pinned (.plain (OpenSpec.upto aagCutsSpec)) aagCutsUptoCard

/-- THE SECOND FORM's CARD OF 'interlocklaw04.AagComments'. -/
def aagCommentsUptoCard : Claim7 := { stood := { row := aagCommentsUptoRow, standIns := [], harness := (true, "64430af31e4198dd605a8df4ad591603243d97df9f7591d0eb34026d82d7b751"), looks := true }, kinds := [], alts := [], laidByText := true, laidKinds := [.data, .pinned], laidTests := true, laidLooks := .later }
def AagCommentsUptoCardSaid : Prop := Claim7.holds Tryd.pinned (.plain (OpenSpec.upto aagCommentsSpec)) aagCommentsUptoCard

/-- THE SECOND FORM's CARD OF 'interlocklaw32.CommandBlanks'. -/
def commandBlanksUptoCard : Claim7 := { stood := { row := commandBlanksUptoRow, standIns := [], harness := (true, "64430af31e4198dd605a8df4ad591603243d97df9f7591d0eb34026d82d7b751"), looks := true }, kinds := [], alts := [], laidByText := true, laidKinds := [.data, .pinned], laidTests := true, laidLooks := .later }
def CommandBlanksUptoCardSaid : Prop := Claim7.holds Tryd.pinned (.plain (OpenSpec.upto commandBlanksSpec)) commandBlanksUptoCard

/-- THE SECOND FORM's CARD OF 'interlocklaw05.AigBack'. -/
def aigBackUptoCard : Claim7 := { stood := { row := aigBackUptoRow, standIns := [], harness := (true, "64430af31e4198dd605a8df4ad591603243d97df9f7591d0eb34026d82d7b751"), looks := true }, kinds := [], alts := [], laidByText := true, laidKinds := [.data, .pinned], laidTests := true, laidLooks := .later }
def AigBackUptoCardSaid : Prop := Claim7.holds Tryd.pinned (.plain (OpenSpec.upto aigBackSpec)) aigBackUptoCard

/-- THE SECOND FORM's CARD OF 'interlocklaw05.AigCuts'. -/
def aigCutsUptoCard : Claim7 := { stood := { row := aigCutsUptoRow, standIns := [], harness := (true, "64430af31e4198dd605a8df4ad591603243d97df9f7591d0eb34026d82d7b751"), looks := true }, kinds := [], alts := [], laidByText := true, laidKinds := [.data, .pinned], laidTests := true, laidLooks := .later }
def AigCutsUptoCardSaid : Prop := Claim7.holds Tryd.pinned (.plain (OpenSpec.upto aigCutsSpec)) aigCutsUptoCard
end Rows
end Go.Proofs.YtjcaejdokillgaaDoor
