/-
  DERIVED. GIVEN WITH THE SEED: THE CARDS: each row of YteiijbhkplnnmaaDoorRows.lean that lists a variable, with what it lists TIED to the program's text (the seventh form; the later family's looks); each row that meets fmt, with fmt's text TOLD by the authors' own Lean function (tested against real Go, not proved from fmt's source: count such statements apart). THE CARD IS WHAT COUNTS. Prove the row's statement (the work); the ties are given (YteiijbhkplnnmaaDoorTie.lean); close each card by the builder's one call (the guide's Derived/Test/ToyasCard.lean, 'card_holds'). Laid BY PROGRAM, IN A SANDBOX (cutbox-door.mjs). By AI agents, Wed Nov 11 2026. No macro, syntax, notation, axiom, sorry.
-/
import Derived.Test.YteiijbhkplnnmaaDoorRows
import GoSem.ClaimSeven
namespace Go.Proofs.YteiijbhkplnnmaaDoor
namespace Rows

/-- THE TIED CARD OF 'interlocklaw01.DigitsLines'. -/
def digitsLinesCard : Claim7 := { stood := { row := digitsLinesRow, standIns := [], harness := (true, "bbda76db47ba77ce61270b843f299b4b048bca9ff908c871e0f857b355f5da34"), looks := false }, kinds := [], alts := [], laidByText := true, laidKinds := [.data, .pinned], laidTests := true, laidLooks := .later }
def DigitsLinesCardSaid : Prop := Claim7.holds Tryd.pinned (.plain (OpenSpec.ofChange digitsLinesSpec)) digitsLinesCard

/-- THE TIED CARD OF 'interlocklaw01.DigitsWords'. -/
def digitsWordsCard : Claim7 := { stood := { row := digitsWordsRow, standIns := [], harness := (true, "bbda76db47ba77ce61270b843f299b4b048bca9ff908c871e0f857b355f5da34"), looks := false }, kinds := [], alts := [], laidByText := true, laidKinds := [.data, .pinned], laidTests := true, laidLooks := .later }
def DigitsWordsCardSaid : Prop := Claim7.holds Tryd.pinned (.plain (OpenSpec.ofChange digitsWordsSpec)) digitsWordsCard

/-- THE SECOND FORM's CARD OF 'interlocklaw01.DigitsLines'. -/
def digitsLinesUptoCard : Claim7 := { stood := { row := digitsLinesUptoRow, standIns := [], harness := (true, "bbda76db47ba77ce61270b843f299b4b048bca9ff908c871e0f857b355f5da34"), looks := false }, kinds := [], alts := [], laidByText := true, laidKinds := [.data, .pinned], laidTests := true, laidLooks := .later }
def DigitsLinesUptoCardSaid : Prop := Claim7.holds Tryd.pinned (.plain (OpenSpec.upto digitsLinesSpec)) digitsLinesUptoCard

/-- THE SECOND FORM's CARD OF 'interlocklaw01.DigitsWords'. -/
def digitsWordsUptoCard : Claim7 := { stood := { row := digitsWordsUptoRow, standIns := [], harness := (true, "bbda76db47ba77ce61270b843f299b4b048bca9ff908c871e0f857b355f5da34"), looks := false }, kinds := [], alts := [], laidByText := true, laidKinds := [.data, .pinned], laidTests := true, laidLooks := .later }
def DigitsWordsUptoCardSaid : Prop := Claim7.holds Tryd.pinned (.plain (OpenSpec.upto digitsWordsSpec)) digitsWordsUptoCard
end Rows
end Go.Proofs.YteiijbhkplnnmaaDoor
