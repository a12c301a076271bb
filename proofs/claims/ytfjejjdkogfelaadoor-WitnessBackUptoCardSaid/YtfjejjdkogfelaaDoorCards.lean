/-
  DERIVED. GIVEN WITH THE SEED: THE CARDS: each row of YtfjejjdkogfelaaDoorRows.lean that lists a variable, with what it lists TIED to the program's text (the seventh form; the later family's looks); each row that meets fmt, with fmt's text TOLD by the authors' own Lean function (tested against real Go, not proved from fmt's source: count such statements apart). THE CARD IS WHAT COUNTS. Prove the row's statement (the work); the ties are given (YtfjejjdkogfelaaDoorTie.lean); close each card by the builder's one call (the guide's Derived/Test/ToyasCard.lean, 'card_holds'). Laid BY PROGRAM, IN A SANDBOX (cutbox-door.mjs). By AI agents, Wed Nov 11 2026. No macro, syntax, notation, axiom, sorry.
-/
import Derived.Test.YtfjejjdkogfelaaDoorRows
import GoSem.ClaimSeven
namespace Go.Proofs.YtfjejjdkogfelaaDoor
namespace Rows

/-- THE TIED CARD OF 'interlocklaw25.WitnessTells'. -/
def witnessTellsCard : Claim7 := { stood := { row := witnessTellsRow, standIns := [], harness := (true, "c9ff96d4ec731be827c6fae5bea2420eb93fdca114f3585b41954af843a03293"), looks := false }, kinds := [], alts := [], laidByText := true, laidKinds := [.data, .pinned], laidTests := true, laidLooks := .later }
def WitnessTellsCardSaid : Prop := Claim7.holds Tryd.pinned (.plain (OpenSpec.ofChange witnessTellsSpec)) witnessTellsCard

/-- THE TIED CARD OF 'interlocklaw25.WitnessBack'. -/
def witnessBackCard : Claim7 := { stood := { row := witnessBackRow, standIns := [], harness := (true, "c9ff96d4ec731be827c6fae5bea2420eb93fdca114f3585b41954af843a03293"), looks := false }, kinds := [], alts := [], laidByText := true, laidKinds := [.data, .pinned], laidTests := true, laidLooks := .later }
def WitnessBackCardSaid : Prop := Claim7.holds Tryd.pinned (.plain (OpenSpec.ofChange witnessBackSpec)) witnessBackCard

/-- THE SECOND FORM's CARD OF 'interlocklaw25.WitnessTells'. -/
def witnessTellsUptoCard : Claim7 := { stood := { row := witnessTellsUptoRow, standIns := [], harness := (true, "c9ff96d4ec731be827c6fae5bea2420eb93fdca114f3585b41954af843a03293"), looks := false }, kinds := [], alts := [], laidByText := true, laidKinds := [.data, .pinned], laidTests := true, laidLooks := .later }
def WitnessTellsUptoCardSaid : Prop := Claim7.holds Tryd.pinned (.plain (OpenSpec.upto witnessTellsSpec)) witnessTellsUptoCard

/-- THE SECOND FORM's CARD OF 'interlocklaw25.WitnessBack'. -/
def witnessBackUptoCard : Claim7 := { stood := { row := witnessBackUptoRow, standIns := [], harness := (true, "c9ff96d4ec731be827c6fae5bea2420eb93fdca114f3585b41954af843a03293"), looks := false }, kinds := [], alts := [], laidByText := true, laidKinds := [.data, .pinned], laidTests := true, laidLooks := .later }
def WitnessBackUptoCardSaid : Prop := Claim7.holds Tryd.pinned (.plain (OpenSpec.upto witnessBackSpec)) witnessBackUptoCard
end Rows
end Go.Proofs.YtfjejjdkogfelaaDoor
