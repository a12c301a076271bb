/-
  DERIVED. GIVEN WITH THE SEED: THE CARDS: each row of YtmnionocehflmaaDoorRows.lean that lists a variable, with what it lists TIED to the program's text (the seventh form; the later family's looks); each row that meets fmt, with fmt's text TOLD by the authors' own Lean function (tested against real Go, not proved from fmt's source: count such statements apart). THE CARD IS WHAT COUNTS. Prove the row's statement (the work); the ties are given (YtmnionocehflmaaDoorTie.lean); close each card by the builder's one call (the guide's Derived/Test/ToyasCard.lean, 'card_holds'). Laid BY PROGRAM, IN A SANDBOX (cutbox-door.mjs). By AI agents, Wed Nov 11 2026. No macro, syntax, notation, axiom, sorry.
-/
import Derived.Test.YtmnionocehflmaaDoorRows
import GoSem.ClaimSeven
namespace Go.Proofs.YtmnionocehflmaaDoor
namespace Rows

/-- THE TIED CARD OF 'interlocklaw07.SimGates'. -/
def simGatesCard : Claim7 := { stood := { row := simGatesRow, standIns := [], harness := (true, "2d75503c7fa9bfe0d0fd7a329fb8249d0c08f303bee0de024e64b2714b40dec4"), looks := true }, kinds := [], alts := [], laidByText := true, laidKinds := [.data, .pinned], laidTests := true, laidLooks := .later }
def SimGatesCardSaid : Prop := Claim7.holds Tryd.pinned (.plain (OpenSpec.ofChange simGatesSpec)) simGatesCard

/-- THE TIED CARD OF 'interlocklaw07.SimCone'. -/
def simConeCard : Claim7 := { stood := { row := simConeRow, standIns := [], harness := (true, "2d75503c7fa9bfe0d0fd7a329fb8249d0c08f303bee0de024e64b2714b40dec4"), looks := true }, kinds := [], alts := [], laidByText := true, laidKinds := [.data, .pinned], laidTests := true, laidLooks := .later }
def SimConeCardSaid : Prop := Claim7.holds Tryd.pinned (.plain (OpenSpec.ofChange simConeSpec)) simConeCard

/-- THE TIED CARD OF 'interlocklaw07.SimTells'. -/
def simTellsCard : Claim7 := { stood := { row := simTellsRow, standIns := [], harness := (true, "2d75503c7fa9bfe0d0fd7a329fb8249d0c08f303bee0de024e64b2714b40dec4"), looks := true }, kinds := [], alts := [], laidByText := true, laidKinds := [.data, .pinned], laidTests := true, laidLooks := .later }
def SimTellsCardSaid : Prop := Claim7.holds Tryd.pinned (.plain (OpenSpec.ofChange simTellsSpec)) simTellsCard

/-- THE TIED CARD OF 'interlocklaw09.ReplayTells'. -/
def replayTellsCard : Claim7 := { stood := { row := replayTellsRow, standIns := [], harness := (true, "2d75503c7fa9bfe0d0fd7a329fb8249d0c08f303bee0de024e64b2714b40dec4"), looks := true }, kinds := [], alts := [], laidByText := true, laidKinds := [.data, .pinned], laidTests := true, laidLooks := .later }
def ReplayTellsCardSaid : Prop := Claim7.holds Tryd.pinned (.plain (OpenSpec.ofChange replayTellsSpec)) replayTellsCard

/-- THE TIED CARD OF 'interlocklaw09.ReplayMore'. -/
def replayMoreCard : Claim7 := { stood := { row := replayMoreRow, standIns := [], harness := (true, "2d75503c7fa9bfe0d0fd7a329fb8249d0c08f303bee0de024e64b2714b40dec4"), looks := true }, kinds := [], alts := [], laidByText := true, laidKinds := [.data, .pinned], laidTests := true, laidLooks := .later }
def ReplayMoreCardSaid : Prop := Claim7.holds Tryd.pinned (.plain (OpenSpec.ofChange replayMoreSpec)) replayMoreCard

/-- THE TIED CARD OF 'interlocklaw09.ReplayPrefix'. -/
def replayPrefixCard : Claim7 := { stood := { row := replayPrefixRow, standIns := [], harness := (true, "2d75503c7fa9bfe0d0fd7a329fb8249d0c08f303bee0de024e64b2714b40dec4"), looks := true }, kinds := [], alts := [], laidByText := true, laidKinds := [.data, .pinned], laidTests := true, laidLooks := .later }
def ReplayPrefixCardSaid : Prop := Claim7.holds Tryd.pinned (.plain (OpenSpec.ofChange replayPrefixSpec)) replayPrefixCard

/-- THE SECOND FORM's CARD OF 'interlocklaw07.SimGates'. -/
def simGatesUptoCard : Claim7 := { stood := { row := simGatesUptoRow, standIns := [], harness := (true, "2d75503c7fa9bfe0d0fd7a329fb8249d0c08f303bee0de024e64b2714b40dec4"), looks := true }, kinds := [], alts := [], laidByText := true, laidKinds := [.data, .pinned], laidTests := true, laidLooks := .later }
def SimGatesUptoCardSaid : Prop := Claim7.holds Tryd.pinned (.plain (OpenSpec.upto simGatesSpec)) simGatesUptoCard

/-- THE SECOND FORM's CARD OF 'interlocklaw07.SimCone'. -/
def simConeUptoCard : Claim7 := { stood := { row := simConeUptoRow, standIns := [], harness := (true, "2d75503c7fa9bfe0d0fd7a329fb8249d0c08f303bee0de024e64b2714b40dec4"), looks := true }, kinds := [], alts := [], laidByText := true, laidKinds := [.data, .pinned], laidTests := true, laidLooks := .later }
def SimConeUptoCardSaid : Prop := Claim7.holds Tryd.pinned (.plain (OpenSpec.upto simConeSpec)) simConeUptoCard

/-- THE SECOND FORM's CARD OF 'interlocklaw07.SimTells'. -/
def simTellsUptoCard : Claim7 := { stood := { row := simTellsUptoRow, standIns := [], harness := (true, "2d75503c7fa9bfe0d0fd7a329fb8249d0c08f303bee0de024e64b2714b40dec4"), looks := true }, kinds := [], alts := [], laidByText := true, laidKinds := [.data, .pinned], laidTests := true, laidLooks := .later }
def SimTellsUptoCardSaid : Prop := Claim7.holds Tryd.pinned (.plain (OpenSpec.upto simTellsSpec)) simTellsUptoCard

/-- THE SECOND FORM's CARD OF 'interlocklaw09.ReplayTells'. -/
def replayTellsUptoCard : Claim7 := { stood := { row := replayTellsUptoRow, standIns := [], harness := (true, "2d75503c7fa9bfe0d0fd7a329fb8249d0c08f303bee0de024e64b2714b40dec4"), looks := true }, kinds := [], alts := [], laidByText := true, laidKinds := [.data, .pinned], laidTests := true, laidLooks := .later }
def ReplayTellsUptoCardSaid : Prop := Claim7.holds Tryd.pinned (.plain (OpenSpec.upto replayTellsSpec)) replayTellsUptoCard

/-- THE SECOND FORM's CARD OF 'interlocklaw09.ReplayMore'. -/
def replayMoreUptoCard : Claim7 := { stood := { row := replayMoreUptoRow, standIns := [], harness := (true, "2d75503c7fa9bfe0d0fd7a329fb8249d0c08f303bee0de024e64b2714b40dec4"), looks := true }, kinds := [], alts := [], laidByText := true, laidKinds := [.data, .pinned], laidTests := true, laidLooks := .later }
def ReplayMoreUptoCardSaid : Prop := Claim7.holds Tryd.pinned (.plain (OpenSpec.upto replayMoreSpec)) replayMoreUptoCard

/-- THE SECOND FORM's CARD OF 'interlocklaw09.ReplayPrefix'. -/
def replayPrefixUptoCard : Claim7 := { stood := { row := replayPrefixUptoRow, standIns := [], harness := (true, "2d75503c7fa9bfe0d0fd7a329fb8249d0c08f303bee0de024e64b2714b40dec4"), looks := true }, kinds := [], alts := [], laidByText := true, laidKinds := [.data, .pinned], laidTests := true, laidLooks := .later }
def ReplayPrefixUptoCardSaid : Prop := Claim7.holds Tryd.pinned (.plain (OpenSpec.upto replayPrefixSpec)) replayPrefixUptoCard
end Rows
end Go.Proofs.YtmnionocehflmaaDoor
