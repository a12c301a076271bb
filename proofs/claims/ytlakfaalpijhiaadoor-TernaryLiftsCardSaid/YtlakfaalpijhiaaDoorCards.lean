/-
  DERIVED. GIVEN WITH THE SEED: THE CARDS: each row of YtlakfaalpijhiaaDoorRows.lean that lists a variable, with what it lists TIED to the program's text (the seventh form; the later family's looks); each row that meets fmt, with fmt's text TOLD by the authors' own Lean function (tested against real Go, not proved from fmt's source: count such statements apart). THE CARD IS WHAT COUNTS. Prove the row's statement (the work); the ties are given (YtlakfaalpijhiaaDoorTie.lean); close each card by the builder's one call (the guide's Derived/Test/ToyasCard.lean, 'card_holds'). Laid BY PROGRAM, IN A SANDBOX (cutbox-door.mjs). By AI agents, Wed Nov 11 2026. No macro, syntax, notation, axiom, sorry.
-/
import Derived.Test.YtlakfaalpijhiaaDoorRows
import GoSem.ClaimSeven
namespace Go.Proofs.YtlakfaalpijhiaaDoor
namespace Rows

/-- THE TIED CARD OF 'interlocklaw08.TernarySound'. -/
def ternarySoundCard : Claim7 := { stood := { row := ternarySoundRow, standIns := [], harness := (true, "3c70eabf4d27724c579a4b525796bcade3341e3e2e645b7453fc2f0a1e1b6da9"), looks := true }, kinds := [], alts := [], laidByText := true, laidKinds := [.data, .pinned], laidTests := true, laidLooks := .later }
def TernarySoundCardSaid : Prop := Claim7.holds Tryd.pinned (.plain (OpenSpec.ofChange ternarySoundSpec)) ternarySoundCard

/-- THE TIED CARD OF 'interlocklaw08.TernaryTells'. -/
def ternaryTellsCard : Claim7 := { stood := { row := ternaryTellsRow, standIns := [], harness := (true, "3c70eabf4d27724c579a4b525796bcade3341e3e2e645b7453fc2f0a1e1b6da9"), looks := true }, kinds := [], alts := [], laidByText := true, laidKinds := [.data, .pinned], laidTests := true, laidLooks := .later }
def TernaryTellsCardSaid : Prop := Claim7.holds Tryd.pinned (.plain (OpenSpec.ofChange ternaryTellsSpec)) ternaryTellsCard

/-- THE TIED CARD OF 'interlocklaw08.TernaryMore'. -/
def ternaryMoreCard : Claim7 := { stood := { row := ternaryMoreRow, standIns := [], harness := (true, "3c70eabf4d27724c579a4b525796bcade3341e3e2e645b7453fc2f0a1e1b6da9"), looks := true }, kinds := [], alts := [], laidByText := true, laidKinds := [.data, .pinned], laidTests := true, laidLooks := .later }
def TernaryMoreCardSaid : Prop := Claim7.holds Tryd.pinned (.plain (OpenSpec.ofChange ternaryMoreSpec)) ternaryMoreCard

/-- THE TIED CARD OF 'interlocklaw08.TernaryAlways'. -/
def ternaryAlwaysCard : Claim7 := { stood := { row := ternaryAlwaysRow, standIns := [], harness := (true, "3c70eabf4d27724c579a4b525796bcade3341e3e2e645b7453fc2f0a1e1b6da9"), looks := true }, kinds := [], alts := [], laidByText := true, laidKinds := [.data, .pinned], laidTests := true, laidLooks := .later }
def TernaryAlwaysCardSaid : Prop := Claim7.holds Tryd.pinned (.plain (OpenSpec.ofChange ternaryAlwaysSpec)) ternaryAlwaysCard

/-- THE TIED CARD OF 'interlocklaw08.TernaryLifts'. -/
def ternaryLiftsCard : Claim7 := { stood := { row := ternaryLiftsRow, standIns := [], harness := (true, "3c70eabf4d27724c579a4b525796bcade3341e3e2e645b7453fc2f0a1e1b6da9"), looks := true }, kinds := [], alts := [], laidByText := true, laidKinds := [.data, .pinned], laidTests := true, laidLooks := .later }
def TernaryLiftsCardSaid : Prop := Claim7.holds Tryd.pinned (.plain (OpenSpec.ofChange ternaryLiftsSpec)) ternaryLiftsCard

/-- THE SECOND FORM's CARD OF 'interlocklaw08.TernarySound'. -/
def ternarySoundUptoCard : Claim7 := { stood := { row := ternarySoundUptoRow, standIns := [], harness := (true, "3c70eabf4d27724c579a4b525796bcade3341e3e2e645b7453fc2f0a1e1b6da9"), looks := true }, kinds := [], alts := [], laidByText := true, laidKinds := [.data, .pinned], laidTests := true, laidLooks := .later }
def TernarySoundUptoCardSaid : Prop := Claim7.holds Tryd.pinned (.plain (OpenSpec.upto ternarySoundSpec)) ternarySoundUptoCard

/-- THE SECOND FORM's CARD OF 'interlocklaw08.TernaryTells'. -/
def ternaryTellsUptoCard : Claim7 := { stood := { row := ternaryTellsUptoRow, standIns := [], harness := (true, "3c70eabf4d27724c579a4b525796bcade3341e3e2e645b7453fc2f0a1e1b6da9"), looks := true }, kinds := [], alts := [], laidByText := true, laidKinds := [.data, .pinned], laidTests := true, laidLooks := .later }
def TernaryTellsUptoCardSaid : Prop := Claim7.holds Tryd.pinned (.plain (OpenSpec.upto ternaryTellsSpec)) ternaryTellsUptoCard

/-- THE SECOND FORM's CARD OF 'interlocklaw08.TernaryMore'. -/
def ternaryMoreUptoCard : Claim7 := { stood := { row := ternaryMoreUptoRow, standIns := [], harness := (true, "3c70eabf4d27724c579a4b525796bcade3341e3e2e645b7453fc2f0a1e1b6da9"), looks := true }, kinds := [], alts := [], laidByText := true, laidKinds := [.data, .pinned], laidTests := true, laidLooks := .later }
def TernaryMoreUptoCardSaid : Prop := Claim7.holds Tryd.pinned (.plain (OpenSpec.upto ternaryMoreSpec)) ternaryMoreUptoCard

/-- THE SECOND FORM's CARD OF 'interlocklaw08.TernaryAlways'. -/
def ternaryAlwaysUptoCard : Claim7 := { stood := { row := ternaryAlwaysUptoRow, standIns := [], harness := (true, "3c70eabf4d27724c579a4b525796bcade3341e3e2e645b7453fc2f0a1e1b6da9"), looks := true }, kinds := [], alts := [], laidByText := true, laidKinds := [.data, .pinned], laidTests := true, laidLooks := .later }
def TernaryAlwaysUptoCardSaid : Prop := Claim7.holds Tryd.pinned (.plain (OpenSpec.upto ternaryAlwaysSpec)) ternaryAlwaysUptoCard

/-- THE SECOND FORM's CARD OF 'interlocklaw08.TernaryLifts'. -/
def ternaryLiftsUptoCard : Claim7 := { stood := { row := ternaryLiftsUptoRow, standIns := [], harness := (true, "3c70eabf4d27724c579a4b525796bcade3341e3e2e645b7453fc2f0a1e1b6da9"), looks := true }, kinds := [], alts := [], laidByText := true, laidKinds := [.data, .pinned], laidTests := true, laidLooks := .later }
def TernaryLiftsUptoCardSaid : Prop := Claim7.holds Tryd.pinned (.plain (OpenSpec.upto ternaryLiftsSpec)) ternaryLiftsUptoCard
end Rows
end Go.Proofs.YtlakfaalpijhiaaDoor
