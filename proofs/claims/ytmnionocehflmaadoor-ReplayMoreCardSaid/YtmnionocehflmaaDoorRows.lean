/-
  NARROWER THAN 'FOR EVERY INPUT', by the rows' own cells (each row's printed sentence says how): SimGates: laid · SimCone: laid · SimTells: laid · ReplayTells: laid · ReplayMore: laid · ReplayPrefix: laid.
  DERIVED. THE GIVEN ROWS OF THIS SEAT. 6 by the template 'for every input the law returns true; each argument reads behind the call as it read before'; 0 by the template 'total and deterministic' (their statements: YtmnionocehflmaaDoorTotals.lean).
  GIVEN WITH THE SEED: the statements are not yours to turn. If you find one false, say at which input.
  Laid BY PROGRAM, IN A SANDBOX (cutbox-rows.mjs): the forced cells as the released guide's own fill.sh prints them over the translation 7802aeb619b5bc70… (all of the seat's roots in one cut). By AI agents, Wed Nov 11 2026. No macro, syntax, notation, axiom, sorry.
-/
import Derived.Test.YtmnionocehflmaaDoorChecked
import GoSem.PinnedTables
import GoSem.Claim
import GoSem.ClaimJoined
import GoSem.ClaimMapViews
import Derived.JoinedTies
import Derived.KernelRfl
namespace Go.Proofs.YtmnionocehflmaaDoor
/- THE CELL 'sum', in the pinned program and in every row, IS THE sha256 OF THE DUMP (.gsa) THAT YtmnionocehflmaaDoorProg.lean LOADS. Nothing in Lean hashes anything: it is a label: what it is worth is what the hold of that sum in a sandbox is worth. -/
noncomputable def Tryd.pinned : Pinned := { name := "ytmnionocehflmaadoor", sum := "7802aeb619b5bc70a6f57bdf3008145098f8e7a6a852970802dbfb5a112b018e", checked := Tryd.checked }
namespace Rows
def none {H : Type} : Left H := { results := [], args := [] }

/- WHAT THE LISTED PACKAGE-LEVEL VARIABLES READ AS WHEN THE CALL BEGINS. Each datum BY PROGRAM (the guide's laid-datum.mjs) off the statement by which the dump's own 'gosem.cut.vars' lays the variable. In a bare row this is a premise. The card (YtmnionocehflmaaDoorCards.lean) ties it to the program's text. -/
def laid_unicode_utf8_acceptRanges {H : Type} : DataW H := .agg [.agg [.lit (.int .u8 128), .lit (.int .u8 191)], .agg [.lit (.int .u8 160), .lit (.int .u8 191)], .agg [.lit (.int .u8 128), .lit (.int .u8 159)], .agg [.lit (.int .u8 144), .lit (.int .u8 191)], .agg [.lit (.int .u8 128), .lit (.int .u8 143)], .agg [.lit (.int .u8 0), .lit (.int .u8 0)], .agg [.lit (.int .u8 0), .lit (.int .u8 0)], .agg [.lit (.int .u8 0), .lit (.int .u8 0)], .agg [.lit (.int .u8 0), .lit (.int .u8 0)], .agg [.lit (.int .u8 0), .lit (.int .u8 0)], .agg [.lit (.int .u8 0), .lit (.int .u8 0)], .agg [.lit (.int .u8 0), .lit (.int .u8 0)], .agg [.lit (.int .u8 0), .lit (.int .u8 0)], .agg [.lit (.int .u8 0), .lit (.int .u8 0)], .agg [.lit (.int .u8 0), .lit (.int .u8 0)], .agg [.lit (.int .u8 0), .lit (.int .u8 0)]]
/-- One of Go's own tables, pinned by name: the form's constant. -/
def laid_unicode_utf8_first : DataW Unit := Go.Pinned.utf8First

/-- 'interlocklaw07.SimGates': WHATEVER THE INPUT: true; the input reads as it did. -/
def simGatesSpec : ChangeSpec := { name := "simGates", fn := fun _ => fun
  | [d1, d2, d3, d4] => { results := [.lit (.bool true)], args := [d1, d2, d3, d4] }
  | _ => none }
def simGatesRow : OpenClaim := { program := "ytmnionocehflmaadoor", sum := "7802aeb619b5bc70a6f57bdf3008145098f8e7a6a852970802dbfb5a112b018e", func := "interlock/interlocklaw07.SimGates", spec := "simGates", inPlace := ["internal/bytealg.IndexByteString", "internal/bytealg.IndexString", "internal/abi.NoEscape"], unfollowed := true, recurses := true, named := ["internal/bytealg.MaxLen", "unicode/utf8.first", "unicode/utf8.acceptRanges"], apart := false, laid := [("unicode/utf8.acceptRanges", laid_unicode_utf8_acceptRanges), ("unicode/utf8.first", laid_unicode_utf8_first)] }
def SimGatesSaid : Prop := simGatesRow.holds Tryd.pinned (OpenSpec.ofChange simGatesSpec)

/-- ITS FALSE NEIGHBOUR: 'it returns false'. Refute it at one input. -/
def simGatesWrong : ChangeSpec := { name := "simGates", fn := fun _ => fun
  | [d1, d2, d3, d4] => { results := [.lit (.bool false)], args := [d1, d2, d3, d4] }
  | _ => none }
def SimGatesWrongFalsely : Prop := simGatesRow.holds Tryd.pinned (OpenSpec.ofChange simGatesWrong)

/-- 'interlocklaw07.SimCone': WHATEVER THE INPUT: true; the input reads as it did. -/
def simConeSpec : ChangeSpec := { name := "simCone", fn := fun _ => fun
  | [d1, d2, d3, d4, d5] => { results := [.lit (.bool true)], args := [d1, d2, d3, d4, d5] }
  | _ => none }
def simConeRow : OpenClaim := { program := "ytmnionocehflmaadoor", sum := "7802aeb619b5bc70a6f57bdf3008145098f8e7a6a852970802dbfb5a112b018e", func := "interlock/interlocklaw07.SimCone", spec := "simCone", inPlace := ["internal/bytealg.IndexByteString", "internal/bytealg.IndexString", "internal/abi.NoEscape"], unfollowed := true, recurses := true, named := ["internal/bytealg.MaxLen", "unicode/utf8.first", "unicode/utf8.acceptRanges"], apart := false, laid := [("unicode/utf8.acceptRanges", laid_unicode_utf8_acceptRanges), ("unicode/utf8.first", laid_unicode_utf8_first)] }
def SimConeSaid : Prop := simConeRow.holds Tryd.pinned (OpenSpec.ofChange simConeSpec)

/-- ITS FALSE NEIGHBOUR: 'it returns false'. Refute it at one input. -/
def simConeWrong : ChangeSpec := { name := "simCone", fn := fun _ => fun
  | [d1, d2, d3, d4, d5] => { results := [.lit (.bool false)], args := [d1, d2, d3, d4, d5] }
  | _ => none }
def SimConeWrongFalsely : Prop := simConeRow.holds Tryd.pinned (OpenSpec.ofChange simConeWrong)

/-- 'interlocklaw07.SimTells': WHATEVER THE INPUT: true; the input reads as it did. -/
def simTellsSpec : ChangeSpec := { name := "simTells", fn := fun _ => fun
  | [d1, d2, d3, d4, d5, d6] => { results := [.lit (.bool true)], args := [d1, d2, d3, d4, d5, d6] }
  | _ => none }
def simTellsRow : OpenClaim := { program := "ytmnionocehflmaadoor", sum := "7802aeb619b5bc70a6f57bdf3008145098f8e7a6a852970802dbfb5a112b018e", func := "interlock/interlocklaw07.SimTells", spec := "simTells", inPlace := ["internal/bytealg.IndexByteString", "internal/bytealg.IndexString", "internal/abi.NoEscape"], unfollowed := true, recurses := true, named := ["internal/bytealg.MaxLen", "unicode/utf8.first", "unicode/utf8.acceptRanges"], apart := false, laid := [("unicode/utf8.acceptRanges", laid_unicode_utf8_acceptRanges), ("unicode/utf8.first", laid_unicode_utf8_first)] }
def SimTellsSaid : Prop := simTellsRow.holds Tryd.pinned (OpenSpec.ofChange simTellsSpec)

/-- ITS FALSE NEIGHBOUR: 'it returns false'. Refute it at one input. -/
def simTellsWrong : ChangeSpec := { name := "simTells", fn := fun _ => fun
  | [d1, d2, d3, d4, d5, d6] => { results := [.lit (.bool false)], args := [d1, d2, d3, d4, d5, d6] }
  | _ => none }
def SimTellsWrongFalsely : Prop := simTellsRow.holds Tryd.pinned (OpenSpec.ofChange simTellsWrong)

/-- 'interlocklaw09.ReplayTells': WHATEVER THE INPUT: true; the input reads as it did. -/
def replayTellsSpec : ChangeSpec := { name := "replayTells", fn := fun _ => fun
  | [d1, d2, d3, d4] => { results := [.lit (.bool true)], args := [d1, d2, d3, d4] }
  | _ => none }
def replayTellsRow : OpenClaim := { program := "ytmnionocehflmaadoor", sum := "7802aeb619b5bc70a6f57bdf3008145098f8e7a6a852970802dbfb5a112b018e", func := "interlock/interlocklaw09.ReplayTells", spec := "replayTells", inPlace := ["internal/bytealg.IndexByteString", "internal/bytealg.IndexString", "internal/abi.NoEscape"], unfollowed := true, recurses := true, named := ["internal/bytealg.MaxLen", "unicode/utf8.first", "unicode/utf8.acceptRanges"], apart := false, laid := [("unicode/utf8.acceptRanges", laid_unicode_utf8_acceptRanges), ("unicode/utf8.first", laid_unicode_utf8_first)] }
def ReplayTellsSaid : Prop := replayTellsRow.holds Tryd.pinned (OpenSpec.ofChange replayTellsSpec)

/-- ITS FALSE NEIGHBOUR: 'it returns false'. Refute it at one input. -/
def replayTellsWrong : ChangeSpec := { name := "replayTells", fn := fun _ => fun
  | [d1, d2, d3, d4] => { results := [.lit (.bool false)], args := [d1, d2, d3, d4] }
  | _ => none }
def ReplayTellsWrongFalsely : Prop := replayTellsRow.holds Tryd.pinned (OpenSpec.ofChange replayTellsWrong)

/-- 'interlocklaw09.ReplayMore': WHATEVER THE INPUT: true; the input reads as it did. -/
def replayMoreSpec : ChangeSpec := { name := "replayMore", fn := fun _ => fun
  | [d1, d2, d3, d4] => { results := [.lit (.bool true)], args := [d1, d2, d3, d4] }
  | _ => none }
def replayMoreRow : OpenClaim := { program := "ytmnionocehflmaadoor", sum := "7802aeb619b5bc70a6f57bdf3008145098f8e7a6a852970802dbfb5a112b018e", func := "interlock/interlocklaw09.ReplayMore", spec := "replayMore", inPlace := ["internal/bytealg.IndexByteString", "internal/bytealg.IndexString", "internal/abi.NoEscape"], unfollowed := true, recurses := true, named := ["internal/bytealg.MaxLen", "unicode/utf8.first", "unicode/utf8.acceptRanges"], apart := false, laid := [("unicode/utf8.acceptRanges", laid_unicode_utf8_acceptRanges), ("unicode/utf8.first", laid_unicode_utf8_first)] }
def ReplayMoreSaid : Prop := replayMoreRow.holds Tryd.pinned (OpenSpec.ofChange replayMoreSpec)

/-- ITS FALSE NEIGHBOUR: 'it returns false'. Refute it at one input. -/
def replayMoreWrong : ChangeSpec := { name := "replayMore", fn := fun _ => fun
  | [d1, d2, d3, d4] => { results := [.lit (.bool false)], args := [d1, d2, d3, d4] }
  | _ => none }
def ReplayMoreWrongFalsely : Prop := replayMoreRow.holds Tryd.pinned (OpenSpec.ofChange replayMoreWrong)

/-- 'interlocklaw09.ReplayPrefix': WHATEVER THE INPUT: true; the input reads as it did. -/
def replayPrefixSpec : ChangeSpec := { name := "replayPrefix", fn := fun _ => fun
  | [d1, d2, d3] => { results := [.lit (.bool true)], args := [d1, d2, d3] }
  | _ => none }
def replayPrefixRow : OpenClaim := { program := "ytmnionocehflmaadoor", sum := "7802aeb619b5bc70a6f57bdf3008145098f8e7a6a852970802dbfb5a112b018e", func := "interlock/interlocklaw09.ReplayPrefix", spec := "replayPrefix", inPlace := ["internal/bytealg.IndexByteString", "internal/bytealg.IndexString", "internal/abi.NoEscape"], unfollowed := true, recurses := true, named := ["internal/bytealg.MaxLen", "unicode/utf8.first", "unicode/utf8.acceptRanges"], apart := false, laid := [("unicode/utf8.acceptRanges", laid_unicode_utf8_acceptRanges), ("unicode/utf8.first", laid_unicode_utf8_first)] }
def ReplayPrefixSaid : Prop := replayPrefixRow.holds Tryd.pinned (OpenSpec.ofChange replayPrefixSpec)

/-- ITS FALSE NEIGHBOUR: 'it returns false'. Refute it at one input. -/
def replayPrefixWrong : ChangeSpec := { name := "replayPrefix", fn := fun _ => fun
  | [d1, d2, d3] => { results := [.lit (.bool false)], args := [d1, d2, d3] }
  | _ => none }
def ReplayPrefixWrongFalsely : Prop := replayPrefixRow.holds Tryd.pinned (OpenSpec.ofChange replayPrefixWrong)

/- THE SECOND FORM. 'bulk': how many values and letters a reading holds, each counted each time it is reached (what is shared counts as often as it is met; a slice's spare places count too). A statement '..UptoSaid' is the law's where the arguments, and the package variables that the reading takes, are together of bulk at most 1048576: NARROWER than '..Said'. Prove '..Said' where nothing that the law and all that it calls make is longer than what came in: it says more and counts as full. Else prove '..UptoSaid'. A law counts once. -/
mutual
def uptoBulk {H : Type} : DataW H → Nat
  | .lit (.string bytes) => bytes.length + 1
  | .lit _ => 1
  | .nil => 1
  | .ptr d => uptoBulk d + 1
  | .slice elems spare => uptoBulkAll elems + uptoBulkAll spare + 1
  | .agg parts => uptoBulkAll parts + 1
  | .iface _ d => uptoBulk d + 1
  | .map entries => uptoBulkEntries entries + 1
  | .held _ => 1
def uptoBulkAll {H : Type} : List (DataW H) → Nat
  | [] => 0
  | d :: r => uptoBulk d + uptoBulkAll r
def uptoBulkEntries {H : Type} : List (Lit × DataW H) → Nat
  | [] => 0
  | x :: r => uptoBulkEntry x + uptoBulkEntries r
def uptoBulkEntry {H : Type} : Lit × DataW H → Nat
  | (.string bytes, d) => bytes.length + uptoBulk d + 1
  | (_, d) => uptoBulk d + 1
 end
def uptoSmall : (H : Type) → List (DataW H) → Bool := fun _ ds => decide (uptoBulkAll ds ≤ 1048576)
def OpenSpec.upto (s : _root_.Go.ChangeSpec) : _root_.Go.OpenSpec := { _root_.Go.OpenSpec.ofChange s with cond := some uptoSmall }

/-- 'interlocklaw07.SimGates', WHERE WHAT IT READS IS OF BULK AT MOST 1048576: true; the input reads as it did. -/
def simGatesUptoRow : OpenClaim := { program := "ytmnionocehflmaadoor", sum := "7802aeb619b5bc70a6f57bdf3008145098f8e7a6a852970802dbfb5a112b018e", func := "interlock/interlocklaw07.SimGates", spec := "simGates", inPlace := ["internal/bytealg.IndexByteString", "internal/bytealg.IndexString", "internal/abi.NoEscape"], unfollowed := true, recurses := true, named := ["internal/bytealg.MaxLen", "unicode/utf8.first", "unicode/utf8.acceptRanges"], apart := false, laid := [("unicode/utf8.acceptRanges", laid_unicode_utf8_acceptRanges), ("unicode/utf8.first", laid_unicode_utf8_first)], narrowed := true }
def SimGatesUptoSaid : Prop := simGatesUptoRow.holds Tryd.pinned (OpenSpec.upto simGatesSpec)

/-- 'interlocklaw07.SimCone', WHERE WHAT IT READS IS OF BULK AT MOST 1048576: true; the input reads as it did. -/
def simConeUptoRow : OpenClaim := { program := "ytmnionocehflmaadoor", sum := "7802aeb619b5bc70a6f57bdf3008145098f8e7a6a852970802dbfb5a112b018e", func := "interlock/interlocklaw07.SimCone", spec := "simCone", inPlace := ["internal/bytealg.IndexByteString", "internal/bytealg.IndexString", "internal/abi.NoEscape"], unfollowed := true, recurses := true, named := ["internal/bytealg.MaxLen", "unicode/utf8.first", "unicode/utf8.acceptRanges"], apart := false, laid := [("unicode/utf8.acceptRanges", laid_unicode_utf8_acceptRanges), ("unicode/utf8.first", laid_unicode_utf8_first)], narrowed := true }
def SimConeUptoSaid : Prop := simConeUptoRow.holds Tryd.pinned (OpenSpec.upto simConeSpec)

/-- 'interlocklaw07.SimTells', WHERE WHAT IT READS IS OF BULK AT MOST 1048576: true; the input reads as it did. -/
def simTellsUptoRow : OpenClaim := { program := "ytmnionocehflmaadoor", sum := "7802aeb619b5bc70a6f57bdf3008145098f8e7a6a852970802dbfb5a112b018e", func := "interlock/interlocklaw07.SimTells", spec := "simTells", inPlace := ["internal/bytealg.IndexByteString", "internal/bytealg.IndexString", "internal/abi.NoEscape"], unfollowed := true, recurses := true, named := ["internal/bytealg.MaxLen", "unicode/utf8.first", "unicode/utf8.acceptRanges"], apart := false, laid := [("unicode/utf8.acceptRanges", laid_unicode_utf8_acceptRanges), ("unicode/utf8.first", laid_unicode_utf8_first)], narrowed := true }
def SimTellsUptoSaid : Prop := simTellsUptoRow.holds Tryd.pinned (OpenSpec.upto simTellsSpec)

/-- 'interlocklaw09.ReplayTells', WHERE WHAT IT READS IS OF BULK AT MOST 1048576: true; the input reads as it did. -/
def replayTellsUptoRow : OpenClaim := { program := "ytmnionocehflmaadoor", sum := "7802aeb619b5bc70a6f57bdf3008145098f8e7a6a852970802dbfb5a112b018e", func := "interlock/interlocklaw09.ReplayTells", spec := "replayTells", inPlace := ["internal/bytealg.IndexByteString", "internal/bytealg.IndexString", "internal/abi.NoEscape"], unfollowed := true, recurses := true, named := ["internal/bytealg.MaxLen", "unicode/utf8.first", "unicode/utf8.acceptRanges"], apart := false, laid := [("unicode/utf8.acceptRanges", laid_unicode_utf8_acceptRanges), ("unicode/utf8.first", laid_unicode_utf8_first)], narrowed := true }
def ReplayTellsUptoSaid : Prop := replayTellsUptoRow.holds Tryd.pinned (OpenSpec.upto replayTellsSpec)

/-- 'interlocklaw09.ReplayMore', WHERE WHAT IT READS IS OF BULK AT MOST 1048576: true; the input reads as it did. -/
def replayMoreUptoRow : OpenClaim := { program := "ytmnionocehflmaadoor", sum := "7802aeb619b5bc70a6f57bdf3008145098f8e7a6a852970802dbfb5a112b018e", func := "interlock/interlocklaw09.ReplayMore", spec := "replayMore", inPlace := ["internal/bytealg.IndexByteString", "internal/bytealg.IndexString", "internal/abi.NoEscape"], unfollowed := true, recurses := true, named := ["internal/bytealg.MaxLen", "unicode/utf8.first", "unicode/utf8.acceptRanges"], apart := false, laid := [("unicode/utf8.acceptRanges", laid_unicode_utf8_acceptRanges), ("unicode/utf8.first", laid_unicode_utf8_first)], narrowed := true }
def ReplayMoreUptoSaid : Prop := replayMoreUptoRow.holds Tryd.pinned (OpenSpec.upto replayMoreSpec)

/-- 'interlocklaw09.ReplayPrefix', WHERE WHAT IT READS IS OF BULK AT MOST 1048576: true; the input reads as it did. -/
def replayPrefixUptoRow : OpenClaim := { program := "ytmnionocehflmaadoor", sum := "7802aeb619b5bc70a6f57bdf3008145098f8e7a6a852970802dbfb5a112b018e", func := "interlock/interlocklaw09.ReplayPrefix", spec := "replayPrefix", inPlace := ["internal/bytealg.IndexByteString", "internal/bytealg.IndexString", "internal/abi.NoEscape"], unfollowed := true, recurses := true, named := ["internal/bytealg.MaxLen", "unicode/utf8.first", "unicode/utf8.acceptRanges"], apart := false, laid := [("unicode/utf8.acceptRanges", laid_unicode_utf8_acceptRanges), ("unicode/utf8.first", laid_unicode_utf8_first)], narrowed := true }
def ReplayPrefixUptoSaid : Prop := replayPrefixUptoRow.holds Tryd.pinned (OpenSpec.upto replayPrefixSpec)

end Rows
end Go.Proofs.YtmnionocehflmaaDoor
