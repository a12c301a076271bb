/-
  NARROWER THAN 'FOR EVERY INPUT', by the rows' own cells (each row's printed sentence says how): AagBack: laid · AagCuts: laid · AagComments: laid · CommandBlanks: laid · AigBack: laid · AigCuts: laid.
  DERIVED. THE GIVEN ROWS OF THIS SEAT. 6 by the template 'for every input the law returns true; each argument reads behind the call as it read before'; 0 by the template 'total and deterministic' (their statements: YtjcaejdokillgaaDoorTotals.lean).
  GIVEN WITH THE SEED: the statements are not yours to turn. If you find one false, say at which input.
  Laid BY PROGRAM, IN A SANDBOX (cutbox-rows.mjs): the forced cells as the released guide's own fill.sh prints them over the translation 9a9d07e42b5119af… (all of the seat's roots in one cut). By AI agents, Wed Nov 11 2026. No macro, syntax, notation, axiom, sorry.
-/
import Derived.Test.YtjcaejdokillgaaDoorChecked
import GoSem.PinnedTables
import GoSem.Claim
import GoSem.ClaimJoined
import GoSem.ClaimMapViews
import Derived.JoinedTies
import Derived.KernelRfl
namespace Go.Proofs.YtjcaejdokillgaaDoor
/- THE CELL 'sum', in the pinned program and in every row, IS THE sha256 OF THE DUMP (.gsa) THAT YtjcaejdokillgaaDoorProg.lean LOADS. Nothing in Lean hashes anything: it is a label: what it is worth is what the hold of that sum in a sandbox is worth. -/
noncomputable def Tryd.pinned : Pinned := { name := "ytjcaejdokillgaadoor", sum := "9a9d07e42b5119af3aec6a55161a951d77a007e70146559dc1e90071a3100586", checked := Tryd.checked }
namespace Rows
def none {H : Type} : Left H := { results := [], args := [] }

/- WHAT THE LISTED PACKAGE-LEVEL VARIABLES READ AS WHEN THE CALL BEGINS. Each datum BY PROGRAM (the guide's laid-datum.mjs) off the statement by which the dump's own 'gosem.cut.vars' lays the variable. In a bare row this is a premise. The card (YtjcaejdokillgaaDoorCards.lean) ties it to the program's text. -/
def laid_unicode_utf8_acceptRanges {H : Type} : DataW H := .agg [.agg [.lit (.int .u8 128), .lit (.int .u8 191)], .agg [.lit (.int .u8 160), .lit (.int .u8 191)], .agg [.lit (.int .u8 128), .lit (.int .u8 159)], .agg [.lit (.int .u8 144), .lit (.int .u8 191)], .agg [.lit (.int .u8 128), .lit (.int .u8 143)], .agg [.lit (.int .u8 0), .lit (.int .u8 0)], .agg [.lit (.int .u8 0), .lit (.int .u8 0)], .agg [.lit (.int .u8 0), .lit (.int .u8 0)], .agg [.lit (.int .u8 0), .lit (.int .u8 0)], .agg [.lit (.int .u8 0), .lit (.int .u8 0)], .agg [.lit (.int .u8 0), .lit (.int .u8 0)], .agg [.lit (.int .u8 0), .lit (.int .u8 0)], .agg [.lit (.int .u8 0), .lit (.int .u8 0)], .agg [.lit (.int .u8 0), .lit (.int .u8 0)], .agg [.lit (.int .u8 0), .lit (.int .u8 0)], .agg [.lit (.int .u8 0), .lit (.int .u8 0)]]
/-- One of Go's own tables, pinned by name: the form's constant. -/
def laid_unicode_utf8_first : DataW Unit := Go.Pinned.utf8First

/-- 'interlocklaw04.AagBack': WHATEVER THE INPUT: true; the input reads as it did. -/
def aagBackSpec : ChangeSpec := { name := "aagBack", fn := fun _ => fun
  | [d1, d2] => { results := [.lit (.bool true)], args := [d1, d2] }
  | _ => none }
def aagBackRow : OpenClaim := { program := "ytjcaejdokillgaadoor", sum := "9a9d07e42b5119af3aec6a55161a951d77a007e70146559dc1e90071a3100586", func := "interlock/interlocklaw04.AagBack", spec := "aagBack", inPlace := ["internal/bytealg.IndexByteString", "internal/bytealg.IndexString", "internal/abi.NoEscape", "internal/bytealg.CountString"], unfollowed := true, recurses := true, named := ["internal/bytealg.MaxLen", "unicode/utf8.first", "unicode/utf8.acceptRanges"], apart := false, laid := [("unicode/utf8.acceptRanges", laid_unicode_utf8_acceptRanges), ("unicode/utf8.first", laid_unicode_utf8_first)] }
def AagBackSaid : Prop := aagBackRow.holds Tryd.pinned (OpenSpec.ofChange aagBackSpec)

/-- ITS FALSE NEIGHBOUR: 'it returns false'. Refute it at one input. -/
def aagBackWrong : ChangeSpec := { name := "aagBack", fn := fun _ => fun
  | [d1, d2] => { results := [.lit (.bool false)], args := [d1, d2] }
  | _ => none }
def AagBackWrongFalsely : Prop := aagBackRow.holds Tryd.pinned (OpenSpec.ofChange aagBackWrong)

/-- 'interlocklaw04.AagCuts': WHATEVER THE INPUT: true; the input reads as it did. -/
def aagCutsSpec : ChangeSpec := { name := "aagCuts", fn := fun _ => fun
  | [d1, d2] => { results := [.lit (.bool true)], args := [d1, d2] }
  | _ => none }
def aagCutsRow : OpenClaim := { program := "ytjcaejdokillgaadoor", sum := "9a9d07e42b5119af3aec6a55161a951d77a007e70146559dc1e90071a3100586", func := "interlock/interlocklaw04.AagCuts", spec := "aagCuts", inPlace := ["internal/bytealg.IndexByteString", "internal/bytealg.IndexString", "internal/abi.NoEscape", "internal/bytealg.CountString"], unfollowed := true, recurses := true, named := ["internal/bytealg.MaxLen", "unicode/utf8.first", "unicode/utf8.acceptRanges"], apart := false, laid := [("unicode/utf8.acceptRanges", laid_unicode_utf8_acceptRanges), ("unicode/utf8.first", laid_unicode_utf8_first)] }
def AagCutsSaid : Prop := aagCutsRow.holds Tryd.pinned (OpenSpec.ofChange aagCutsSpec)

/-- ITS FALSE NEIGHBOUR: 'it returns false'. Refute it at one input. -/
def aagCutsWrong : ChangeSpec := { name := "aagCuts", fn := fun _ => fun
  | [d1, d2] => { results := [.lit (.bool false)], args := [d1, d2] }
  | _ => none }
def AagCutsWrongFalsely : Prop := aagCutsRow.holds Tryd.pinned (OpenSpec.ofChange aagCutsWrong)

/-- 'interlocklaw04.AagComments': WHATEVER THE INPUT: true; the input reads as it did. -/
def aagCommentsSpec : ChangeSpec := { name := "aagComments", fn := fun _ => fun
  | [d1, d2] => { results := [.lit (.bool true)], args := [d1, d2] }
  | _ => none }
def aagCommentsRow : OpenClaim := { program := "ytjcaejdokillgaadoor", sum := "9a9d07e42b5119af3aec6a55161a951d77a007e70146559dc1e90071a3100586", func := "interlock/interlocklaw04.AagComments", spec := "aagComments", inPlace := ["internal/bytealg.IndexByteString", "internal/bytealg.IndexString", "internal/abi.NoEscape", "internal/bytealg.CountString"], unfollowed := true, recurses := true, named := ["internal/bytealg.MaxLen", "unicode/utf8.first", "unicode/utf8.acceptRanges"], apart := false, laid := [("unicode/utf8.acceptRanges", laid_unicode_utf8_acceptRanges), ("unicode/utf8.first", laid_unicode_utf8_first)] }
def AagCommentsSaid : Prop := aagCommentsRow.holds Tryd.pinned (OpenSpec.ofChange aagCommentsSpec)

/-- ITS FALSE NEIGHBOUR: 'it returns false'. Refute it at one input. -/
def aagCommentsWrong : ChangeSpec := { name := "aagComments", fn := fun _ => fun
  | [d1, d2] => { results := [.lit (.bool false)], args := [d1, d2] }
  | _ => none }
def AagCommentsWrongFalsely : Prop := aagCommentsRow.holds Tryd.pinned (OpenSpec.ofChange aagCommentsWrong)

/-- 'interlocklaw32.CommandBlanks': WHATEVER THE INPUT: true; the input reads as it did. -/
def commandBlanksSpec : ChangeSpec := { name := "commandBlanks", fn := fun _ => fun
  | [d] => { results := [.lit (.bool true)], args := [d] }
  | _ => none }
def commandBlanksRow : OpenClaim := { program := "ytjcaejdokillgaadoor", sum := "9a9d07e42b5119af3aec6a55161a951d77a007e70146559dc1e90071a3100586", func := "interlock/interlocklaw32.CommandBlanks", spec := "commandBlanks", inPlace := ["internal/bytealg.CountString", "internal/bytealg.IndexByteString", "internal/bytealg.IndexString"], unfollowed := true, recurses := true, named := ["unicode/utf8.first", "unicode/utf8.acceptRanges", "internal/bytealg.MaxLen"], apart := false, laid := [("unicode/utf8.acceptRanges", laid_unicode_utf8_acceptRanges), ("unicode/utf8.first", laid_unicode_utf8_first)] }
def CommandBlanksSaid : Prop := commandBlanksRow.holds Tryd.pinned (OpenSpec.ofChange commandBlanksSpec)

/-- ITS FALSE NEIGHBOUR: 'it returns false'. Refute it at one input. -/
def commandBlanksWrong : ChangeSpec := { name := "commandBlanks", fn := fun _ => fun
  | [d] => { results := [.lit (.bool false)], args := [d] }
  | _ => none }
def CommandBlanksWrongFalsely : Prop := commandBlanksRow.holds Tryd.pinned (OpenSpec.ofChange commandBlanksWrong)

/-- 'interlocklaw05.AigBack': WHATEVER THE INPUT: true; the input reads as it did. -/
def aigBackSpec : ChangeSpec := { name := "aigBack", fn := fun _ => fun
  | [d1, d2] => { results := [.lit (.bool true)], args := [d1, d2] }
  | _ => none }
def aigBackRow : OpenClaim := { program := "ytjcaejdokillgaadoor", sum := "9a9d07e42b5119af3aec6a55161a951d77a007e70146559dc1e90071a3100586", func := "interlock/interlocklaw05.AigBack", spec := "aigBack", inPlace := ["internal/bytealg.IndexByteString", "internal/bytealg.IndexString", "internal/abi.NoEscape", "internal/bytealg.MakeNoZero", "internal/bytealg.CountString"], unfollowed := true, recurses := true, named := ["internal/bytealg.MaxLen", "unicode/utf8.first", "unicode/utf8.acceptRanges"], apart := false, laid := [("unicode/utf8.acceptRanges", laid_unicode_utf8_acceptRanges), ("unicode/utf8.first", laid_unicode_utf8_first)] }
def AigBackSaid : Prop := aigBackRow.holds Tryd.pinned (OpenSpec.ofChange aigBackSpec)

/-- ITS FALSE NEIGHBOUR: 'it returns false'. Refute it at one input. -/
def aigBackWrong : ChangeSpec := { name := "aigBack", fn := fun _ => fun
  | [d1, d2] => { results := [.lit (.bool false)], args := [d1, d2] }
  | _ => none }
def AigBackWrongFalsely : Prop := aigBackRow.holds Tryd.pinned (OpenSpec.ofChange aigBackWrong)

/-- 'interlocklaw05.AigCuts': WHATEVER THE INPUT: true; the input reads as it did. -/
def aigCutsSpec : ChangeSpec := { name := "aigCuts", fn := fun _ => fun
  | [d1, d2] => { results := [.lit (.bool true)], args := [d1, d2] }
  | _ => none }
def aigCutsRow : OpenClaim := { program := "ytjcaejdokillgaadoor", sum := "9a9d07e42b5119af3aec6a55161a951d77a007e70146559dc1e90071a3100586", func := "interlock/interlocklaw05.AigCuts", spec := "aigCuts", inPlace := ["internal/bytealg.IndexByteString", "internal/bytealg.IndexString", "internal/abi.NoEscape", "internal/bytealg.MakeNoZero", "internal/bytealg.CountString"], unfollowed := true, recurses := true, named := ["internal/bytealg.MaxLen", "unicode/utf8.first", "unicode/utf8.acceptRanges"], apart := false, laid := [("unicode/utf8.acceptRanges", laid_unicode_utf8_acceptRanges), ("unicode/utf8.first", laid_unicode_utf8_first)] }
def AigCutsSaid : Prop := aigCutsRow.holds Tryd.pinned (OpenSpec.ofChange aigCutsSpec)

/-- ITS FALSE NEIGHBOUR: 'it returns false'. Refute it at one input. -/
def aigCutsWrong : ChangeSpec := { name := "aigCuts", fn := fun _ => fun
  | [d1, d2] => { results := [.lit (.bool false)], args := [d1, d2] }
  | _ => none }
def AigCutsWrongFalsely : Prop := aigCutsRow.holds Tryd.pinned (OpenSpec.ofChange aigCutsWrong)

/- THE SECOND FORM. 'bulk': how many values and letters a reading holds, each counted each time it is reached (what is shared counts as often as it is met; a slice's spare places count too). A statement '..UptoSaid' is the law's where the arguments, and the package variables that the reading takes, are together of bulk at most 1048576: NARROWER than '..Said'. Prove '..Said' where nothing that the law and all that it calls make is longer than what came in: it says more and counts as full. Else prove '..UptoSaid'. A law counts once. -/
mutual
def uptoBulk {H : Type} : DataW H → Nat
  | .lit (.string bytes) => bytes.length + 1
  | .lit _ => 1
  | .nil => 1
  | .ptr d => uptoBulk d + 1
  | .slice elems spare => uptoBulkAll elems + uptoBulkAll spare + 1
  | .agg parts => uptoBulkAll parts + 1
  | .iface _ d => uptoBulk d + 1
  | .map entries => uptoBulkEntries entries + 1
  | .held _ => 1
def uptoBulkAll {H : Type} : List (DataW H) → Nat
  | [] => 0
  | d :: r => uptoBulk d + uptoBulkAll r
def uptoBulkEntries {H : Type} : List (Lit × DataW H) → Nat
  | [] => 0
  | x :: r => uptoBulkEntry x + uptoBulkEntries r
def uptoBulkEntry {H : Type} : Lit × DataW H → Nat
  | (.string bytes, d) => bytes.length + uptoBulk d + 1
  | (_, d) => uptoBulk d + 1
 end
def uptoSmall : (H : Type) → List (DataW H) → Bool := fun _ ds => decide (uptoBulkAll ds ≤ 1048576)
def OpenSpec.upto (s : _root_.Go.ChangeSpec) : _root_.Go.OpenSpec := { _root_.Go.OpenSpec.ofChange s with cond := some uptoSmall }

/-- 'interlocklaw04.AagBack', WHERE WHAT IT READS IS OF BULK AT MOST 1048576: true; the input reads as it did. -/
def aagBackUptoRow : OpenClaim := { program := "ytjcaejdokillgaadoor", sum := "9a9d07e42b5119af3aec6a55161a951d77a007e70146559dc1e90071a3100586", func := "interlock/interlocklaw04.AagBack", spec := "aagBack", inPlace := ["internal/bytealg.IndexByteString", "internal/bytealg.IndexString", "internal/abi.NoEscape", "internal/bytealg.CountString"], unfollowed := true, recurses := true, named := ["internal/bytealg.MaxLen", "unicode/utf8.first", "unicode/utf8.acceptRanges"], apart := false, laid := [("unicode/utf8.acceptRanges", laid_unicode_utf8_acceptRanges), ("unicode/utf8.first", laid_unicode_utf8_first)], narrowed := true }
def AagBackUptoSaid : Prop := aagBackUptoRow.holds Tryd.pinned (OpenSpec.upto aagBackSpec)

/-- 'interlocklaw04.AagCuts', WHERE WHAT IT READS IS OF BULK AT MOST 1048576: true; the input reads as it did. -/
def aagCutsUptoRow : OpenClaim := { program := "ytjcaejdokillgaadoor", sum := "9a9d07e42b5119af3aec6a55161a951d77a007e70146559dc1e90071a3100586", func := "interlock/interlocklaw04.AagCuts", spec := "aagCuts", inPlace := ["internal/bytealg.IndexByteString", "internal/bytealg.IndexString", "internal/abi.NoEscape", "internal/bytealg.CountString"], unfollowed := true, recurses := true, named := ["internal/bytealg.MaxLen", "unicode/utf8.first", "unicode/utf8.acceptRanges"], apart := false, laid := [("unicode/utf8.acceptRanges", laid_unicode_utf8_acceptRanges), ("unicode/utf8.first", laid_unicode_utf8_first)], narrowed := true }
def AagCutsUptoSaid : Prop := aagCutsUptoRow.holds Tryd.pinned (OpenSpec.upto aagCutsSpec)

/-- 'interlocklaw04.AagComments', WHERE WHAT IT READS IS OF BULK AT MOST 1048576: true; the input reads as it did. -/
def aagCommentsUptoRow : OpenClaim := { program := "ytjcaejdokillgaadoor", sum := "9a9d07e42b5119af3aec6a55161a951d77a007e70146559dc1e90071a3100586", func := "interlock/interlocklaw04.AagComments", spec := "aagComments", inPlace := ["internal/bytealg.IndexByteString", "internal/bytealg.IndexString", "internal/abi.NoEscape", "internal/bytealg.CountString"], unfollowed := true, recurses := true, named := ["internal/bytealg.MaxLen", "unicode/utf8.first", "unicode/utf8.acceptRanges"], apart := false, laid := [("unicode/utf8.acceptRanges", laid_unicode_utf8_acceptRanges), ("unicode/utf8.first", laid_unicode_utf8_first)], narrowed := true }
def AagCommentsUptoSaid : Prop := aagCommentsUptoRow.holds Tryd.pinned (OpenSpec.upto aagCommentsSpec)

/-- 'interlocklaw32.CommandBlanks', WHERE WHAT IT READS IS OF BULK AT MOST 1048576: true; the input reads as it did. -/
def commandBlanksUptoRow : OpenClaim := { program := "ytjcaejdokillgaadoor", sum := "9a9d07e42b5119af3aec6a55161a951d77a007e70146559dc1e90071a3100586", func := "interlock/interlocklaw32.CommandBlanks", spec := "commandBlanks", inPlace := ["internal/bytealg.CountString", "internal/bytealg.IndexByteString", "internal/bytealg.IndexString"], unfollowed := true, recurses := true, named := ["unicode/utf8.first", "unicode/utf8.acceptRanges", "internal/bytealg.MaxLen"], apart := false, laid := [("unicode/utf8.acceptRanges", laid_unicode_utf8_acceptRanges), ("unicode/utf8.first", laid_unicode_utf8_first)], narrowed := true }
def CommandBlanksUptoSaid : Prop := commandBlanksUptoRow.holds Tryd.pinned (OpenSpec.upto commandBlanksSpec)

/-- 'interlocklaw05.AigBack', WHERE WHAT IT READS IS OF BULK AT MOST 1048576: true; the input reads as it did. -/
def aigBackUptoRow : OpenClaim := { program := "ytjcaejdokillgaadoor", sum := "9a9d07e42b5119af3aec6a55161a951d77a007e70146559dc1e90071a3100586", func := "interlock/interlocklaw05.AigBack", spec := "aigBack", inPlace := ["internal/bytealg.IndexByteString", "internal/bytealg.IndexString", "internal/abi.NoEscape", "internal/bytealg.MakeNoZero", "internal/bytealg.CountString"], unfollowed := true, recurses := true, named := ["internal/bytealg.MaxLen", "unicode/utf8.first", "unicode/utf8.acceptRanges"], apart := false, laid := [("unicode/utf8.acceptRanges", laid_unicode_utf8_acceptRanges), ("unicode/utf8.first", laid_unicode_utf8_first)], narrowed := true }
def AigBackUptoSaid : Prop := aigBackUptoRow.holds Tryd.pinned (OpenSpec.upto aigBackSpec)

/-- 'interlocklaw05.AigCuts', WHERE WHAT IT READS IS OF BULK AT MOST 1048576: true; the input reads as it did. -/
def aigCutsUptoRow : OpenClaim := { program := "ytjcaejdokillgaadoor", sum := "9a9d07e42b5119af3aec6a55161a951d77a007e70146559dc1e90071a3100586", func := "interlock/interlocklaw05.AigCuts", spec := "aigCuts", inPlace := ["internal/bytealg.IndexByteString", "internal/bytealg.IndexString", "internal/abi.NoEscape", "internal/bytealg.MakeNoZero", "internal/bytealg.CountString"], unfollowed := true, recurses := true, named := ["internal/bytealg.MaxLen", "unicode/utf8.first", "unicode/utf8.acceptRanges"], apart := false, laid := [("unicode/utf8.acceptRanges", laid_unicode_utf8_acceptRanges), ("unicode/utf8.first", laid_unicode_utf8_first)], narrowed := true }
def AigCutsUptoSaid : Prop := aigCutsUptoRow.holds Tryd.pinned (OpenSpec.upto aigCutsSpec)

end Rows
end Go.Proofs.YtjcaejdokillgaaDoor
