/-
  NARROWER THAN 'FOR EVERY INPUT', by the rows' own cells (each row's printed sentence says how): MiterShifts: laid · MiterSelf: laid · MiterJoins: laid · MiterDiffers: laid.
  DERIVED. THE GIVEN ROWS OF THIS SEAT. 4 by the template 'for every input the law returns true; each argument reads behind the call as it read before'; 0 by the template 'total and deterministic' (their statements: YtpkaoabpifeigaaGreatDoorTotals.lean).
  GIVEN WITH THE SEED: the statements are not yours to turn. If you find one false, say at which input.
  Laid BY PROGRAM, IN A SANDBOX (cutbox-rows.mjs): the forced cells as the released guide's own fill.sh prints them over the translation 32857ccb5f460071… (all of the seat's roots in one cut). By AI agents, Wed Nov 11 2026. No macro, syntax, notation, axiom, sorry.
-/
import Derived.Test.YtpkaoabpifeigaaGreatDoorChecked
import GoSem.PinnedTables
import GoSem.Claim
import GoSem.ClaimJoined
import GoSem.ClaimMapViews
import Derived.JoinedTies
import Derived.KernelRfl
namespace Go.Proofs.YtpkaoabpifeigaaGreatDoor
/- THE CELL 'sum', in the pinned program and in every row, IS THE sha256 OF THE DUMP (.gsa) THAT YtpkaoabpifeigaaGreatDoorProg.lean LOADS. Nothing in Lean hashes anything: it is a label: what it is worth is what the hold of that sum in a sandbox is worth. -/
noncomputable def Tryz.pinned : Pinned := { name := "ytpkaoabpifeigaagreatdoor", sum := "32857ccb5f460071eff3021644fd39d08701cc997615447dfbb98bab79670bbd", checked := Tryz.checked }
namespace Rows
def none {H : Type} : Left H := { results := [], args := [] }

/- WHAT THE LISTED PACKAGE-LEVEL VARIABLES READ AS WHEN THE CALL BEGINS. Each datum BY PROGRAM (the guide's laid-datum.mjs) off the statement by which the dump's own 'gosem.cut.vars' lays the variable. In a bare row this is a premise. The card (YtpkaoabpifeigaaGreatDoorCards.lean) ties it to the program's text. -/
def laid_unicode_utf8_acceptRanges {H : Type} : DataW H := .agg [.agg [.lit (.int .u8 128), .lit (.int .u8 191)], .agg [.lit (.int .u8 160), .lit (.int .u8 191)], .agg [.lit (.int .u8 128), .lit (.int .u8 159)], .agg [.lit (.int .u8 144), .lit (.int .u8 191)], .agg [.lit (.int .u8 128), .lit (.int .u8 143)], .agg [.lit (.int .u8 0), .lit (.int .u8 0)], .agg [.lit (.int .u8 0), .lit (.int .u8 0)], .agg [.lit (.int .u8 0), .lit (.int .u8 0)], .agg [.lit (.int .u8 0), .lit (.int .u8 0)], .agg [.lit (.int .u8 0), .lit (.int .u8 0)], .agg [.lit (.int .u8 0), .lit (.int .u8 0)], .agg [.lit (.int .u8 0), .lit (.int .u8 0)], .agg [.lit (.int .u8 0), .lit (.int .u8 0)], .agg [.lit (.int .u8 0), .lit (.int .u8 0)], .agg [.lit (.int .u8 0), .lit (.int .u8 0)], .agg [.lit (.int .u8 0), .lit (.int .u8 0)]]
/-- One of Go's own tables, pinned by name: the form's constant. -/
def laid_unicode_utf8_first : DataW Unit := Go.Pinned.utf8First

/-- 'interlocklaw36.MiterShifts': WHATEVER THE INPUT: true; the input reads as it did. -/
def miterShiftsSpec : ChangeSpec := { name := "miterShifts", fn := fun _ => fun
  | [d1, d2, d3] => { results := [.lit (.bool true)], args := [d1, d2, d3] }
  | _ => none }
def miterShiftsRow : OpenClaim := { program := "ytpkaoabpifeigaagreatdoor", sum := "32857ccb5f460071eff3021644fd39d08701cc997615447dfbb98bab79670bbd", func := "interlock/interlocklaw36.MiterShifts", spec := "miterShifts", inPlace := ["internal/bytealg.IndexByteString", "internal/bytealg.IndexString", "internal/abi.NoEscape", "internal/bytealg.MakeNoZero"], unfollowed := true, recurses := true, named := ["internal/bytealg.MaxLen", "unicode/utf8.first", "unicode/utf8.acceptRanges"], apart := false, laid := [("unicode/utf8.acceptRanges", laid_unicode_utf8_acceptRanges), ("unicode/utf8.first", laid_unicode_utf8_first)] }
def MiterShiftsSaid : Prop := miterShiftsRow.holds Tryz.pinned (OpenSpec.ofChange miterShiftsSpec)

/-- ITS FALSE NEIGHBOUR: 'it returns false'. Refute it at one input. -/
def miterShiftsWrong : ChangeSpec := { name := "miterShifts", fn := fun _ => fun
  | [d1, d2, d3] => { results := [.lit (.bool false)], args := [d1, d2, d3] }
  | _ => none }
def MiterShiftsWrongFalsely : Prop := miterShiftsRow.holds Tryz.pinned (OpenSpec.ofChange miterShiftsWrong)

/-- 'interlocklaw36.MiterSelf': WHATEVER THE INPUT: true; the input reads as it did. -/
def miterSelfSpec : ChangeSpec := { name := "miterSelf", fn := fun _ => fun
  | [d1, d2] => { results := [.lit (.bool true)], args := [d1, d2] }
  | _ => none }
def miterSelfRow : OpenClaim := { program := "ytpkaoabpifeigaagreatdoor", sum := "32857ccb5f460071eff3021644fd39d08701cc997615447dfbb98bab79670bbd", func := "interlock/interlocklaw36.MiterSelf", spec := "miterSelf", inPlace := ["internal/bytealg.IndexByteString", "internal/bytealg.IndexString", "internal/abi.NoEscape", "internal/bytealg.MakeNoZero"], unfollowed := true, recurses := true, named := ["internal/bytealg.MaxLen", "unicode/utf8.first", "unicode/utf8.acceptRanges"], apart := false, laid := [("unicode/utf8.acceptRanges", laid_unicode_utf8_acceptRanges), ("unicode/utf8.first", laid_unicode_utf8_first)] }
def MiterSelfSaid : Prop := miterSelfRow.holds Tryz.pinned (OpenSpec.ofChange miterSelfSpec)

/-- ITS FALSE NEIGHBOUR: 'it returns false'. Refute it at one input. -/
def miterSelfWrong : ChangeSpec := { name := "miterSelf", fn := fun _ => fun
  | [d1, d2] => { results := [.lit (.bool false)], args := [d1, d2] }
  | _ => none }
def MiterSelfWrongFalsely : Prop := miterSelfRow.holds Tryz.pinned (OpenSpec.ofChange miterSelfWrong)

/-- 'interlocklaw36.MiterJoins': WHATEVER THE INPUT: true; the input reads as it did. -/
def miterJoinsSpec : ChangeSpec := { name := "miterJoins", fn := fun _ => fun
  | [d1, d2, d3, d4, d5] => { results := [.lit (.bool true)], args := [d1, d2, d3, d4, d5] }
  | _ => none }
def miterJoinsRow : OpenClaim := { program := "ytpkaoabpifeigaagreatdoor", sum := "32857ccb5f460071eff3021644fd39d08701cc997615447dfbb98bab79670bbd", func := "interlock/interlocklaw36.MiterJoins", spec := "miterJoins", inPlace := ["internal/bytealg.IndexByteString", "internal/bytealg.IndexString", "internal/abi.NoEscape", "internal/bytealg.MakeNoZero"], unfollowed := true, recurses := true, named := ["internal/bytealg.MaxLen", "unicode/utf8.first", "unicode/utf8.acceptRanges"], apart := false, laid := [("unicode/utf8.acceptRanges", laid_unicode_utf8_acceptRanges), ("unicode/utf8.first", laid_unicode_utf8_first)] }
def MiterJoinsSaid : Prop := miterJoinsRow.holds Tryz.pinned (OpenSpec.ofChange miterJoinsSpec)

/-- ITS FALSE NEIGHBOUR: 'it returns false'. Refute it at one input. -/
def miterJoinsWrong : ChangeSpec := { name := "miterJoins", fn := fun _ => fun
  | [d1, d2, d3, d4, d5] => { results := [.lit (.bool false)], args := [d1, d2, d3, d4, d5] }
  | _ => none }
def MiterJoinsWrongFalsely : Prop := miterJoinsRow.holds Tryz.pinned (OpenSpec.ofChange miterJoinsWrong)

/-- 'interlocklaw36.MiterDiffers': WHATEVER THE INPUT: true; the input reads as it did. -/
def miterDiffersSpec : ChangeSpec := { name := "miterDiffers", fn := fun _ => fun
  | [d1, d2, d3] => { results := [.lit (.bool true)], args := [d1, d2, d3] }
  | _ => none }
def miterDiffersRow : OpenClaim := { program := "ytpkaoabpifeigaagreatdoor", sum := "32857ccb5f460071eff3021644fd39d08701cc997615447dfbb98bab79670bbd", func := "interlock/interlocklaw36.MiterDiffers", spec := "miterDiffers", inPlace := ["internal/bytealg.IndexByteString", "internal/bytealg.IndexString", "internal/abi.NoEscape", "internal/bytealg.MakeNoZero"], unfollowed := true, recurses := true, named := ["internal/bytealg.MaxLen", "unicode/utf8.first", "unicode/utf8.acceptRanges"], apart := false, laid := [("unicode/utf8.acceptRanges", laid_unicode_utf8_acceptRanges), ("unicode/utf8.first", laid_unicode_utf8_first)] }
def MiterDiffersSaid : Prop := miterDiffersRow.holds Tryz.pinned (OpenSpec.ofChange miterDiffersSpec)

/-- ITS FALSE NEIGHBOUR: 'it returns false'. Refute it at one input. -/
def miterDiffersWrong : ChangeSpec := { name := "miterDiffers", fn := fun _ => fun
  | [d1, d2, d3] => { results := [.lit (.bool false)], args := [d1, d2, d3] }
  | _ => none }
def MiterDiffersWrongFalsely : Prop := miterDiffersRow.holds Tryz.pinned (OpenSpec.ofChange miterDiffersWrong)

/- THE SECOND FORM. 'bulk': how many values and letters a reading holds, each counted each time it is reached (what is shared counts as often as it is met; a slice's spare places count too). A statement '..UptoSaid' is the law's where the arguments, and the package variables that the reading takes, are together of bulk at most 1048576: NARROWER than '..Said'. Prove '..Said' where nothing that the law and all that it calls make is longer than what came in: it says more and counts as full. Else prove '..UptoSaid'. A law counts once. -/
mutual
def uptoBulk {H : Type} : DataW H → Nat
  | .lit (.string bytes) => bytes.length + 1
  | .lit _ => 1
  | .nil => 1
  | .ptr d => uptoBulk d + 1
  | .slice elems spare => uptoBulkAll elems + uptoBulkAll spare + 1
  | .agg parts => uptoBulkAll parts + 1
  | .iface _ d => uptoBulk d + 1
  | .map entries => uptoBulkEntries entries + 1
  | .held _ => 1
def uptoBulkAll {H : Type} : List (DataW H) → Nat
  | [] => 0
  | d :: r => uptoBulk d + uptoBulkAll r
def uptoBulkEntries {H : Type} : List (Lit × DataW H) → Nat
  | [] => 0
  | x :: r => uptoBulkEntry x + uptoBulkEntries r
def uptoBulkEntry {H : Type} : Lit × DataW H → Nat
  | (.string bytes, d) => bytes.length + uptoBulk d + 1
  | (_, d) => uptoBulk d + 1
 end
def uptoSmall : (H : Type) → List (DataW H) → Bool := fun _ ds => decide (uptoBulkAll ds ≤ 1048576)
def OpenSpec.upto (s : _root_.Go.ChangeSpec) : _root_.Go.OpenSpec := { _root_.Go.OpenSpec.ofChange s with cond := some uptoSmall }

/-- 'interlocklaw36.MiterShifts', WHERE WHAT IT READS IS OF BULK AT MOST 1048576: true; the input reads as it did. -/
def miterShiftsUptoRow : OpenClaim := { program := "ytpkaoabpifeigaagreatdoor", sum := "32857ccb5f460071eff3021644fd39d08701cc997615447dfbb98bab79670bbd", func := "interlock/interlocklaw36.MiterShifts", spec := "miterShifts", inPlace := ["internal/bytealg.IndexByteString", "internal/bytealg.IndexString", "internal/abi.NoEscape", "internal/bytealg.MakeNoZero"], unfollowed := true, recurses := true, named := ["internal/bytealg.MaxLen", "unicode/utf8.first", "unicode/utf8.acceptRanges"], apart := false, laid := [("unicode/utf8.acceptRanges", laid_unicode_utf8_acceptRanges), ("unicode/utf8.first", laid_unicode_utf8_first)], narrowed := true }
def MiterShiftsUptoSaid : Prop := miterShiftsUptoRow.holds Tryz.pinned (OpenSpec.upto miterShiftsSpec)

/-- 'interlocklaw36.MiterSelf', WHERE WHAT IT READS IS OF BULK AT MOST 1048576: true; the input reads as it did. -/
def miterSelfUptoRow : OpenClaim := { program := "ytpkaoabpifeigaagreatdoor", sum := "32857ccb5f460071eff3021644fd39d08701cc997615447dfbb98bab79670bbd", func := "interlock/interlocklaw36.MiterSelf", spec := "miterSelf", inPlace := ["internal/bytealg.IndexByteString", "internal/bytealg.IndexString", "internal/abi.NoEscape", "internal/bytealg.MakeNoZero"], unfollowed := true, recurses := true, named := ["internal/bytealg.MaxLen", "unicode/utf8.first", "unicode/utf8.acceptRanges"], apart := false, laid := [("unicode/utf8.acceptRanges", laid_unicode_utf8_acceptRanges), ("unicode/utf8.first", laid_unicode_utf8_first)], narrowed := true }
def MiterSelfUptoSaid : Prop := miterSelfUptoRow.holds Tryz.pinned (OpenSpec.upto miterSelfSpec)

/-- 'interlocklaw36.MiterJoins', WHERE WHAT IT READS IS OF BULK AT MOST 1048576: true; the input reads as it did. -/
def miterJoinsUptoRow : OpenClaim := { program := "ytpkaoabpifeigaagreatdoor", sum := "32857ccb5f460071eff3021644fd39d08701cc997615447dfbb98bab79670bbd", func := "interlock/interlocklaw36.MiterJoins", spec := "miterJoins", inPlace := ["internal/bytealg.IndexByteString", "internal/bytealg.IndexString", "internal/abi.NoEscape", "internal/bytealg.MakeNoZero"], unfollowed := true, recurses := true, named := ["internal/bytealg.MaxLen", "unicode/utf8.first", "unicode/utf8.acceptRanges"], apart := false, laid := [("unicode/utf8.acceptRanges", laid_unicode_utf8_acceptRanges), ("unicode/utf8.first", laid_unicode_utf8_first)], narrowed := true }
def MiterJoinsUptoSaid : Prop := miterJoinsUptoRow.holds Tryz.pinned (OpenSpec.upto miterJoinsSpec)

/-- 'interlocklaw36.MiterDiffers', WHERE WHAT IT READS IS OF BULK AT MOST 1048576: true; the input reads as it did. -/
def miterDiffersUptoRow : OpenClaim := { program := "ytpkaoabpifeigaagreatdoor", sum := "32857ccb5f460071eff3021644fd39d08701cc997615447dfbb98bab79670bbd", func := "interlock/interlocklaw36.MiterDiffers", spec := "miterDiffers", inPlace := ["internal/bytealg.IndexByteString", "internal/bytealg.IndexString", "internal/abi.NoEscape", "internal/bytealg.MakeNoZero"], unfollowed := true, recurses := true, named := ["internal/bytealg.MaxLen", "unicode/utf8.first", "unicode/utf8.acceptRanges"], apart := false, laid := [("unicode/utf8.acceptRanges", laid_unicode_utf8_acceptRanges), ("unicode/utf8.first", laid_unicode_utf8_first)], narrowed := true }
def MiterDiffersUptoSaid : Prop := miterDiffersUptoRow.holds Tryz.pinned (OpenSpec.upto miterDiffersSpec)

end Rows
end Go.Proofs.YtpkaoabpifeigaaGreatDoor
