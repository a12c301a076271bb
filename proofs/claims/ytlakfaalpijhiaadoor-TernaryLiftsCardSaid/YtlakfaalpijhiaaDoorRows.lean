/-
  NARROWER THAN 'FOR EVERY INPUT', by the rows' own cells (each row's printed sentence says how): TernarySound: laid · TernaryTells: laid · TernaryMore: laid · TernaryAlways: laid · TernaryLifts: laid.
  DERIVED. THE GIVEN ROWS OF THIS SEAT. 5 by the template 'for every input the law returns true; each argument reads behind the call as it read before'; 0 by the template 'total and deterministic' (their statements: YtlakfaalpijhiaaDoorTotals.lean).
  GIVEN WITH THE SEED: the statements are not yours to turn. If you find one false, say at which input.
  Laid BY PROGRAM, IN A SANDBOX (cutbox-rows.mjs): the forced cells as the released guide's own fill.sh prints them over the translation 2ba89d22c3fbc767… (all of the seat's roots in one cut). By AI agents, Wed Nov 11 2026. No macro, syntax, notation, axiom, sorry.
-/
import Derived.Test.YtlakfaalpijhiaaDoorChecked
import GoSem.PinnedTables
import GoSem.Claim
import GoSem.ClaimJoined
import GoSem.ClaimMapViews
import Derived.JoinedTies
import Derived.KernelRfl
namespace Go.Proofs.YtlakfaalpijhiaaDoor
/- THE CELL 'sum', in the pinned program and in every row, IS THE sha256 OF THE DUMP (.gsa) THAT YtlakfaalpijhiaaDoorProg.lean LOADS. Nothing in Lean hashes anything: it is a label: what it is worth is what the hold of that sum in a sandbox is worth. -/
noncomputable def Tryd.pinned : Pinned := { name := "ytlakfaalpijhiaadoor", sum := "2ba89d22c3fbc7675d48423a9eac3ef269bd640010f5d18744a6d82bef3b6cfe", checked := Tryd.checked }
namespace Rows
def none {H : Type} : Left H := { results := [], args := [] }

/- WHAT THE LISTED PACKAGE-LEVEL VARIABLES READ AS WHEN THE CALL BEGINS. Each datum BY PROGRAM (the guide's laid-datum.mjs) off the statement by which the dump's own 'gosem.cut.vars' lays the variable. In a bare row this is a premise. The card (YtlakfaalpijhiaaDoorCards.lean) ties it to the program's text. -/
def laid_unicode_utf8_acceptRanges {H : Type} : DataW H := .agg [.agg [.lit (.int .u8 128), .lit (.int .u8 191)], .agg [.lit (.int .u8 160), .lit (.int .u8 191)], .agg [.lit (.int .u8 128), .lit (.int .u8 159)], .agg [.lit (.int .u8 144), .lit (.int .u8 191)], .agg [.lit (.int .u8 128), .lit (.int .u8 143)], .agg [.lit (.int .u8 0), .lit (.int .u8 0)], .agg [.lit (.int .u8 0), .lit (.int .u8 0)], .agg [.lit (.int .u8 0), .lit (.int .u8 0)], .agg [.lit (.int .u8 0), .lit (.int .u8 0)], .agg [.lit (.int .u8 0), .lit (.int .u8 0)], .agg [.lit (.int .u8 0), .lit (.int .u8 0)], .agg [.lit (.int .u8 0), .lit (.int .u8 0)], .agg [.lit (.int .u8 0), .lit (.int .u8 0)], .agg [.lit (.int .u8 0), .lit (.int .u8 0)], .agg [.lit (.int .u8 0), .lit (.int .u8 0)], .agg [.lit (.int .u8 0), .lit (.int .u8 0)]]
/-- One of Go's own tables, pinned by name: the form's constant. -/
def laid_unicode_utf8_first : DataW Unit := Go.Pinned.utf8First

/-- 'interlocklaw08.TernarySound': WHATEVER THE INPUT: true; the input reads as it did. -/
def ternarySoundSpec : ChangeSpec := { name := "ternarySound", fn := fun _ => fun
  | [d1, d2, d3, d4, d5] => { results := [.lit (.bool true)], args := [d1, d2, d3, d4, d5] }
  | _ => none }
def ternarySoundRow : OpenClaim := { program := "ytlakfaalpijhiaadoor", sum := "2ba89d22c3fbc7675d48423a9eac3ef269bd640010f5d18744a6d82bef3b6cfe", func := "interlock/interlocklaw08.TernarySound", spec := "ternarySound", inPlace := ["internal/bytealg.IndexByteString", "internal/bytealg.IndexString"], unfollowed := true, recurses := true, named := ["internal/bytealg.MaxLen", "unicode/utf8.first", "unicode/utf8.acceptRanges"], apart := false, laid := [("unicode/utf8.acceptRanges", laid_unicode_utf8_acceptRanges), ("unicode/utf8.first", laid_unicode_utf8_first)] }
def TernarySoundSaid : Prop := ternarySoundRow.holds Tryd.pinned (OpenSpec.ofChange ternarySoundSpec)

/-- ITS FALSE NEIGHBOUR: 'it returns false'. Refute it at one input. -/
def ternarySoundWrong : ChangeSpec := { name := "ternarySound", fn := fun _ => fun
  | [d1, d2, d3, d4, d5] => { results := [.lit (.bool false)], args := [d1, d2, d3, d4, d5] }
  | _ => none }
def TernarySoundWrongFalsely : Prop := ternarySoundRow.holds Tryd.pinned (OpenSpec.ofChange ternarySoundWrong)

/-- 'interlocklaw08.TernaryTells': WHATEVER THE INPUT: true; the input reads as it did. -/
def ternaryTellsSpec : ChangeSpec := { name := "ternaryTells", fn := fun _ => fun
  | [d1, d2, d3, d4] => { results := [.lit (.bool true)], args := [d1, d2, d3, d4] }
  | _ => none }
def ternaryTellsRow : OpenClaim := { program := "ytlakfaalpijhiaadoor", sum := "2ba89d22c3fbc7675d48423a9eac3ef269bd640010f5d18744a6d82bef3b6cfe", func := "interlock/interlocklaw08.TernaryTells", spec := "ternaryTells", inPlace := ["internal/bytealg.IndexByteString", "internal/bytealg.IndexString", "internal/abi.NoEscape"], unfollowed := true, recurses := true, named := ["internal/bytealg.MaxLen", "unicode/utf8.first", "unicode/utf8.acceptRanges"], apart := false, laid := [("unicode/utf8.acceptRanges", laid_unicode_utf8_acceptRanges), ("unicode/utf8.first", laid_unicode_utf8_first)] }
def TernaryTellsSaid : Prop := ternaryTellsRow.holds Tryd.pinned (OpenSpec.ofChange ternaryTellsSpec)

/-- ITS FALSE NEIGHBOUR: 'it returns false'. Refute it at one input. -/
def ternaryTellsWrong : ChangeSpec := { name := "ternaryTells", fn := fun _ => fun
  | [d1, d2, d3, d4] => { results := [.lit (.bool false)], args := [d1, d2, d3, d4] }
  | _ => none }
def TernaryTellsWrongFalsely : Prop := ternaryTellsRow.holds Tryd.pinned (OpenSpec.ofChange ternaryTellsWrong)

/-- 'interlocklaw08.TernaryMore': WHATEVER THE INPUT: true; the input reads as it did. -/
def ternaryMoreSpec : ChangeSpec := { name := "ternaryMore", fn := fun _ => fun
  | [d1, d2, d3, d4] => { results := [.lit (.bool true)], args := [d1, d2, d3, d4] }
  | _ => none }
def ternaryMoreRow : OpenClaim := { program := "ytlakfaalpijhiaadoor", sum := "2ba89d22c3fbc7675d48423a9eac3ef269bd640010f5d18744a6d82bef3b6cfe", func := "interlock/interlocklaw08.TernaryMore", spec := "ternaryMore", inPlace := ["internal/bytealg.IndexByteString", "internal/bytealg.IndexString", "internal/abi.NoEscape"], unfollowed := true, recurses := true, named := ["internal/bytealg.MaxLen", "unicode/utf8.first", "unicode/utf8.acceptRanges"], apart := false, laid := [("unicode/utf8.acceptRanges", laid_unicode_utf8_acceptRanges), ("unicode/utf8.first", laid_unicode_utf8_first)] }
def TernaryMoreSaid : Prop := ternaryMoreRow.holds Tryd.pinned (OpenSpec.ofChange ternaryMoreSpec)

/-- ITS FALSE NEIGHBOUR: 'it returns false'. Refute it at one input. -/
def ternaryMoreWrong : ChangeSpec := { name := "ternaryMore", fn := fun _ => fun
  | [d1, d2, d3, d4] => { results := [.lit (.bool false)], args := [d1, d2, d3, d4] }
  | _ => none }
def TernaryMoreWrongFalsely : Prop := ternaryMoreRow.holds Tryd.pinned (OpenSpec.ofChange ternaryMoreWrong)

/-- 'interlocklaw08.TernaryAlways': WHATEVER THE INPUT: true; the input reads as it did. -/
def ternaryAlwaysSpec : ChangeSpec := { name := "ternaryAlways", fn := fun _ => fun
  | [d1, d2, d3] => { results := [.lit (.bool true)], args := [d1, d2, d3] }
  | _ => none }
def ternaryAlwaysRow : OpenClaim := { program := "ytlakfaalpijhiaadoor", sum := "2ba89d22c3fbc7675d48423a9eac3ef269bd640010f5d18744a6d82bef3b6cfe", func := "interlock/interlocklaw08.TernaryAlways", spec := "ternaryAlways", inPlace := ["internal/bytealg.IndexByteString", "internal/bytealg.IndexString", "internal/abi.NoEscape", "internal/bytealg.MakeNoZero"], unfollowed := true, recurses := true, named := ["internal/bytealg.MaxLen", "unicode/utf8.first", "unicode/utf8.acceptRanges"], apart := false, laid := [("unicode/utf8.acceptRanges", laid_unicode_utf8_acceptRanges), ("unicode/utf8.first", laid_unicode_utf8_first)] }
def TernaryAlwaysSaid : Prop := ternaryAlwaysRow.holds Tryd.pinned (OpenSpec.ofChange ternaryAlwaysSpec)

/-- ITS FALSE NEIGHBOUR: 'it returns false'. Refute it at one input. -/
def ternaryAlwaysWrong : ChangeSpec := { name := "ternaryAlways", fn := fun _ => fun
  | [d1, d2, d3] => { results := [.lit (.bool false)], args := [d1, d2, d3] }
  | _ => none }
def TernaryAlwaysWrongFalsely : Prop := ternaryAlwaysRow.holds Tryd.pinned (OpenSpec.ofChange ternaryAlwaysWrong)

/-- 'interlocklaw08.TernaryLifts': WHATEVER THE INPUT: true; the input reads as it did. -/
def ternaryLiftsSpec : ChangeSpec := { name := "ternaryLifts", fn := fun _ => fun
  | [d1, d2, d3, d4, d5] => { results := [.lit (.bool true)], args := [d1, d2, d3, d4, d5] }
  | _ => none }
def ternaryLiftsRow : OpenClaim := { program := "ytlakfaalpijhiaadoor", sum := "2ba89d22c3fbc7675d48423a9eac3ef269bd640010f5d18744a6d82bef3b6cfe", func := "interlock/interlocklaw08.TernaryLifts", spec := "ternaryLifts", inPlace := ["internal/bytealg.IndexByteString", "internal/bytealg.IndexString", "internal/abi.NoEscape", "internal/bytealg.MakeNoZero"], unfollowed := true, recurses := true, named := ["internal/bytealg.MaxLen", "unicode/utf8.first", "unicode/utf8.acceptRanges"], apart := false, laid := [("unicode/utf8.acceptRanges", laid_unicode_utf8_acceptRanges), ("unicode/utf8.first", laid_unicode_utf8_first)] }
def TernaryLiftsSaid : Prop := ternaryLiftsRow.holds Tryd.pinned (OpenSpec.ofChange ternaryLiftsSpec)

/-- ITS FALSE NEIGHBOUR: 'it returns false'. Refute it at one input. -/
def ternaryLiftsWrong : ChangeSpec := { name := "ternaryLifts", fn := fun _ => fun
  | [d1, d2, d3, d4, d5] => { results := [.lit (.bool false)], args := [d1, d2, d3, d4, d5] }
  | _ => none }
def TernaryLiftsWrongFalsely : Prop := ternaryLiftsRow.holds Tryd.pinned (OpenSpec.ofChange ternaryLiftsWrong)

/- THE SECOND FORM. 'bulk': how many values and letters a reading holds, each counted each time it is reached (what is shared counts as often as it is met; a slice's spare places count too). A statement '..UptoSaid' is the law's where the arguments, and the package variables that the reading takes, are together of bulk at most 1048576: NARROWER than '..Said'. Prove '..Said' where nothing that the law and all that it calls make is longer than what came in: it says more and counts as full. Else prove '..UptoSaid'. A law counts once. -/
mutual
def uptoBulk {H : Type} : DataW H → Nat
  | .lit (.string bytes) => bytes.length + 1
  | .lit _ => 1
  | .nil => 1
  | .ptr d => uptoBulk d + 1
  | .slice elems spare => uptoBulkAll elems + uptoBulkAll spare + 1
  | .agg parts => uptoBulkAll parts + 1
  | .iface _ d => uptoBulk d + 1
  | .map entries => uptoBulkEntries entries + 1
  | .held _ => 1
def uptoBulkAll {H : Type} : List (DataW H) → Nat
  | [] => 0
  | d :: r => uptoBulk d + uptoBulkAll r
def uptoBulkEntries {H : Type} : List (Lit × DataW H) → Nat
  | [] => 0
  | x :: r => uptoBulkEntry x + uptoBulkEntries r
def uptoBulkEntry {H : Type} : Lit × DataW H → Nat
  | (.string bytes, d) => bytes.length + uptoBulk d + 1
  | (_, d) => uptoBulk d + 1
 end
def uptoSmall : (H : Type) → List (DataW H) → Bool := fun _ ds => decide (uptoBulkAll ds ≤ 1048576)
def OpenSpec.upto (s : _root_.Go.ChangeSpec) : _root_.Go.OpenSpec := { _root_.Go.OpenSpec.ofChange s with cond := some uptoSmall }

/-- 'interlocklaw08.TernarySound', WHERE WHAT IT READS IS OF BULK AT MOST 1048576: true; the input reads as it did. -/
def ternarySoundUptoRow : OpenClaim := { program := "ytlakfaalpijhiaadoor", sum := "2ba89d22c3fbc7675d48423a9eac3ef269bd640010f5d18744a6d82bef3b6cfe", func := "interlock/interlocklaw08.TernarySound", spec := "ternarySound", inPlace := ["internal/bytealg.IndexByteString", "internal/bytealg.IndexString"], unfollowed := true, recurses := true, named := ["internal/bytealg.MaxLen", "unicode/utf8.first", "unicode/utf8.acceptRanges"], apart := false, laid := [("unicode/utf8.acceptRanges", laid_unicode_utf8_acceptRanges), ("unicode/utf8.first", laid_unicode_utf8_first)], narrowed := true }
def TernarySoundUptoSaid : Prop := ternarySoundUptoRow.holds Tryd.pinned (OpenSpec.upto ternarySoundSpec)

/-- 'interlocklaw08.TernaryTells', WHERE WHAT IT READS IS OF BULK AT MOST 1048576: true; the input reads as it did. -/
def ternaryTellsUptoRow : OpenClaim := { program := "ytlakfaalpijhiaadoor", sum := "2ba89d22c3fbc7675d48423a9eac3ef269bd640010f5d18744a6d82bef3b6cfe", func := "interlock/interlocklaw08.TernaryTells", spec := "ternaryTells", inPlace := ["internal/bytealg.IndexByteString", "internal/bytealg.IndexString", "internal/abi.NoEscape"], unfollowed := true, recurses := true, named := ["internal/bytealg.MaxLen", "unicode/utf8.first", "unicode/utf8.acceptRanges"], apart := false, laid := [("unicode/utf8.acceptRanges", laid_unicode_utf8_acceptRanges), ("unicode/utf8.first", laid_unicode_utf8_first)], narrowed := true }
def TernaryTellsUptoSaid : Prop := ternaryTellsUptoRow.holds Tryd.pinned (OpenSpec.upto ternaryTellsSpec)

/-- 'interlocklaw08.TernaryMore', WHERE WHAT IT READS IS OF BULK AT MOST 1048576: true; the input reads as it did. -/
def ternaryMoreUptoRow : OpenClaim := { program := "ytlakfaalpijhiaadoor", sum := "2ba89d22c3fbc7675d48423a9eac3ef269bd640010f5d18744a6d82bef3b6cfe", func := "interlock/interlocklaw08.TernaryMore", spec := "ternaryMore", inPlace := ["internal/bytealg.IndexByteString", "internal/bytealg.IndexString", "internal/abi.NoEscape"], unfollowed := true, recurses := true, named := ["internal/bytealg.MaxLen", "unicode/utf8.first", "unicode/utf8.acceptRanges"], apart := false, laid := [("unicode/utf8.acceptRanges", laid_unicode_utf8_acceptRanges), ("unicode/utf8.first", laid_unicode_utf8_first)], narrowed := true }
def TernaryMoreUptoSaid : Prop := ternaryMoreUptoRow.holds Tryd.pinned (OpenSpec.upto ternaryMoreSpec)

/-- 'interlocklaw08.TernaryAlways', WHERE WHAT IT READS IS OF BULK AT MOST 1048576: true; the input reads as it did. -/
def ternaryAlwaysUptoRow : OpenClaim := { program := "ytlakfaalpijhiaadoor", sum := "2ba89d22c3fbc7675d48423a9eac3ef269bd640010f5d18744a6d82bef3b6cfe", func := "interlock/interlocklaw08.TernaryAlways", spec := "ternaryAlways", inPlace := ["internal/bytealg.IndexByteString", "internal/bytealg.IndexString", "internal/abi.NoEscape", "internal/bytealg.MakeNoZero"], unfollowed := true, recurses := true, named := ["internal/bytealg.MaxLen", "unicode/utf8.first", "unicode/utf8.acceptRanges"], apart := false, laid := [("unicode/utf8.acceptRanges", laid_unicode_utf8_acceptRanges), ("unicode/utf8.first", laid_unicode_utf8_first)], narrowed := true }
def TernaryAlwaysUptoSaid : Prop := ternaryAlwaysUptoRow.holds Tryd.pinned (OpenSpec.upto ternaryAlwaysSpec)

/-- 'interlocklaw08.TernaryLifts', WHERE WHAT IT READS IS OF BULK AT MOST 1048576: true; the input reads as it did. -/
def ternaryLiftsUptoRow : OpenClaim := { program := "ytlakfaalpijhiaadoor", sum := "2ba89d22c3fbc7675d48423a9eac3ef269bd640010f5d18744a6d82bef3b6cfe", func := "interlock/interlocklaw08.TernaryLifts", spec := "ternaryLifts", inPlace := ["internal/bytealg.IndexByteString", "internal/bytealg.IndexString", "internal/abi.NoEscape", "internal/bytealg.MakeNoZero"], unfollowed := true, recurses := true, named := ["internal/bytealg.MaxLen", "unicode/utf8.first", "unicode/utf8.acceptRanges"], apart := false, laid := [("unicode/utf8.acceptRanges", laid_unicode_utf8_acceptRanges), ("unicode/utf8.first", laid_unicode_utf8_first)], narrowed := true }
def TernaryLiftsUptoSaid : Prop := ternaryLiftsUptoRow.holds Tryd.pinned (OpenSpec.upto ternaryLiftsSpec)

end Rows
end Go.Proofs.YtlakfaalpijhiaaDoor
