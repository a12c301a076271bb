/-
  No cell of these rows narrows 'for every input' (looked for: loops, veiled, ifaces, maps, wideKeys, modest, calm, conditions, laid).
  DERIVED. THE GIVEN ROWS OF THIS SEAT. 6 by the template 'for every input the law returns true; each argument reads behind the call as it read before'; 0 by the template 'total and deterministic' (their statements: YtbjioniefalgpaaTotals.lean).
  GIVEN WITH THE SEED: the statements are not yours to turn. If you find one false, say at which input.
  Laid BY PROGRAM, IN A SANDBOX (cutbox-rows.mjs): the forced cells as the released guide's own fill.sh prints them over the translation 60e4bbffae7154ce… (all of the seat's roots in one cut). By AI agents, Wed Nov 11 2026. No macro, syntax, notation, axiom, sorry.
-/
import Derived.Test.YtbjioniefalgpaaChecked
import GoSem.Claim
import GoSem.ClaimJoined
import GoSem.ClaimMapViews
import Derived.JoinedTies
import Derived.KernelRfl
namespace Go.Proofs.Ytbjioniefalgpaa
/- THE CELL 'sum', in the pinned program and in every row, IS THE sha256 OF THE DUMP (.gsa) THAT YtbjioniefalgpaaProg.lean LOADS. Nothing in Lean hashes anything: it is a label: what it is worth is what the hold of that sum in a sandbox is worth. -/
noncomputable def Try.pinned : Pinned := { name := "ytbjioniefalgpaa", sum := "60e4bbffae7154ce5f01d9ce886c4783549d9c1bf88cea66ab870b99df379748", checked := Try.checked }
namespace Rows
def none {H : Type} : Left H := { results := [], args := [] }

/-- 'interlocklaw12.TseitinForce': WHATEVER THE INPUT: true; the input reads as it did. -/
def tseitinForceSpec : ChangeSpec := { name := "tseitinForce", fn := fun _ => fun
  | [d1, d2, d3, d4] => { results := [.lit (.bool true)], args := [d1, d2, d3, d4] }
  | _ => none }
def tseitinForceRow : OpenClaim := { program := "ytbjioniefalgpaa", sum := "60e4bbffae7154ce5f01d9ce886c4783549d9c1bf88cea66ab870b99df379748", func := "interlock/interlocklaw12.TseitinForce", spec := "tseitinForce", inPlace := ["internal/bytealg.IndexByteString", "internal/bytealg.IndexString"], unfollowed := true, recurses := true, named := ["internal/bytealg.MaxLen"], apart := false }
def TseitinForceSaid : Prop := tseitinForceRow.holds Try.pinned (OpenSpec.ofChange tseitinForceSpec)

/-- ITS FALSE NEIGHBOUR: 'it returns false'. Refute it at one input. -/
def tseitinForceWrong : ChangeSpec := { name := "tseitinForce", fn := fun _ => fun
  | [d1, d2, d3, d4] => { results := [.lit (.bool false)], args := [d1, d2, d3, d4] }
  | _ => none }
def TseitinForceWrongFalsely : Prop := tseitinForceRow.holds Try.pinned (OpenSpec.ofChange tseitinForceWrong)

/-- 'interlocklaw13.UnrollApart': WHATEVER THE INPUT: true; the input reads as it did. -/
def unrollApartSpec : ChangeSpec := { name := "unrollApart", fn := fun _ => fun
  | [d1, d2, d3] => { results := [.lit (.bool true)], args := [d1, d2, d3] }
  | _ => none }
def unrollApartRow : OpenClaim := { program := "ytbjioniefalgpaa", sum := "60e4bbffae7154ce5f01d9ce886c4783549d9c1bf88cea66ab870b99df379748", func := "interlock/interlocklaw13.UnrollApart", spec := "unrollApart", inPlace := ["internal/bytealg.IndexByteString", "internal/bytealg.IndexString"], unfollowed := true, recurses := true, named := ["internal/bytealg.MaxLen"], apart := false }
def UnrollApartSaid : Prop := unrollApartRow.holds Try.pinned (OpenSpec.ofChange unrollApartSpec)

/-- ITS FALSE NEIGHBOUR: 'it returns false'. Refute it at one input. -/
def unrollApartWrong : ChangeSpec := { name := "unrollApart", fn := fun _ => fun
  | [d1, d2, d3] => { results := [.lit (.bool false)], args := [d1, d2, d3] }
  | _ => none }
def UnrollApartWrongFalsely : Prop := unrollApartRow.holds Try.pinned (OpenSpec.ofChange unrollApartWrong)

/-- 'interlocklaw13.UnrollFirst': WHATEVER THE INPUT: true; the input reads as it did. -/
def unrollFirstSpec : ChangeSpec := { name := "unrollFirst", fn := fun _ => fun
  | [d1, d2, d3] => { results := [.lit (.bool true)], args := [d1, d2, d3] }
  | _ => none }
def unrollFirstRow : OpenClaim := { program := "ytbjioniefalgpaa", sum := "60e4bbffae7154ce5f01d9ce886c4783549d9c1bf88cea66ab870b99df379748", func := "interlock/interlocklaw13.UnrollFirst", spec := "unrollFirst", inPlace := ["internal/bytealg.IndexByteString", "internal/bytealg.IndexString"], unfollowed := true, recurses := true, named := ["internal/bytealg.MaxLen"], apart := false }
def UnrollFirstSaid : Prop := unrollFirstRow.holds Try.pinned (OpenSpec.ofChange unrollFirstSpec)

/-- ITS FALSE NEIGHBOUR: 'it returns false'. Refute it at one input. -/
def unrollFirstWrong : ChangeSpec := { name := "unrollFirst", fn := fun _ => fun
  | [d1, d2, d3] => { results := [.lit (.bool false)], args := [d1, d2, d3] }
  | _ => none }
def UnrollFirstWrongFalsely : Prop := unrollFirstRow.holds Try.pinned (OpenSpec.ofChange unrollFirstWrong)

/-- 'interlocklaw12.TseitinValues': WHATEVER THE INPUT: true; the input reads as it did. -/
def tseitinValuesSpec : ChangeSpec := { name := "tseitinValues", fn := fun _ => fun
  | [d1, d2, d3, d4] => { results := [.lit (.bool true)], args := [d1, d2, d3, d4] }
  | _ => none }
def tseitinValuesRow : OpenClaim := { program := "ytbjioniefalgpaa", sum := "60e4bbffae7154ce5f01d9ce886c4783549d9c1bf88cea66ab870b99df379748", func := "interlock/interlocklaw12.TseitinValues", spec := "tseitinValues", inPlace := ["internal/bytealg.IndexByteString", "internal/bytealg.IndexString"], unfollowed := true, recurses := true, named := ["internal/bytealg.MaxLen"], apart := false }
def TseitinValuesSaid : Prop := tseitinValuesRow.holds Try.pinned (OpenSpec.ofChange tseitinValuesSpec)

/-- ITS FALSE NEIGHBOUR: 'it returns false'. Refute it at one input. -/
def tseitinValuesWrong : ChangeSpec := { name := "tseitinValues", fn := fun _ => fun
  | [d1, d2, d3, d4] => { results := [.lit (.bool false)], args := [d1, d2, d3, d4] }
  | _ => none }
def TseitinValuesWrongFalsely : Prop := tseitinValuesRow.holds Try.pinned (OpenSpec.ofChange tseitinValuesWrong)

/-- 'interlocklaw12.TseitinMoves': WHATEVER THE INPUT: true; the input reads as it did. -/
def tseitinMovesSpec : ChangeSpec := { name := "tseitinMoves", fn := fun _ => fun
  | [d1, d2, d3] => { results := [.lit (.bool true)], args := [d1, d2, d3] }
  | _ => none }
def tseitinMovesRow : OpenClaim := { program := "ytbjioniefalgpaa", sum := "60e4bbffae7154ce5f01d9ce886c4783549d9c1bf88cea66ab870b99df379748", func := "interlock/interlocklaw12.TseitinMoves", spec := "tseitinMoves", inPlace := ["internal/bytealg.IndexByteString", "internal/bytealg.IndexString"], unfollowed := true, recurses := true, named := ["internal/bytealg.MaxLen"], apart := false }
def TseitinMovesSaid : Prop := tseitinMovesRow.holds Try.pinned (OpenSpec.ofChange tseitinMovesSpec)

/-- ITS FALSE NEIGHBOUR: 'it returns false'. Refute it at one input. -/
def tseitinMovesWrong : ChangeSpec := { name := "tseitinMoves", fn := fun _ => fun
  | [d1, d2, d3] => { results := [.lit (.bool false)], args := [d1, d2, d3] }
  | _ => none }
def TseitinMovesWrongFalsely : Prop := tseitinMovesRow.holds Try.pinned (OpenSpec.ofChange tseitinMovesWrong)

/-- 'interlocklaw13.UnrollFrames': WHATEVER THE INPUT: true; the input reads as it did. -/
def unrollFramesSpec : ChangeSpec := { name := "unrollFrames", fn := fun _ => fun
  | [d1, d2, d3, d4] => { results := [.lit (.bool true)], args := [d1, d2, d3, d4] }
  | _ => none }
def unrollFramesRow : OpenClaim := { program := "ytbjioniefalgpaa", sum := "60e4bbffae7154ce5f01d9ce886c4783549d9c1bf88cea66ab870b99df379748", func := "interlock/interlocklaw13.UnrollFrames", spec := "unrollFrames", inPlace := ["internal/bytealg.IndexByteString", "internal/bytealg.IndexString"], unfollowed := true, recurses := true, named := ["internal/bytealg.MaxLen"], apart := false }
def UnrollFramesSaid : Prop := unrollFramesRow.holds Try.pinned (OpenSpec.ofChange unrollFramesSpec)

/-- ITS FALSE NEIGHBOUR: 'it returns false'. Refute it at one input. -/
def unrollFramesWrong : ChangeSpec := { name := "unrollFrames", fn := fun _ => fun
  | [d1, d2, d3, d4] => { results := [.lit (.bool false)], args := [d1, d2, d3, d4] }
  | _ => none }
def UnrollFramesWrongFalsely : Prop := unrollFramesRow.holds Try.pinned (OpenSpec.ofChange unrollFramesWrong)

/- THE SECOND FORM. 'bulk': how many values and letters a reading holds, each counted each time it is reached (what is shared counts as often as it is met; a slice's spare places count too). A statement '..UptoSaid' is the law's where the arguments, and the package variables that the reading takes, are together of bulk at most 1048576: NARROWER than '..Said'. Prove '..Said' where nothing that the law and all that it calls make is longer than what came in: it says more and counts as full. Else prove '..UptoSaid'. A law counts once. -/
mutual
def uptoBulk {H : Type} : DataW H → Nat
  | .lit (.string bytes) => bytes.length + 1
  | .lit _ => 1
  | .nil => 1
  | .ptr d => uptoBulk d + 1
  | .slice elems spare => uptoBulkAll elems + uptoBulkAll spare + 1
  | .agg parts => uptoBulkAll parts + 1
  | .iface _ d => uptoBulk d + 1
  | .map entries => uptoBulkEntries entries + 1
  | .held _ => 1
def uptoBulkAll {H : Type} : List (DataW H) → Nat
  | [] => 0
  | d :: r => uptoBulk d + uptoBulkAll r
def uptoBulkEntries {H : Type} : List (Lit × DataW H) → Nat
  | [] => 0
  | x :: r => uptoBulkEntry x + uptoBulkEntries r
def uptoBulkEntry {H : Type} : Lit × DataW H → Nat
  | (.string bytes, d) => bytes.length + uptoBulk d + 1
  | (_, d) => uptoBulk d + 1
 end
def uptoSmall : (H : Type) → List (DataW H) → Bool := fun _ ds => decide (uptoBulkAll ds ≤ 1048576)
def OpenSpec.upto (s : _root_.Go.ChangeSpec) : _root_.Go.OpenSpec := { _root_.Go.OpenSpec.ofChange s with cond := some uptoSmall }

/-- 'interlocklaw12.TseitinForce', WHERE WHAT IT READS IS OF BULK AT MOST 1048576: true; the input reads as it did. -/
def tseitinForceUptoRow : OpenClaim := { program := "ytbjioniefalgpaa", sum := "60e4bbffae7154ce5f01d9ce886c4783549d9c1bf88cea66ab870b99df379748", func := "interlock/interlocklaw12.TseitinForce", spec := "tseitinForce", inPlace := ["internal/bytealg.IndexByteString", "internal/bytealg.IndexString"], unfollowed := true, recurses := true, named := ["internal/bytealg.MaxLen"], apart := false, narrowed := true }
def TseitinForceUptoSaid : Prop := tseitinForceUptoRow.holds Try.pinned (OpenSpec.upto tseitinForceSpec)

/-- 'interlocklaw13.UnrollApart', WHERE WHAT IT READS IS OF BULK AT MOST 1048576: true; the input reads as it did. -/
def unrollApartUptoRow : OpenClaim := { program := "ytbjioniefalgpaa", sum := "60e4bbffae7154ce5f01d9ce886c4783549d9c1bf88cea66ab870b99df379748", func := "interlock/interlocklaw13.UnrollApart", spec := "unrollApart", inPlace := ["internal/bytealg.IndexByteString", "internal/bytealg.IndexString"], unfollowed := true, recurses := true, named := ["internal/bytealg.MaxLen"], apart := false, narrowed := true }
def UnrollApartUptoSaid : Prop := unrollApartUptoRow.holds Try.pinned (OpenSpec.upto unrollApartSpec)

/-- 'interlocklaw13.UnrollFirst', WHERE WHAT IT READS IS OF BULK AT MOST 1048576: true; the input reads as it did. -/
def unrollFirstUptoRow : OpenClaim := { program := "ytbjioniefalgpaa", sum := "60e4bbffae7154ce5f01d9ce886c4783549d9c1bf88cea66ab870b99df379748", func := "interlock/interlocklaw13.UnrollFirst", spec := "unrollFirst", inPlace := ["internal/bytealg.IndexByteString", "internal/bytealg.IndexString"], unfollowed := true, recurses := true, named := ["internal/bytealg.MaxLen"], apart := false, narrowed := true }
def UnrollFirstUptoSaid : Prop := unrollFirstUptoRow.holds Try.pinned (OpenSpec.upto unrollFirstSpec)

/-- 'interlocklaw12.TseitinValues', WHERE WHAT IT READS IS OF BULK AT MOST 1048576: true; the input reads as it did. -/
def tseitinValuesUptoRow : OpenClaim := { program := "ytbjioniefalgpaa", sum := "60e4bbffae7154ce5f01d9ce886c4783549d9c1bf88cea66ab870b99df379748", func := "interlock/interlocklaw12.TseitinValues", spec := "tseitinValues", inPlace := ["internal/bytealg.IndexByteString", "internal/bytealg.IndexString"], unfollowed := true, recurses := true, named := ["internal/bytealg.MaxLen"], apart := false, narrowed := true }
def TseitinValuesUptoSaid : Prop := tseitinValuesUptoRow.holds Try.pinned (OpenSpec.upto tseitinValuesSpec)

/-- 'interlocklaw12.TseitinMoves', WHERE WHAT IT READS IS OF BULK AT MOST 1048576: true; the input reads as it did. -/
def tseitinMovesUptoRow : OpenClaim := { program := "ytbjioniefalgpaa", sum := "60e4bbffae7154ce5f01d9ce886c4783549d9c1bf88cea66ab870b99df379748", func := "interlock/interlocklaw12.TseitinMoves", spec := "tseitinMoves", inPlace := ["internal/bytealg.IndexByteString", "internal/bytealg.IndexString"], unfollowed := true, recurses := true, named := ["internal/bytealg.MaxLen"], apart := false, narrowed := true }
def TseitinMovesUptoSaid : Prop := tseitinMovesUptoRow.holds Try.pinned (OpenSpec.upto tseitinMovesSpec)

/-- 'interlocklaw13.UnrollFrames', WHERE WHAT IT READS IS OF BULK AT MOST 1048576: true; the input reads as it did. -/
def unrollFramesUptoRow : OpenClaim := { program := "ytbjioniefalgpaa", sum := "60e4bbffae7154ce5f01d9ce886c4783549d9c1bf88cea66ab870b99df379748", func := "interlock/interlocklaw13.UnrollFrames", spec := "unrollFrames", inPlace := ["internal/bytealg.IndexByteString", "internal/bytealg.IndexString"], unfollowed := true, recurses := true, named := ["internal/bytealg.MaxLen"], apart := false, narrowed := true }
def UnrollFramesUptoSaid : Prop := unrollFramesUptoRow.holds Try.pinned (OpenSpec.upto unrollFramesSpec)

end Rows
end Go.Proofs.Ytbjioniefalgpaa
