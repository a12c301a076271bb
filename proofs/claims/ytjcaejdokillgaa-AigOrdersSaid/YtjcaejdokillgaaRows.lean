/-
  No cell of these rows narrows 'for every input' (looked for: loops, veiled, ifaces, maps, wideKeys, modest, calm, conditions, laid).
  DERIVED. THE GIVEN ROWS OF THIS SEAT. 2 by the template 'for every input the law returns true; each argument reads behind the call as it read before'; 0 by the template 'total and deterministic' (their statements: YtjcaejdokillgaaTotals.lean).
  GIVEN WITH THE SEED: the statements are not yours to turn. If you find one false, say at which input.
  Laid BY PROGRAM, IN A SANDBOX (cutbox-rows.mjs): the forced cells as the released guide's own fill.sh prints them over the translation cf1d9d50ba69faa2… (all of the seat's roots in one cut). By AI agents, Wed Nov 11 2026. No macro, syntax, notation, axiom, sorry.
-/
import Derived.Test.YtjcaejdokillgaaChecked
import GoSem.Claim
import GoSem.ClaimJoined
import GoSem.ClaimMapViews
import Derived.JoinedTies
import Derived.KernelRfl
namespace Go.Proofs.Ytjcaejdokillgaa
/- THE CELL 'sum', in the pinned program and in every row, IS THE sha256 OF THE DUMP (.gsa) THAT YtjcaejdokillgaaProg.lean LOADS. Nothing in Lean hashes anything: it is a label: what it is worth is what the hold of that sum in a sandbox is worth. -/
noncomputable def Try.pinned : Pinned := { name := "ytjcaejdokillgaa", sum := "cf1d9d50ba69faa2de459236458f350cdbb32df5472b433e34e02fa6b6e7387c", checked := Try.checked }
namespace Rows
def none {H : Type} : Left H := { results := [], args := [] }

/-- 'interlocklaw05.AigWrites': WHATEVER THE INPUT: true; the input reads as it did. -/
def aigWritesSpec : ChangeSpec := { name := "aigWrites", fn := fun _ => fun
  | [d] => { results := [.lit (.bool true)], args := [d] }
  | _ => none }
def aigWritesRow : OpenClaim := { program := "ytjcaejdokillgaa", sum := "cf1d9d50ba69faa2de459236458f350cdbb32df5472b433e34e02fa6b6e7387c", func := "interlock/interlocklaw05.AigWrites", spec := "aigWrites", inPlace := ["internal/bytealg.IndexByteString", "internal/bytealg.IndexString", "internal/abi.NoEscape", "internal/bytealg.MakeNoZero"], unfollowed := true, recurses := true, named := ["internal/bytealg.MaxLen"], apart := false }
def AigWritesSaid : Prop := aigWritesRow.holds Try.pinned (OpenSpec.ofChange aigWritesSpec)

/-- ITS FALSE NEIGHBOUR: 'it returns false'. Refute it at one input. -/
def aigWritesWrong : ChangeSpec := { name := "aigWrites", fn := fun _ => fun
  | [d] => { results := [.lit (.bool false)], args := [d] }
  | _ => none }
def AigWritesWrongFalsely : Prop := aigWritesRow.holds Try.pinned (OpenSpec.ofChange aigWritesWrong)

/-- 'interlocklaw05.AigOrders': WHATEVER THE INPUT: true; the input reads as it did. -/
def aigOrdersSpec : ChangeSpec := { name := "aigOrders", fn := fun _ => fun
  | [d] => { results := [.lit (.bool true)], args := [d] }
  | _ => none }
def aigOrdersRow : OpenClaim := { program := "ytjcaejdokillgaa", sum := "cf1d9d50ba69faa2de459236458f350cdbb32df5472b433e34e02fa6b6e7387c", func := "interlock/interlocklaw05.AigOrders", spec := "aigOrders", inPlace := ["internal/bytealg.IndexByteString", "internal/bytealg.IndexString", "internal/abi.NoEscape", "internal/bytealg.MakeNoZero"], unfollowed := true, recurses := true, named := ["internal/bytealg.MaxLen"], apart := false }
def AigOrdersSaid : Prop := aigOrdersRow.holds Try.pinned (OpenSpec.ofChange aigOrdersSpec)

/-- ITS FALSE NEIGHBOUR: 'it returns false'. Refute it at one input. -/
def aigOrdersWrong : ChangeSpec := { name := "aigOrders", fn := fun _ => fun
  | [d] => { results := [.lit (.bool false)], args := [d] }
  | _ => none }
def AigOrdersWrongFalsely : Prop := aigOrdersRow.holds Try.pinned (OpenSpec.ofChange aigOrdersWrong)

/- THE SECOND FORM. 'bulk': how many values and letters a reading holds, each counted each time it is reached (what is shared counts as often as it is met; a slice's spare places count too). A statement '..UptoSaid' is the law's where the arguments, and the package variables that the reading takes, are together of bulk at most 1048576: NARROWER than '..Said'. Prove '..Said' where nothing that the law and all that it calls make is longer than what came in: it says more and counts as full. Else prove '..UptoSaid'. A law counts once. -/
mutual
def uptoBulk {H : Type} : DataW H → Nat
  | .lit (.string bytes) => bytes.length + 1
  | .lit _ => 1
  | .nil => 1
  | .ptr d => uptoBulk d + 1
  | .slice elems spare => uptoBulkAll elems + uptoBulkAll spare + 1
  | .agg parts => uptoBulkAll parts + 1
  | .iface _ d => uptoBulk d + 1
  | .map entries => uptoBulkEntries entries + 1
  | .held _ => 1
def uptoBulkAll {H : Type} : List (DataW H) → Nat
  | [] => 0
  | d :: r => uptoBulk d + uptoBulkAll r
def uptoBulkEntries {H : Type} : List (Lit × DataW H) → Nat
  | [] => 0
  | x :: r => uptoBulkEntry x + uptoBulkEntries r
def uptoBulkEntry {H : Type} : Lit × DataW H → Nat
  | (.string bytes, d) => bytes.length + uptoBulk d + 1
  | (_, d) => uptoBulk d + 1
 end
def uptoSmall : (H : Type) → List (DataW H) → Bool := fun _ ds => decide (uptoBulkAll ds ≤ 1048576)
def OpenSpec.upto (s : _root_.Go.ChangeSpec) : _root_.Go.OpenSpec := { _root_.Go.OpenSpec.ofChange s with cond := some uptoSmall }

/-- 'interlocklaw05.AigWrites', WHERE WHAT IT READS IS OF BULK AT MOST 1048576: true; the input reads as it did. -/
def aigWritesUptoRow : OpenClaim := { program := "ytjcaejdokillgaa", sum := "cf1d9d50ba69faa2de459236458f350cdbb32df5472b433e34e02fa6b6e7387c", func := "interlock/interlocklaw05.AigWrites", spec := "aigWrites", inPlace := ["internal/bytealg.IndexByteString", "internal/bytealg.IndexString", "internal/abi.NoEscape", "internal/bytealg.MakeNoZero"], unfollowed := true, recurses := true, named := ["internal/bytealg.MaxLen"], apart := false, narrowed := true }
def AigWritesUptoSaid : Prop := aigWritesUptoRow.holds Try.pinned (OpenSpec.upto aigWritesSpec)

/-- 'interlocklaw05.AigOrders', WHERE WHAT IT READS IS OF BULK AT MOST 1048576: true; the input reads as it did. -/
def aigOrdersUptoRow : OpenClaim := { program := "ytjcaejdokillgaa", sum := "cf1d9d50ba69faa2de459236458f350cdbb32df5472b433e34e02fa6b6e7387c", func := "interlock/interlocklaw05.AigOrders", spec := "aigOrders", inPlace := ["internal/bytealg.IndexByteString", "internal/bytealg.IndexString", "internal/abi.NoEscape", "internal/bytealg.MakeNoZero"], unfollowed := true, recurses := true, named := ["internal/bytealg.MaxLen"], apart := false, narrowed := true }
def AigOrdersUptoSaid : Prop := aigOrdersUptoRow.holds Try.pinned (OpenSpec.upto aigOrdersSpec)

end Rows
end Go.Proofs.Ytjcaejdokillgaa
