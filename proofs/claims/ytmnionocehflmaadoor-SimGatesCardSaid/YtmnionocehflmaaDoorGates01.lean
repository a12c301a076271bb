/- SimGates: each and is the and of its literals, each literal's opposite is not it: for every circuit, state, input and literal; the listed tables are tied to the program's text. -/
import Derived.Test.YtmnionocehflmaaDoorCards
import Derived.Test.YtmnionocehflmaaDoorTie
import Derived.Test.YtmnionocehflmaaDoorWalkM7
import Derived.Test.YtmnionocehflmaaDoorFrameC2
import Derived.Test.YtmnionocehflmaaDoorFrame
import Derived.Deep.DeepHandedRow
namespace Go.Proofs.YtmnionocehflmaaDoor.simGates
open Go.ChangeShapes Go.WideShapes Go.ChangeAt Go.RowKit

theorem laidOut : laidOutB Tryd.prog = true := by kernel_rfl
theorem own : ownKnob Tryd.prog.godebug = none := by kernel_rfl

/-- the leaves of a table -/
def leaves (l : List (DataW Unit)) : List Value := l.map fun | .lit (.int k n) => .int k n | _ => .bool false
def leaves1 : DataW Unit → List Value
  | .agg l => leaves l
  | _ => []
def leaves2 : DataW Unit → List Value
  | .agg l => l.flatMap leaves1
  | _ => []

/-- a world in which the listed tables lie -/
noncomputable def laidWorld (os : Os) : World :=
  let w0 := World.holding Tryd.prog os ⟨#[], #[], []⟩
  { w0 with heap := (w0.heap.modify 0 (fun x => match x with
      | .cells _ t frozen => .cells (leaves1 Rows.laid_unicode_utf8_first).toArray t frozen
      | o => o)).modify 1 (fun x => match x with
      | .cells _ t frozen => .cells (leaves2 Rows.laid_unicode_utf8_acceptRanges).toArray t frozen
      | o => o) }

/-- the witness' arguments -/
def exArgs : Array Value := #[.agg #[.int .i64 0, .slice none 0 0, .slice none 0 0, .slice none 0 0, .slice none 0 0, .slice none 0 0, .slice none 0 0, .slice none 0 0], .string ⟨#[]⟩, .string ⟨#[]⟩, .int .i64 0]

theorem laid_met (os : Os) : laidMet Tryd.prog Rows.simGatesRow.laid ((laidWorld os).forCall (fun _ _ => 0) ⟨#[], exArgs, []⟩).memory :=
  laidMet_of_run' 8 (by kernel_rfl) (by kernel_rfl)

theorem reads (os : Os) {H : Type} (enc : TypeId × Value → H) : ∃ places, DataW.whole enc Tryd.prog ((laidWorld os).forCall (fun _ _ => 0) ⟨#[], exArgs, []⟩).memory Tryd.f3.params.toList Rows.simGatesSpec.vars false exArgs.toList 8 = some ([.agg [.lit (.int .i64 0), .nil, .nil, .nil, .nil, .nil, .nil, .nil], .lit (.string []), .lit (.string []), .lit (.int .i64 0)], [], places) :=
  ⟨[], by kernel_rfl⟩

set_option maxRecDepth 100000 in
set_option maxHeartbeats 1000000 in
theorem lifted (os : Os) (started : os.Started) (H : Type) (enc : TypeId × Value → H) (F : Stop.Interp) :
    ReturnsInHanded {} Tryd.checked os 3 .any ((OpenSpec.ofChange Rows.simGatesSpec).preRow enc Tryd.prog Tryd.f3 Rows.simGatesRow.domain false Rows.simGatesRow.laid) (((OpenSpec.ofChange Rows.simGatesSpec).at F).post enc Tryd.prog Tryd.f3 false true false false) := by
  obtain ⟨places, hx⟩ := reads os enc
  refine returnsInHanded_of_row (C := Tryd.checked) (s := OpenSpec.ofChange Rows.simGatesSpec) own started (by kernel_rfl) Tryd.func3
    (witness_row_at (enc := enc) (C := Tryd.checked) false (laidWorld os) exArgs rfl (by kernel_rfl) (by kernel_rfl) (by kernel_rfl)
      (OpenSpec.preRow_of_cond 8 hx (by kernel_rfl) (fun k hk => by cases hk) (by kernel_rfl) (laid_met os))) ?_
  intro W base args ds gs before hval0 hW _ _ _ hL _ _
  have hval : ∀ (j : Nat) t v, Tryd.f3.params[j]? = some t → args[j]? = some v → Value.okWide Tryd.prog W .any base t v := hval0
  have hW' := hW
  obtain ⟨p, q, hA0, hV, rfl, hfz, hnd⟩ := hW
  have hA : DataW.TrodAll enc Tryd.prog W 0 (fun _ => true) true Tryd.f3.params.toList args.toList ds p := hA0
  rw [Tryd.params3] at hA hval
  obtain ⟨v0, vs0, d0, ds0, p0, q0, hargs, rfl, rfl, h0, r0⟩ := trodAll_cons hA
  obtain ⟨v1, vs1, d1, ds1, p1, q1, rfl, rfl, rfl, h1, r1⟩ := trodAll_cons r0
  obtain ⟨v2, vs2, d2, ds2, p2, q2, rfl, rfl, rfl, h2, r2⟩ := trodAll_cons r1
  obtain ⟨v3, vs3, d3, ds3, p3, q3, rfl, rfl, rfl, h3, r3⟩ := trodAll_cons r2
  obtain ⟨rfl, rfl, rfl⟩ := trodAll_nil r3
  obtain rfl : args = #[v0, v1, v2, v3] := by cases args; simp_all
  obtain ⟨rfl, rfl⟩ := trodVars_none hV
  obtain ⟨s1, rfl, rfl, rfl, hm1⟩ := Go.ChangeMaps.open_string Tryd.underlying9 (hval 1 9 v1 rfl rfl) h1
  obtain ⟨s2, rfl, rfl, rfl, hm2⟩ := Go.ChangeMaps.open_string Tryd.underlying9 (hval 2 9 v2 rfl rfl) h2
  obtain ⟨l, rfl, rfl, rfl, hl⟩ := open_int Tryd.underlying3 (hval 3 3 v3 rfl rfl) h3
  have hv0 := hval 0 27 v0 rfl rfl
  unfold Value.okWide at hv0
  rw [Tryd.underlying27] at hv0
  obtain ⟨cs, rfl, hcs, _⟩ := hv0
  obtain ⟨n0, h0⟩ := h0
  obtain ⟨c, hc, _⟩ := tr_circ h0
  clear hA0 hval0
  simp only [List.append_nil] at hW'
  have hcs0 : IsCirc W (.agg cs) c := by simpa [Value.cells] using hc
  have hst : s1 = ⟨s1.data.toList.toArray⟩ := by cases s1; simp
  have hin : s2 = ⟨s2.data.toList.toArray⟩ := by cases s2; simp
  have hmx : maxLen = 9223372036854775807 := rfl
  have hwk := gates_walk c (.agg cs) s1.data.toList s2.data.toList l W hcs0
    (by have : s1.data.toList.length = s1.size := by rw [Array.length_toList]; rfl
        omega)
    (by have : s2.data.toList.length = s2.size := by rw [Array.length_toList]; rfl
        omega) (bounds_i64 hl)
  rw [← hst, ← hin] at hwk
  refine hwk.mono fun e W' ⟨he, hg⟩ => ?_
  subst he
  exact ⟨_, rfl, post_law laidOut (by rw [Tryd.params3]; intro t ht; simp only [List.mem_cons, List.mem_nil_iff, or_false, List.mem_toArray] at ht; rcases ht with rfl | rfl | rfl | rfl <;> exact ⟨by kernel_rfl, of_decide_eq_true (by kernel_rfl)⟩) rfl hW' hg
    (trodAll_cons_mk (shut_bool Tryd.underlying4 _) trodAll_mk0) rfl rfl⟩

theorem said : Rows.SimGatesSaid :=
  OpenClaim.holds_of_cond 3 Tryd.f3 rfl rfl rfl rfl rfl rfl rfl ⟨rfl, rfl, rfl, rfl, rfl⟩ rfl rfl rfl rfl rfl (by kernel_rfl) Tryd.func3 (by kernel_rfl)
    (of_decide_eq_true (by kernel_rfl)) (by unfold Func.isWrapper; first | (rw [if_pos (by decide +kernel)]; kernel_rfl) | (rw [if_neg (by decide +kernel)]; exact ⟨rfl, rfl⟩))
    (fun os started H enc _ F => by rw [OpenClaim.pre_eq_preRow]; exact lifted os started H enc F)

theorem plain (f : FuncId) (fn : Func) (hf : Tryd.pinned.checked.prog.funcNamed "interlock/interlocklaw07.SimGates" = some f) (hfn : Tryd.pinned.checked.prog.funcs[f]? = some fn) :
    true = Tryd.pinned.checked.prog.looks [] ∧ ∀ (j : Nat) t, fn.params[j]? = some t → Tryd.pinned.checked.prog.wantsStandIn t = false := by
  obtain rfl : f = 3 := Option.some.inj ((show Tryd.prog.funcNamed "interlock/interlocklaw07.SimGates" = some 3 by kernel_rfl).symm.trans hf) |>.symm
  obtain rfl : fn = Tryd.f3 := (Option.some.inj (Tryd.func3.symm.trans hfn)).symm
  refine ⟨by kernel_rfl, fun j t ht => ?_⟩
  rw [Tryd.params3] at ht
  have hm := Array.mem_of_getElem? ht
  simp only [List.mem_cons, List.mem_nil_iff, or_false, List.mem_toArray] at hm
  rcases hm with rfl | rfl | rfl | rfl
  · exact (show Tryd.prog.wantsStandIn 27 = false by kernel_rfl)
  · exact (show Tryd.prog.wantsStandIn 9 = false by kernel_rfl)
  · exact (show Tryd.prog.wantsStandIn 9 = false by kernel_rfl)
  · exact (show Tryd.prog.wantsStandIn 3 = false by kernel_rfl)

theorem card : Rows.SimGatesCardSaid :=
  Claim7.holds_tied_plain_at .later [] _ _ _ _ said (fun _ h => by cases h) (by kernel_rfl) (fun _ h => by cases h) simGates_row_tie rfl ⟨rfl, rfl⟩ (by kernel_rfl) rfl plain (by kernel_rfl)
#print axioms card

end Go.Proofs.YtmnionocehflmaaDoor.simGates
