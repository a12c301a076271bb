/- The walk of UnrollFrames where no frame may be; and where values may not be. -/
import Derived.Test.YtbjioniefalgpaaWalkH7
import Derived.Test.YtbjioniefalgpaaWalkV4
import Derived.Test.YtbjioniefalgpaaWalkU2
import Derived.Test.YtbjioniefalgpaaPlainU2
namespace Go.Proofs.Ytbjioniefalgpaa
open Go.RowKit Go.Shelf
attribute [local simp] mk_get

set_option maxRecDepth 100000 in
set_option maxHeartbeats 8000000 in
theorem frames_bad (c : PC.Circ) (assume lemmas known : List (List Int)) (bad depth budget : Int) (vq : Value) (fr : Int) (st i : List UInt8) (w : World) (h : IsQ w vq ⟨c, assume, lemmas, known, bad, depth, budget⟩) (hf : Fits c) (hR : (decide (0 ≤ fr) && decide (fr ≤ 80) && PC.chk c) = false) :
    Calls Try.prog 8 #[vq, .int .i64 fr, .string ⟨st.toArray⟩, .string ⟨i.toArray⟩] w fun e w' => e = .returned (.bool true) ∧ Below w.heap.size w w' := by
  have hFr := Lib.hid fun w1 (hb : Below w.heap.size w w1) => uFrame_bad ⟨c, assume, lemmas, known, bad, depth, budget⟩ vq fr w1 (h.mono hb) hR
  obtain ⟨vi, vl, vo, vb, vv, va, vn, vA, vL, vK, rfl, hc, h1, h2, h3, hrr⟩ := h
  dsimp only at *
  have hp := hc.parts
  obtain ⟨a1, k1, rfl⟩ := hp.inputs.1.slice
  obtain ⟨a2, k2, rfl⟩ := hp.latches.1.slice
  obtain ⟨a3, k3, rfl⟩ := hp.outputs.1.slice
  obtain ⟨a4, k4, rfl⟩ := hp.bads.1.slice
  obtain ⟨a5, k5, rfl⟩ := hp.invars.1.slice
  obtain ⟨a6, k6, rfl⟩ := hp.ands.1.slice
  obtain ⟨a7, k7, rfl⟩ := hp.names.1.slice
  obtain ⟨aA, kA, rfl⟩ := h1.slice
  obtain ⟨aL, kL, rfl⟩ := h2.slice
  obtain ⟨aK, kK, rfl⟩ := h3.slice
  clear hp
  have hb0 : Below w.heap.size w (w.alloc (.cells #[.int .i64 c.max, .slice a1 c.inputs.length k1, .slice a2 c.latches.length k2, .slice a3 c.outputs.length k3, .slice a4 c.bads.length k4, .slice a5 c.invars.length k5, .slice a6 c.ands.length k6, .slice a7 c.names.length k7, .slice aA assume.length kA, .slice aL lemmas.length kL, .slice aK known.length kK, .int .i64 bad, .int .i64 depth, .int .i64 budget] 54)) := (Below.refl _ _).alloc (Nat.le_refl _) _
  have hbx14 := Lib.hid (Box14.new w (.int .i64 c.max) (.slice a1 c.inputs.length k1) (.slice a2 c.latches.length k2) (.slice a3 c.outputs.length k3) (.slice a4 c.bads.length k4) (.slice a5 c.invars.length k5) (.slice a6 c.ands.length k6) (.slice a7 c.names.length k7) (.slice aA assume.length kA) (.slice aL lemmas.length kL) (.slice aK known.length kK) (.int .i64 bad) (.int .i64 depth) (.int .i64 budget) 54)
  have hRt := Lib.hid fun w1 (hb : Below w.heap.size w w1) => right13_any c _ fr w1 (hc.mono hb) hf
  rw [hR] at hRt
  clear hc h1 h2 h3 hrr hR hf
  go_enter Try.func8, Try.ntmps8
  go_wp2_with fail
  refine (alive13_any _).mono ?_
  rintro e w1 ⟨rfl, hb1⟩
  have hbw1 := Below.of hb0 hb1
  have X14 : Hid (Box14 w1 w.heap.size _ _ _ _ _ _ _ _ _ _ _ _ _ _) := hbx14.out.mono hb1
  obtain ⟨⟨q0, q1, q2, q3, q4, q5, q6, q7⟩, q8, q9, q10, q11, q12, q13⟩ := X14.out
  have r0 := past1 q0; have r1 := past1 q1; have r2 := past1 q2; have r3 := past1 q3; have r4 := past1 q4; have r5 := past1 q5; have r6 := past1 q6; have r7 := past1 q7; have r8 := past1 q8; have r9 := past1 q9; have r10 := past1 q10; have r11 := past1 q11; have r12 := past1 q12; have r13 := past1 q13
  have hbA : Below w1.heap.size w1 (w1.alloc (.cells #[.int .i64 c.max, .slice a1 c.inputs.length k1, .slice a2 c.latches.length k2, .slice a3 c.outputs.length k3, .slice a4 c.bads.length k4, .slice a5 c.invars.length k5, .slice a6 c.ands.length k6, .slice a7 c.names.length k7] 27)) := (Below.refl _ _).alloc (Nat.le_refl _) _
  have hbx8 := Lib.hid (Box8.new w1 (.int .i64 c.max) (.slice a1 c.inputs.length k1) (.slice a2 c.latches.length k2) (.slice a3 c.outputs.length k3) (.slice a4 c.bads.length k4) (.slice a5 c.invars.length k5) (.slice a6 c.ands.length k6) (.slice a7 c.names.length k7) 27)
  have hbwA := Below.of hbw1 hbA
  have X14A : Hid (Box14 (w1.alloc (.cells #[.int .i64 c.max, .slice a1 c.inputs.length k1, .slice a2 c.latches.length k2, .slice a3 c.outputs.length k3, .slice a4 c.bads.length k4, .slice a5 c.invars.length k5, .slice a6 c.ands.length k6, .slice a7 c.names.length k7] 27)) w.heap.size _ _ _ _ _ _ _ _ _ _ _ _ _ _) := X14.out.mono hbA
  clear hb0 hb1 hbw1 hbA hbx14 X14
  go_wp2_with fail
  clear q0 q1 q2 q3 q4 q5 q6 q7 q8 q9 q10 q11 q12 q13 r0 r1 r2 r3 r4 r5 r6 r7 r8 r9 r10 r11 r12 r13
  refine (hFr.out _ (by exact hbwA)).mono ?_
  rintro e w2 ⟨rfl, hb2⟩
  have hbw2 := Below.of hbwA hb2
  obtain ⟨p0, p1, p2, p3, p4, p5, p6, p7⟩ := hbx8.out.mono hb2
  go_wp2_with fail
  refine (hRt.out _ (by exact hbw2)).mono ?_
  rintro e w3 ⟨rfl, hb3⟩
  go_wp2_with fail
  go_ret
  exact ⟨rfl, Below.of hbw2 hb3⟩

end Go.Proofs.Ytbjioniefalgpaa
