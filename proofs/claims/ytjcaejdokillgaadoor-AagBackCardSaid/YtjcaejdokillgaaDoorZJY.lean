/- The walk of AagComments. -/
import Derived.Test.YtjcaejdokillgaaDoorZWalkJX
import Derived.Test.YtjcaejdokillgaaDoorZWalkO6
import Derived.Test.YtjcaejdokillgaaDoorZWalkJC
namespace Go.Proofs.YtjcaejdokillgaaDoor
open Go.RowKit Go.Shelf
attribute [local simp] mk_get

theorem num04_any (x : Int) (w : World) : Calls Tryd.prog 11 #[.int .i64 x] w fun e w' => e = .returned (.int .i64 x) ∧ w = w' := by
  go_enter Tryd.func11, Tryd.ntmps11
  go_wp2
  go_ret
  exact ⟨rfl, rfl⟩

abbrev noC : PC.Circ := ⟨0, [], [], [], [], [], [], []⟩
theorem noC_isJ (w : World) : IsCirc w (.agg #[.int .i64 0, .slice none 0 0, .slice none 0 0, .slice none 0 0, .slice none 0 0, .slice none 0 0, .slice none 0 0, .slice none 0 0]) noC := by
  have hI : Ints w (.slice none 0 0) [] := ⟨Cells.nil _ _, fun x hx => by cases hx⟩
  exact ⟨_, _, _, _, _, _, _, rfl, ⟨hI, ⟨Cells.nil _ _, fun x hx => by cases hx⟩, hI, hI, hI, ⟨Cells.nil _ _, fun x hx => by cases hx⟩, ⟨Cells.nil _ _, fun x hx => by cases hx⟩⟩, by unfold rng; decide⟩

theorem no_chkJ : PC.chk noC = true := by decide
theorem no_textJ : PJ.text noC = [97, 97, 103, 32, 48, 32, 48, 32, 48, 32, 48, 32, 48, 32, 48, 32, 48, 10] := by
  have h0 : P01.decI 0 = [48] := by show (if (0 : Int) < 0 then _ else P01.dec 0) = _; rw [if_neg (by decide)]; exact P01.dec_zero
  unfold PJ.text
  rw [PA.lineT_head _ (by decide)]
  simp [PA.headN, PJ.text1, PJ.text2, PJ.text3, PJ.text4, PJ.text5, PJ.text6, PJ.text7, h0]

set_option maxRecDepth 100000 in
set_option maxHeartbeats 4000000 in
theorem alive04_any (w : World) : Calls Tryd.prog 9 #[] w fun e w' => e = .returned (.bool true) ∧ Below w.heap.size w w' := by
  have hW := jPrint_any _ _ w (noC_isJ w)
  rw [no_chkJ, if_pos rfl, if_pos rfl, no_textJ] at hW
  have hW := Lib.hid hW
  have hN := Lib.hid fun x y => num04_any x y
  go_enter Tryd.func9, Tryd.ntmps9
  go_wp2_with fail
  refine hW.out.mono ?_
  rintro e w1 ⟨rfl, hb1⟩
  go_wp2_with (go_at_call 11; refine (hN.out _ _).mono ?_; rintro e w4 ⟨rfl, rfl⟩)
  go_ret
  exact ⟨by first | rfl | simp, hb1⟩

end Go.Proofs.YtjcaejdokillgaaDoor

namespace Go.Proofs.YtjcaejdokillgaaDoor
open Go.RowKit Go.Shelf
attribute [local simp] mk_get

theorem PTo.yes {s : List UInt8} {w w' : World} {e : Ending} (h : PTo s w e w') {c : PC.Circ} (hs : s.length ≤ 65536) (hp : PJ.parse s = some c) :
    ∃ v, e = .returned (.tuple #[v, .int .i64 (PJ.linesOf c : Int), .int .i64 0]) ∧ IsCirc w' v c ∧ Below w.heap.size w w' := by
  obtain ⟨hb, ⟨c', v, _, h2, rfl, h3⟩ | ⟨h1 | h1, _⟩⟩ := h
  · rw [hp] at h2
    obtain rfl := Option.some.inj h2
    exact ⟨v, rfl, h3, hb⟩
  · omega
  · rw [hp] at h1; cases h1
theorem PTo.no {s : List UInt8} {w w' : World} {e : Ending} (h : PTo s w e w') (hp : 65536 < s.length ∨ PJ.parse s = none) :
    ∃ at_ er : Int, er ≠ 0 ∧ e = .returned (.tuple #[.agg zero8.toArray, .int .i64 at_, .int .i64 er]) ∧ Below w.heap.size w w' := by
  obtain ⟨hb, ⟨c', v, h1, h2, rfl, h3⟩ | ⟨_, at_, er, h1, rfl⟩⟩ := h
  · rcases hp with h | h
    · omega
    · rw [h] at h2; cases h2
  · exact ⟨at_, er, h1, rfl, hb⟩

theorem circ_small {c : PC.Circ} (hc : PC.chk c = true) : c.latches.length ≤ 9223372036854775806 ∧ c.ands.length ≤ 9223372036854775806 ∧ c.names.length ≤ 9223372036854775806 := by
  have hR := PC.right_of c hc
  have h1 := hR.lats
  have h2 := PC.ands_len c hR
  have h3 := (PA.names_ok hc).1
  omega

set_option maxRecDepth 100000 in
set_option maxHeartbeats 16000000 in
theorem aagComments_walk (c : PC.Circ) (vc : Value) (s : List UInt8) (m : Int) (w : World) (h : IsCirc w vc c) (hs : s.length ≤ 140737488355328) (hm : w.cell? ⟨0, 0, none⟩ = some (.int .i64 m)) :
    Calls Tryd.prog 5 #[vc, .string ⟨s.toArray⟩] w fun e w' => e = .returned (.bool true) ∧ Below w.heap.size w w' := by
  have HC := Lib.hid h
  have HM := Lib.hid hm
  obtain ⟨xi, xj, xl, xm, xo, xp, xb, xc, xv, xw, xa, xq, xn, xr, rfl, hp⟩ := row_slices h
  clear h hp hm
  have r1 := RowL.new (T := 27) w [.int .i64 c.max, .slice xi c.inputs.length xj, .slice xl c.latches.length xm, .slice xo c.outputs.length xp, .slice xb c.bads.length xc, .slice xv c.invars.length xw, .slice xa c.ands.length xq, .slice xn c.names.length xr]
  have hb0 := (Below.refl w.heap.size w).alloc (Nat.le_refl _) (.cells #[.int .i64 c.max, .slice xi c.inputs.length xj, .slice xl c.latches.length xm, .slice xo c.outputs.length xp, .slice xb c.bads.length xc, .slice xv c.invars.length xw, .slice xa c.ands.length xq, .slice xn c.names.length xr] 27)
  obtain ⟨X, hX⟩ : ∃ X, X = w.alloc (.cells #[.int .i64 c.max, .slice xi c.inputs.length xj, .slice xl c.latches.length xm, .slice xo c.outputs.length xp, .slice xb c.bads.length xc, .slice xv c.invars.length xw, .slice xa c.ands.length xq, .slice xn c.names.length xr] 27) := ⟨_, rfl⟩
  rw [← hX] at r1 hb0
  have R1 := Lib.hid r1
  have HB0 := Lib.hid hb0
  have HX := Lib.hid hX
  clear hX r1 hb0
  have hN := Lib.hid fun x y => num04_any x y
  go_enter Tryd.func5, Tryd.ntmps5
  go_wp2_with fail
  rw [← HX.out]
  refine (alive04_any _).mono ?_
  rintro e w1 ⟨rfl, hb1⟩
  have HB1 := Lib.hid (Below.of HB0.out hb1)
  have S1 := Lib.hid (R1.out.mono hb1)
  clear hb1 R1 HB0 HX
  have hPr := jPrint_any c _ w1 (HC.out.mono HB1.out)
  have HMw := Lib.hid fun (y : World) (hy : Below w.heap.size w y) => (hy.cell (World.block_lt_of_cell? w _ HM.out)).trans HM.out
  cases hck : PC.chk c with
  | false =>
    rw [hck] at hPr
    simp only [Bool.false_eq_true, if_false] at hPr
    have hPr := Lib.hid hPr
    clear hck
    have q := S1.out
    have q0 := q.cell 0 _ rfl
    have q1 := q.cell 1 _ rfl
    have q2 := q.cell 2 _ rfl
    have q3 := q.cell 3 _ rfl
    have q4 := q.cell 4 _ rfl
    have q5 := q.cell 5 _ rfl
    have q6 := q.cell 6 _ rfl
    have q7 := q.cell 7 _ rfl
    go_wp2_with fail
    refine hPr.out.mono ?_
    rintro e w2 ⟨rfl, hb2⟩
    clear q q0 q1 q2 q3 q4 q5 q6 q7
    have HB2 := Lib.hid (Below.of HB1.out hb2)
    clear hb2
    go_wp2_with (go_at_call 11; refine (hN.out _ _).mono ?_; rintro e w4 ⟨rfl, rfl⟩)
    go_ret
    exact ⟨by first | rfl | simp, HB2.out⟩
  | true =>
    rw [hck] at hPr
    simp only [if_true] at hPr
    have hTL := PJ.text_len hck
    have hpt : PJ.parse (PJ.text c) = some c := by have := PJ.parse_text hck (rest := []) (.inl rfl); rwa [List.append_nil] at this
    have hpt2 : PJ.parse (PJ.text c ++ ([99, 10] ++ s)) = some c := PJ.parse_text hck (rest := [99, 10] ++ s) (.inr ⟨s, rfl⟩)
    obtain ⟨T, hT⟩ : ∃ T, T = PJ.text c := ⟨_, rfl⟩
    rw [← hT] at hPr hTL hpt hpt2
    have hPr := Lib.hid hPr
    have HP1 := Lib.hid hpt
    have HP2 := Lib.hid hpt2
    have HSM := Lib.hid (circ_small hck)
    clear hck hT hpt hpt2
    have q := S1.out
    have q0 := q.cell 0 _ rfl
    have q1 := q.cell 1 _ rfl
    have q2 := q.cell 2 _ rfl
    have q3 := q.cell 3 _ rfl
    have q4 := q.cell 4 _ rfl
    have q5 := q.cell 5 _ rfl
    have q6 := q.cell 6 _ rfl
    have q7 := q.cell 7 _ rfl
    go_wp2_with fail
    refine hPr.out.mono ?_
    rintro e w2 ⟨rfl, hb2⟩
    clear q q0 q1 q2 q3 q4 q5 q6 q7
    have HB2 := Lib.hid (Below.of HB1.out hb2)
    clear hb2 S1 hPr
    by_cases hlen : 65536 < T.length + s.length + 2
    · have hlz : (65536 : Int) < (T.length : Int) + (s.length : Int) + 2 := by omega
      clear hlen
      go_wp2_with (go_at_call 11; refine (hN.out _ _).mono ?_; rintro e w4 ⟨rfl, rfl⟩)
      go_ret
      exact ⟨by first | rfl | simp, HB2.out⟩
    · have hlz : decide ((65536 : Int) < (T.length : Int) + (s.length : Int) + 2) = false := decide_eq_false (by omega)
      have hp1 := Lib.hid ((jParse_any T m w2 (by omega) (HMw.out w2 HB2.out)).mono fun e w' hh => PTo.yes hh (by omega) HP1.out)
      have k1 : (⟨T.toArray⟩ : ByteArray) ++ ⟨#[99, 10]⟩ = ⟨(T ++ [99, 10]).toArray⟩ := cat_eq T [99, 10]
      have k2 : (⟨(T ++ [99, 10]).toArray⟩ : ByteArray) ++ ⟨s.toArray⟩ = ⟨(T ++ [99, 10] ++ s).toArray⟩ := cat_eq (T ++ [99, 10]) s
      obtain ⟨T1, hT1⟩ : ∃ Z, Z = T ++ [99, 10] := ⟨_, rfl⟩
      obtain ⟨T2, hT2⟩ : ∃ Z, Z = T1 ++ s := ⟨_, rfl⟩
      rw [← hT1] at k1
      rw [← hT1, ← hT2] at k2
      have l1 : T1.length = T.length + 2 := by rw [hT1]; simp
      have l2 : T2.length = T1.length + s.length := by rw [hT2]; simp
      have m1 : ¬ 9223372036854775807 < T.length + 2 := by omega
      have m2 : ¬ 9223372036854775807 < T1.length + s.length := by omega
      have hp2 := Lib.hid fun (y : World) (hy : Below w.heap.size w y) => (jParse_any T2 m y (by omega) (HMw.out y hy)).mono fun e w' hh => PTo.yes hh (by omega) (by have := HP2.out; rw [hT2, hT1, List.append_assoc]; exact this)
      clear hT1 hT2 hlen l1 l2
      go_wp2_with (first | (go_at_call 11; refine (hN.out _ _).mono ?_; rintro e w4 ⟨rfl, rfl⟩))
      refine hp1.out.mono ?_
      rintro e w3 ⟨v3, rfl, hc3, hb3⟩
      have HC3 := Lib.hid hc3
      obtain ⟨yi, yj, yl, ym, yo, yp, yb, yc, yv, yw, ya, yq, yn, yr, rfl, _⟩ := row_slices hc3
      have HB3 := Lib.hid (Below.of HB2.out hb3)
      have r3 := RowL.new (T := 27) w3 [.int .i64 c.max, .slice yi c.inputs.length yj, .slice yl c.latches.length ym, .slice yo c.outputs.length yp, .slice yb c.bads.length yc, .slice yv c.invars.length yw, .slice ya c.ands.length yq, .slice yn c.names.length yr]
      have ha3 := (Below.refl w3.heap.size w3).alloc (Nat.le_refl _) (.cells #[.int .i64 c.max, .slice yi c.inputs.length yj, .slice yl c.latches.length ym, .slice yo c.outputs.length yp, .slice yb c.bads.length yc, .slice yv c.invars.length yw, .slice ya c.ands.length yq, .slice yn c.names.length yr] 27)
      obtain ⟨X3, hX3⟩ : ∃ X, X = w3.alloc (.cells #[.int .i64 c.max, .slice yi c.inputs.length yj, .slice yl c.latches.length ym, .slice yo c.outputs.length yp, .slice yb c.bads.length yc, .slice yv c.invars.length yw, .slice ya c.ands.length yq, .slice yn c.names.length yr] 27) := ⟨_, rfl⟩
      rw [← hX3] at r3 ha3
      have R3 := Lib.hid r3
      have A3 := Lib.hid ha3
      have HX3 := Lib.hid hX3
      clear hc3 hb3 r3 ha3 hX3 hp1
      go_wp2_with fail
      rw [← HX3.out]
      refine (hp2.out X3 (Below.of HB3.out A3.out)).mono ?_
      rintro e w5 ⟨v5, rfl, hc5, hb5⟩
      have HC5 := Lib.hid hc5
      obtain ⟨zi, zj, zl, zm, zo, zp, zb, zc, zv, zw, za, zq, zn, zr, rfl, _⟩ := row_slices hc5
      have HB5 := Lib.hid (Below.of (Below.of HB3.out A3.out) hb5)
      have R5 := Lib.hid (R3.out.mono hb5)
      have C5 := Lib.hid ((HC3.out.mono A3.out).mono hb5)
      have r6 := RowL.new (T := 27) w5 [.int .i64 c.max, .slice zi c.inputs.length zj, .slice zl c.latches.length zm, .slice zo c.outputs.length zp, .slice zb c.bads.length zc, .slice zv c.invars.length zw, .slice za c.ands.length zq, .slice zn c.names.length zr]
      have ha6 := (Below.refl w5.heap.size w5).alloc (Nat.le_refl _) (.cells #[.int .i64 c.max, .slice zi c.inputs.length zj, .slice zl c.latches.length zm, .slice zo c.outputs.length zp, .slice zb c.bads.length zc, .slice zv c.invars.length zw, .slice za c.ands.length zq, .slice zn c.names.length zr] 27)
      obtain ⟨X6, hX6⟩ : ∃ X, X = w5.alloc (.cells #[.int .i64 c.max, .slice zi c.inputs.length zj, .slice zl c.latches.length zm, .slice zo c.outputs.length zp, .slice zb c.bads.length zc, .slice zv c.invars.length zw, .slice za c.ands.length zq, .slice zn c.names.length zr] 27) := ⟨_, rfl⟩
      rw [← hX6] at r6 ha6
      have q6 := R5.out.mono ha6
      have hSm := Lib.hid (same_any c _ _ X6 (C5.out.mono ha6) (HC5.out.mono ha6) HSM.out)
      have HB6 := Lib.hid (Below.of HB5.out ha6)
      have HX6 := Lib.hid hX6
      have q := q6
      have q0 := q.cell 0 _ rfl
      have q1 := q.cell 1 _ rfl
      have q2 := q.cell 2 _ rfl
      have q3 := q.cell 3 _ rfl
      have q4 := q.cell 4 _ rfl
      have q5 := q.cell 5 _ rfl
      have q6 := q.cell 6 _ rfl
      have q7 := q.cell 7 _ rfl
      have z_ := r6
      have z_0 := z_.cell 0 _ rfl
      have z_1 := z_.cell 1 _ rfl
      have z_2 := z_.cell 2 _ rfl
      have z_3 := z_.cell 3 _ rfl
      have z_4 := z_.cell 4 _ rfl
      have z_5 := z_.cell 5 _ rfl
      have z_6 := z_.cell 6 _ rfl
      have z_7 := z_.cell 7 _ rfl
      rw [hX6] at q0 q1 q2 q3 q4 q5 q6 q7 z_0 z_1 z_2 z_3 z_4 z_5 z_6 z_7
      clear hc5 hb5 r6 ha6 hX6 q z_ R5 C5 HC3 HC5
      go_wp2_with (go_at_call 11; refine (hN.out _ _).mono ?_; rintro e w4 ⟨rfl, rfl⟩)
      rw [← HX6.out]
      refine hSm.out.mono ?_
      rintro e w7 ⟨rfl, hb7⟩
      clear q0 q1 q2 q3 q4 q5 q6 q7 z_0 z_1 z_2 z_3 z_4 z_5 z_6 z_7
      go_wp2_with fail
      go_ret
      exact ⟨by first | rfl | simp, Below.of HB6.out hb7⟩

end Go.Proofs.YtjcaejdokillgaaDoor
