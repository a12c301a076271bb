/- The walk of AagBack. -/
import Derived.Test.YtjcaejdokillgaaDoorZWalkJN
namespace Go.Proofs.YtjcaejdokillgaaDoor
open Go.RowKit Go.Shelf
attribute [local simp] mk_get


/-- what a text that was read looks like -/
theorem back_shape {s : List UInt8} {d : PC.Circ} (h : PJ.parse s = some d) : PC.chk d = true ∧ (PJ.text d).length ≤ s.length ∧ s.take (PJ.text d).length = PJ.text d ∧ ((PJ.text d).length = s.length ∨ ∃ h : (PJ.text d).length < s.length, s[(PJ.text d).length] = 99) := by
  obtain ⟨hc, rest, e, hr⟩ := PJ.parse_back h
  refine ⟨hc, by rw [e]; simp, by rw [e]; simp, ?_⟩
  rcases hr with rfl | ⟨r, rfl⟩
  · left; rw [e]; simp
  · right
    refine ⟨by rw [e]; simp, ?_⟩
    have h2 : (PJ.text d).length < (PJ.text d ++ 99 :: 10 :: r).length := by simp
    have : s[(PJ.text d).length]? = some 99 := by rw [e, List.getElem?_append_right (Nat.le_refl _), Nat.sub_self]; rfl
    obtain ⟨_, h4⟩ := List.getElem?_eq_some_iff.1 this
    exact h4

set_option maxRecDepth 100000 in
set_option maxHeartbeats 32000000 in
theorem aagBack_walk (c : PC.Circ) (vc : Value) (s : List UInt8) (m : Int) (w : World) (h : IsCirc w vc c) (hs : s.length ≤ 140737488355328) (hm : w.cell? ⟨0, 0, none⟩ = some (.int .i64 m)) :
    Calls Tryd.prog 3 #[vc, .string ⟨s.toArray⟩] w fun e w' => e = .returned (.bool true) ∧ Below w.heap.size w w' := by
  have HC := Lib.hid h
  have HM := Lib.hid hm
  obtain ⟨xi, xj, xl, xm, xo, xp, xb, xc, xv, xw, xa, xq, xn, xr, rfl, hp⟩ := row_slices h
  clear h hp hm
  have r1 := RowL.new (T := 27) w [.int .i64 c.max, .slice xi c.inputs.length xj, .slice xl c.latches.length xm, .slice xo c.outputs.length xp, .slice xb c.bads.length xc, .slice xv c.invars.length xw, .slice xa c.ands.length xq, .slice xn c.names.length xr]
  have hb0 := (Below.refl w.heap.size w).alloc (Nat.le_refl _) (.cells #[.int .i64 c.max, .slice xi c.inputs.length xj, .slice xl c.latches.length xm, .slice xo c.outputs.length xp, .slice xb c.bads.length xc, .slice xv c.invars.length xw, .slice xa c.ands.length xq, .slice xn c.names.length xr] 27)
  obtain ⟨X, hX⟩ : ∃ X, X = w.alloc (.cells #[.int .i64 c.max, .slice xi c.inputs.length xj, .slice xl c.latches.length xm, .slice xo c.outputs.length xp, .slice xb c.bads.length xc, .slice xv c.invars.length xw, .slice xa c.ands.length xq, .slice xn c.names.length xr] 27) := ⟨_, rfl⟩
  rw [← hX] at r1 hb0
  have R1 := Lib.hid r1
  have HB0 := Lib.hid hb0
  have HX := Lib.hid hX
  clear hX r1 hb0
  have hN := Lib.hid fun x y => num04_any x y
  go_enter Tryd.func3, Tryd.ntmps3
  go_wp2_with fail
  rw [← HX.out]
  refine (alive04_any _).mono ?_
  rintro e w1 ⟨rfl, hb1⟩
  have HB1 := Lib.hid (Below.of HB0.out hb1)
  have S1 := Lib.hid (R1.out.mono hb1)
  clear hb1 R1 HB0 HX
  have hPr := jPrint_any c _ w1 (HC.out.mono HB1.out)
  have HMw := Lib.hid fun (y : World) (hy : Below w.heap.size w y) => (hy.cell (World.block_lt_of_cell? w _ HM.out)).trans HM.out
  cases hck : PC.chk c with
  | false =>
    rw [hck] at hPr
    simp only [Bool.false_eq_true, if_false] at hPr
    have hPr := Lib.hid hPr
    clear hck
    have q := S1.out
    have q0 := q.cell 0 _ rfl
    have q1 := q.cell 1 _ rfl
    have q2 := q.cell 2 _ rfl
    have q3 := q.cell 3 _ rfl
    have q4 := q.cell 4 _ rfl
    have q5 := q.cell 5 _ rfl
    have q6 := q.cell 6 _ rfl
    have q7 := q.cell 7 _ rfl
    go_wp2_with fail
    refine hPr.out.mono ?_
    rintro e w2 ⟨rfl, hb2⟩
    clear q q0 q1 q2 q3 q4 q5 q6 q7
    have HB2 := Lib.hid (Below.of HB1.out hb2)
    clear hb2
    have hp5 := Lib.hid (jParse_any s m w2 (by omega) (HMw.out w2 HB2.out))
    go_wp2_with (go_at_call 11; refine (hN.out _ _).mono ?_; rintro e w4 ⟨rfl, rfl⟩)
    refine hp5.out.mono ?_
    intro e w5 hPT
    clear hp5
    by_cases hpos : s.length ≤ 65536 ∧ ∃ d, PJ.parse s = some d
    · obtain ⟨hsl, dc, hps⟩ := hpos
      obtain ⟨v5, rfl, hc5, hb5⟩ := hPT.yes hsl hps
      obtain ⟨hdk, hdl, hdt, hdr⟩ := back_shape hps
      have HC5 := Lib.hid hc5
      obtain ⟨zi, zj, zl, zm, zo, zp, zb, zc, zv, zw, za, zq, zn, zr, rfl, _⟩ := row_slices hc5
      have HB5 := Lib.hid (Below.of HB2.out hb5)
      have r6 := RowL.new (T := 27) w5 [.int .i64 dc.max, .slice zi dc.inputs.length zj, .slice zl dc.latches.length zm, .slice zo dc.outputs.length zp, .slice zb dc.bads.length zc, .slice zv dc.invars.length zw, .slice za dc.ands.length zq, .slice zn dc.names.length zr]
      have ha6 := (Below.refl w5.heap.size w5).alloc (Nat.le_refl _) (.cells #[.int .i64 dc.max, .slice zi dc.inputs.length zj, .slice zl dc.latches.length zm, .slice zo dc.outputs.length zp, .slice zb dc.bads.length zc, .slice zv dc.invars.length zw, .slice za dc.ands.length zq, .slice zn dc.names.length zr] 27)
      obtain ⟨X6, hX6⟩ : ∃ X, X = w5.alloc (.cells #[.int .i64 dc.max, .slice zi dc.inputs.length zj, .slice zl dc.latches.length zm, .slice zo dc.outputs.length zp, .slice zb dc.bads.length zc, .slice zv dc.invars.length zw, .slice za dc.ands.length zq, .slice zn dc.names.length zr] 27) := ⟨_, rfl⟩
      rw [← hX6] at r6 ha6
      have hPr2 := jPrint_any dc _ X6 (HC5.out.mono ha6)
      rw [hdk] at hPr2
      simp only [if_true] at hPr2
      obtain ⟨U, hU⟩ : ∃ U, U = PJ.text dc := ⟨_, rfl⟩
      rw [← hU] at hPr2 hdl hdt hdr
      have hPr2 := Lib.hid hPr2
      have HB6 := Lib.hid (Below.of HB5.out ha6)
      have HX6 := Lib.hid hX6
      have hdz : (U.length : Int) ≤ (s.length : Int) := by omega
      have hex : (ByteArray.mk s.toArray).extract 0 U.length = ⟨U.toArray⟩ := by rw [take_ext, hdt]
      have q := r6
      have q0 := q.cell 0 _ rfl
      have q1 := q.cell 1 _ rfl
      have q2 := q.cell 2 _ rfl
      have q3 := q.cell 3 _ rfl
      have q4 := q.cell 4 _ rfl
      have q5 := q.cell 5 _ rfl
      have q6 := q.cell 6 _ rfl
      have q7 := q.cell 7 _ rfl
      rw [hX6] at q0 q1 q2 q3 q4 q5 q6 q7
      have HDT := Lib.hid hdt
      clear hPT hc5 hb5 r6 ha6 hX6 q hU hdt hps hdk
      go_wp2_with (go_at_call 11; refine (hN.out _ _).mono ?_; rintro e w4 ⟨rfl, rfl⟩)
      rw [← HX6.out]
      refine hPr2.out.mono ?_
      rintro e w7 ⟨rfl, hb7⟩
      have HB7 := Lib.hid (Below.of HB6.out hb7)
      clear q0 q1 q2 q3 q4 q5 q6 q7 hb7
      have eU : (U == U) = true := by simp
      rcases hdr with hdr | ⟨hdr, hd9⟩
      · have hUs : U = s := by rw [← HDT.out, hdr, List.take_length]
        clear HDT hdr hdz hdl HX6 HB6 hPr2
        subst hUs
        have hnn : ¬ (U.length : Int) < (U.length : Int) := by omega
        go_wp2_with (go_at_call 11; refine (hN.out _ _).mono ?_; rintro e w4 ⟨rfl, rfl⟩)
        go_ret
        exact ⟨by first | rfl | simp, HB7.out⟩
      · have hdrz : (U.length : Int) < (s.length : Int) := by omega
        have hdrn : ¬ (U.length : Int) = (s.length : Int) := by omega
        have hdrb : ((U.length : Int) == (s.length : Int)) = false := by simpa using hdrn
        go_wp2_with (go_at_call 11; refine (hN.out _ _).mono ?_; rintro e w4 ⟨rfl, rfl⟩)
        go_ret
        exact ⟨by first | rfl | simp, HB7.out⟩
    · obtain ⟨at2, er, her, rfl, hb5⟩ := hPT.no (by
        by_cases h1 : 65536 < s.length
        · exact .inl h1
        · right
          cases hq : PJ.parse s with
          | none => rfl
          | some d => exact absurd ⟨by omega, d, hq⟩ hpos)
      have HB5 := Lib.hid (Below.of HB2.out hb5)
      have ha6 := (Below.refl w5.heap.size w5).alloc (Nat.le_refl _) (.cells #[.int .i64 0, .slice none 0 0, .slice none 0 0, .slice none 0 0, .slice none 0 0, .slice none 0 0, .slice none 0 0, .slice none 0 0] 27)
      have HB6 := Lib.hid (Below.of HB5.out ha6)
      have hSm := Lib.hid (same_any noC _ _ (w5.alloc (.cells #[.int .i64 0, .slice none 0 0, .slice none 0 0, .slice none 0 0, .slice none 0 0, .slice none 0 0, .slice none 0 0, .slice none 0 0] 27)) (noC_isJ _) (noC_isJ _) (by decide))
      have herb : (er != 0) = true := by simpa using her
      have hern : ¬ er = 0 := her
      clear hPT hb5 ha6 her hpos
      go_wp2_with (go_at_call 11; refine (hN.out _ _).mono ?_; rintro e w4 ⟨rfl, rfl⟩)
      refine hSm.out.mono ?_
      rintro e w7 ⟨rfl, hb7⟩
      go_wp2_with fail
      go_ret
      exact ⟨by first | rfl | simp, Below.of HB6.out hb7⟩
  | true =>
    rw [hck] at hPr
    simp only [if_true] at hPr
    have hTL := PJ.text_len hck
    have hpt : PJ.parse (PJ.text c) = some c := by have := PJ.parse_text hck (rest := []) (.inl rfl); rwa [List.append_nil] at this
    obtain ⟨T, hT⟩ : ∃ T, T = PJ.text c := ⟨_, rfl⟩
    rw [← hT] at hPr hTL hpt
    have hPr := Lib.hid hPr
    have HP1 := Lib.hid hpt
    have HSM := Lib.hid (circ_small hck)
    clear hck hT hpt
    have q := S1.out
    have q0 := q.cell 0 _ rfl
    have q1 := q.cell 1 _ rfl
    have q2 := q.cell 2 _ rfl
    have q3 := q.cell 3 _ rfl
    have q4 := q.cell 4 _ rfl
    have q5 := q.cell 5 _ rfl
    have q6 := q.cell 6 _ rfl
    have q7 := q.cell 7 _ rfl
    go_wp2_with fail
    refine hPr.out.mono ?_
    rintro e w2 ⟨rfl, hb2⟩
    clear q q0 q1 q2 q3 q4 q5 q6 q7
    have HB2 := Lib.hid (Below.of HB1.out hb2)
    have S2 := Lib.hid (S1.out.mono hb2)
    clear hb2 S1 hPr
    by_cases hlen : 65536 < T.length
    · have hlz : ¬ (T.length : Int) ≤ 65536 := by omega
      clear hlen
      have hp5 := Lib.hid (jParse_any s m w2 (by omega) (HMw.out w2 HB2.out))
      go_wp2_with (go_at_call 11; refine (hN.out _ _).mono ?_; rintro e w4 ⟨rfl, rfl⟩)
      refine hp5.out.mono ?_
      intro e w5 hPT
      clear hp5
      by_cases hpos : s.length ≤ 65536 ∧ ∃ d, PJ.parse s = some d
      · obtain ⟨hsl, dc, hps⟩ := hpos
        obtain ⟨v5, rfl, hc5, hb5⟩ := hPT.yes hsl hps
        obtain ⟨hdk, hdl, hdt, hdr⟩ := back_shape hps
        have HC5 := Lib.hid hc5
        obtain ⟨zi, zj, zl, zm, zo, zp, zb, zc, zv, zw, za, zq, zn, zr, rfl, _⟩ := row_slices hc5
        have HB5 := Lib.hid (Below.of HB2.out hb5)
        have r6 := RowL.new (T := 27) w5 [.int .i64 dc.max, .slice zi dc.inputs.length zj, .slice zl dc.latches.length zm, .slice zo dc.outputs.length zp, .slice zb dc.bads.length zc, .slice zv dc.invars.length zw, .slice za dc.ands.length zq, .slice zn dc.names.length zr]
        have ha6 := (Below.refl w5.heap.size w5).alloc (Nat.le_refl _) (.cells #[.int .i64 dc.max, .slice zi dc.inputs.length zj, .slice zl dc.latches.length zm, .slice zo dc.outputs.length zp, .slice zb dc.bads.length zc, .slice zv dc.invars.length zw, .slice za dc.ands.length zq, .slice zn dc.names.length zr] 27)
        obtain ⟨X6, hX6⟩ : ∃ X, X = w5.alloc (.cells #[.int .i64 dc.max, .slice zi dc.inputs.length zj, .slice zl dc.latches.length zm, .slice zo dc.outputs.length zp, .slice zb dc.bads.length zc, .slice zv dc.invars.length zw, .slice za dc.ands.length zq, .slice zn dc.names.length zr] 27) := ⟨_, rfl⟩
        rw [← hX6] at r6 ha6
        have hPr2 := jPrint_any dc _ X6 (HC5.out.mono ha6)
        rw [hdk] at hPr2
        simp only [if_true] at hPr2
        obtain ⟨U, hU⟩ : ∃ U, U = PJ.text dc := ⟨_, rfl⟩
        rw [← hU] at hPr2 hdl hdt hdr
        have hPr2 := Lib.hid hPr2
        have HB6 := Lib.hid (Below.of HB5.out ha6)
        have HX6 := Lib.hid hX6
        have hdz : (U.length : Int) ≤ (s.length : Int) := by omega
        have hex : (ByteArray.mk s.toArray).extract 0 U.length = ⟨U.toArray⟩ := by rw [take_ext, hdt]
        have q := r6
        have q0 := q.cell 0 _ rfl
        have q1 := q.cell 1 _ rfl
        have q2 := q.cell 2 _ rfl
        have q3 := q.cell 3 _ rfl
        have q4 := q.cell 4 _ rfl
        have q5 := q.cell 5 _ rfl
        have q6 := q.cell 6 _ rfl
        have q7 := q.cell 7 _ rfl
        rw [hX6] at q0 q1 q2 q3 q4 q5 q6 q7
        have HDT := Lib.hid hdt
        clear hPT hc5 hb5 r6 ha6 hX6 q hU hdt hps hdk
        go_wp2_with (go_at_call 11; refine (hN.out _ _).mono ?_; rintro e w4 ⟨rfl, rfl⟩)
        rw [← HX6.out]
        refine hPr2.out.mono ?_
        rintro e w7 ⟨rfl, hb7⟩
        have HB7 := Lib.hid (Below.of HB6.out hb7)
        clear q0 q1 q2 q3 q4 q5 q6 q7 hb7
        have eU : (U == U) = true := by simp
        rcases hdr with hdr | ⟨hdr, hd9⟩
        · have hUs : U = s := by rw [← HDT.out, hdr, List.take_length]
          clear HDT hdr hdz hdl HX6 HB6 hPr2
          subst hUs
          have hnn : ¬ (U.length : Int) < (U.length : Int) := by omega
          go_wp2_with (go_at_call 11; refine (hN.out _ _).mono ?_; rintro e w4 ⟨rfl, rfl⟩)
          go_ret
          exact ⟨by first | rfl | simp, HB7.out⟩
        · have hdrz : (U.length : Int) < (s.length : Int) := by omega
          have hdrn : ¬ (U.length : Int) = (s.length : Int) := by omega
          have hdrb : ((U.length : Int) == (s.length : Int)) = false := by simpa using hdrn
          go_wp2_with (go_at_call 11; refine (hN.out _ _).mono ?_; rintro e w4 ⟨rfl, rfl⟩)
          go_ret
          exact ⟨by first | rfl | simp, HB7.out⟩
      · obtain ⟨at2, er, her, rfl, hb5⟩ := hPT.no (by
          by_cases h1 : 65536 < s.length
          · exact .inl h1
          · right
            cases hq : PJ.parse s with
            | none => rfl
            | some d => exact absurd ⟨by omega, d, hq⟩ hpos)
        have HB5 := Lib.hid (Below.of HB2.out hb5)
        have ha6 := (Below.refl w5.heap.size w5).alloc (Nat.le_refl _) (.cells #[.int .i64 0, .slice none 0 0, .slice none 0 0, .slice none 0 0, .slice none 0 0, .slice none 0 0, .slice none 0 0, .slice none 0 0] 27)
        have HB6 := Lib.hid (Below.of HB5.out ha6)
        have hSm := Lib.hid (same_any noC _ _ (w5.alloc (.cells #[.int .i64 0, .slice none 0 0, .slice none 0 0, .slice none 0 0, .slice none 0 0, .slice none 0 0, .slice none 0 0, .slice none 0 0] 27)) (noC_isJ _) (noC_isJ _) (by decide))
        have herb : (er != 0) = true := by simpa using her
        have hern : ¬ er = 0 := her
        clear hPT hb5 ha6 her hpos
        go_wp2_with (go_at_call 11; refine (hN.out _ _).mono ?_; rintro e w4 ⟨rfl, rfl⟩)
        refine hSm.out.mono ?_
        rintro e w7 ⟨rfl, hb7⟩
        go_wp2_with fail
        go_ret
        exact ⟨by first | rfl | simp, Below.of HB6.out hb7⟩
    · have hlz : (T.length : Int) ≤ 65536 := by omega
      have hp1 := Lib.hid ((jParse_any T m w2 (by omega) (HMw.out w2 HB2.out)).mono fun e w' hh => PTo.yes hh (by omega) HP1.out)
      clear hlen
      go_wp2_with (go_at_call 11; refine (hN.out _ _).mono ?_; rintro e w4 ⟨rfl, rfl⟩)
      refine hp1.out.mono ?_
      rintro e w3 ⟨v3, rfl, hc3, hb3⟩
      have HC3 := Lib.hid hc3
      obtain ⟨yi, yj, yl, ym, yo, yp, yb, yc, yv, yw, ya, yq, yn, yr, rfl, _⟩ := row_slices hc3
      have HB3 := Lib.hid (Below.of HB2.out hb3)
      have r3 := RowL.new (T := 27) w3 [.int .i64 c.max, .slice yi c.inputs.length yj, .slice yl c.latches.length ym, .slice yo c.outputs.length yp, .slice yb c.bads.length yc, .slice yv c.invars.length yw, .slice ya c.ands.length yq, .slice yn c.names.length yr]
      have ha3 := (Below.refl w3.heap.size w3).alloc (Nat.le_refl _) (.cells #[.int .i64 c.max, .slice yi c.inputs.length yj, .slice yl c.latches.length ym, .slice yo c.outputs.length yp, .slice yb c.bads.length yc, .slice yv c.invars.length yw, .slice ya c.ands.length yq, .slice yn c.names.length yr] 27)
      obtain ⟨X3, hX3⟩ : ∃ X, X = w3.alloc (.cells #[.int .i64 c.max, .slice yi c.inputs.length yj, .slice yl c.latches.length ym, .slice yo c.outputs.length yp, .slice yb c.bads.length yc, .slice yv c.invars.length yw, .slice ya c.ands.length yq, .slice yn c.names.length yr] 27) := ⟨_, rfl⟩
      rw [← hX3] at r3 ha3
      have s3 := (S2.out.mono hb3).mono ha3
      have hSm := Lib.hid (same_any c _ _ X3 (HC.out.mono (Below.of HB3.out ha3)) (HC3.out.mono ha3) HSM.out)
      have HA3 := Lib.hid (Below.of HB3.out ha3)
      have HX3 := Lib.hid hX3
      have q := s3
      have q0 := q.cell 0 _ rfl
      have q1 := q.cell 1 _ rfl
      have q2 := q.cell 2 _ rfl
      have q3 := q.cell 3 _ rfl
      have q4 := q.cell 4 _ rfl
      have q5 := q.cell 5 _ rfl
      have q6 := q.cell 6 _ rfl
      have q7 := q.cell 7 _ rfl
      have z_ := r3
      have z_0 := z_.cell 0 _ rfl
      have z_1 := z_.cell 1 _ rfl
      have z_2 := z_.cell 2 _ rfl
      have z_3 := z_.cell 3 _ rfl
      have z_4 := z_.cell 4 _ rfl
      have z_5 := z_.cell 5 _ rfl
      have z_6 := z_.cell 6 _ rfl
      have z_7 := z_.cell 7 _ rfl
      rw [hX3] at q0 q1 q2 q3 q4 q5 q6 q7 z_0 z_1 z_2 z_3 z_4 z_5 z_6 z_7
      clear hc3 hb3 r3 ha3 hX3 q z_ S2 HC3
      go_wp2_with (go_at_call 11; refine (hN.out _ _).mono ?_; rintro e w4 ⟨rfl, rfl⟩)
      rw [← HX3.out]
      refine hSm.out.mono ?_
      rintro e w6 ⟨rfl, hb6⟩
      clear q0 q1 q2 q3 q4 q5 q6 q7 z_0 z_1 z_2 z_3 z_4 z_5 z_6 z_7
      have HB6 := Lib.hid (Below.of HA3.out hb6)
      clear hb6
      have hp5 := Lib.hid (jParse_any s m w6 (by omega) (HMw.out w6 HB6.out))
      go_wp2_with (go_at_call 11; refine (hN.out _ _).mono ?_; rintro e w4 ⟨rfl, rfl⟩)
      refine hp5.out.mono ?_
      intro e w5 hPT
      clear hp5
      by_cases hpos : s.length ≤ 65536 ∧ ∃ d, PJ.parse s = some d
      · obtain ⟨hsl, dc, hps⟩ := hpos
        obtain ⟨v5, rfl, hc5, hb5⟩ := hPT.yes hsl hps
        obtain ⟨hdk, hdl, hdt, hdr⟩ := back_shape hps
        have HC5 := Lib.hid hc5
        obtain ⟨zi, zj, zl, zm, zo, zp, zb, zc, zv, zw, za, zq, zn, zr, rfl, _⟩ := row_slices hc5
        have HB5 := Lib.hid (Below.of HB6.out hb5)
        have r6 := RowL.new (T := 27) w5 [.int .i64 dc.max, .slice zi dc.inputs.length zj, .slice zl dc.latches.length zm, .slice zo dc.outputs.length zp, .slice zb dc.bads.length zc, .slice zv dc.invars.length zw, .slice za dc.ands.length zq, .slice zn dc.names.length zr]
        have ha6 := (Below.refl w5.heap.size w5).alloc (Nat.le_refl _) (.cells #[.int .i64 dc.max, .slice zi dc.inputs.length zj, .slice zl dc.latches.length zm, .slice zo dc.outputs.length zp, .slice zb dc.bads.length zc, .slice zv dc.invars.length zw, .slice za dc.ands.length zq, .slice zn dc.names.length zr] 27)
        obtain ⟨X6, hX6⟩ : ∃ X, X = w5.alloc (.cells #[.int .i64 dc.max, .slice zi dc.inputs.length zj, .slice zl dc.latches.length zm, .slice zo dc.outputs.length zp, .slice zb dc.bads.length zc, .slice zv dc.invars.length zw, .slice za dc.ands.length zq, .slice zn dc.names.length zr] 27) := ⟨_, rfl⟩
        rw [← hX6] at r6 ha6
        have hPr2 := jPrint_any dc _ X6 (HC5.out.mono ha6)
        rw [hdk] at hPr2
        simp only [if_true] at hPr2
        obtain ⟨U, hU⟩ : ∃ U, U = PJ.text dc := ⟨_, rfl⟩
        rw [← hU] at hPr2 hdl hdt hdr
        have hPr2 := Lib.hid hPr2
        have HB6 := Lib.hid (Below.of HB5.out ha6)
        have HX6 := Lib.hid hX6
        have hdz : (U.length : Int) ≤ (s.length : Int) := by omega
        have hex : (ByteArray.mk s.toArray).extract 0 U.length = ⟨U.toArray⟩ := by rw [take_ext, hdt]
        have q := r6
        have q0 := q.cell 0 _ rfl
        have q1 := q.cell 1 _ rfl
        have q2 := q.cell 2 _ rfl
        have q3 := q.cell 3 _ rfl
        have q4 := q.cell 4 _ rfl
        have q5 := q.cell 5 _ rfl
        have q6 := q.cell 6 _ rfl
        have q7 := q.cell 7 _ rfl
        rw [hX6] at q0 q1 q2 q3 q4 q5 q6 q7
        have HDT := Lib.hid hdt
        clear hPT hc5 hb5 r6 ha6 hX6 q hU hdt hps hdk
        go_wp2_with (go_at_call 11; refine (hN.out _ _).mono ?_; rintro e w4 ⟨rfl, rfl⟩)
        rw [← HX6.out]
        refine hPr2.out.mono ?_
        rintro e w7 ⟨rfl, hb7⟩
        have HB7 := Lib.hid (Below.of HB6.out hb7)
        clear q0 q1 q2 q3 q4 q5 q6 q7 hb7
        have eU : (U == U) = true := by simp
        rcases hdr with hdr | ⟨hdr, hd9⟩
        · have hUs : U = s := by rw [← HDT.out, hdr, List.take_length]
          clear HDT hdr hdz hdl HX6 HB6 hPr2
          subst hUs
          have hnn : ¬ (U.length : Int) < (U.length : Int) := by omega
          go_wp2_with (go_at_call 11; refine (hN.out _ _).mono ?_; rintro e w4 ⟨rfl, rfl⟩)
          go_ret
          exact ⟨by first | rfl | simp, HB7.out⟩
        · have hdrz : (U.length : Int) < (s.length : Int) := by omega
          have hdrn : ¬ (U.length : Int) = (s.length : Int) := by omega
          have hdrb : ((U.length : Int) == (s.length : Int)) = false := by simpa using hdrn
          go_wp2_with (go_at_call 11; refine (hN.out _ _).mono ?_; rintro e w4 ⟨rfl, rfl⟩)
          go_ret
          exact ⟨by first | rfl | simp, HB7.out⟩
      · obtain ⟨at2, er, her, rfl, hb5⟩ := hPT.no (by
          by_cases h1 : 65536 < s.length
          · exact .inl h1
          · right
            cases hq : PJ.parse s with
            | none => rfl
            | some d => exact absurd ⟨by omega, d, hq⟩ hpos)
        have HB5 := Lib.hid (Below.of HB6.out hb5)
        have ha6 := (Below.refl w5.heap.size w5).alloc (Nat.le_refl _) (.cells #[.int .i64 0, .slice none 0 0, .slice none 0 0, .slice none 0 0, .slice none 0 0, .slice none 0 0, .slice none 0 0, .slice none 0 0] 27)
        have HB6 := Lib.hid (Below.of HB5.out ha6)
        have hSm := Lib.hid (same_any noC _ _ (w5.alloc (.cells #[.int .i64 0, .slice none 0 0, .slice none 0 0, .slice none 0 0, .slice none 0 0, .slice none 0 0, .slice none 0 0, .slice none 0 0] 27)) (noC_isJ _) (noC_isJ _) (by decide))
        have herb : (er != 0) = true := by simpa using her
        have hern : ¬ er = 0 := her
        clear hPT hb5 ha6 her hpos
        go_wp2_with (go_at_call 11; refine (hN.out _ _).mono ?_; rintro e w4 ⟨rfl, rfl⟩)
        refine hSm.out.mono ?_
        rintro e w7 ⟨rfl, hb7⟩
        go_wp2_with fail
        go_ret
        exact ⟨by first | rfl | simp, Below.of HB6.out hb7⟩

end Go.Proofs.YtjcaejdokillgaaDoor
