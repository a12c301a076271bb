/- The walk of AigBack. -/
import Derived.Test.YtjcaejdokillgaaDoorZIA
namespace Go.Proofs.YtjcaejdokillgaaDoor
open Go.RowKit Go.Shelf
attribute [local simp] mk_get


theorem circ_smallI {c : PC.Circ} (hc : PC.chk c = true) : c.latches.length ≤ 9223372036854775806 ∧ c.ands.length ≤ 9223372036854775806 ∧ c.names.length ≤ 9223372036854775806 := by
  have hR := PC.right_of c hc
  have h1 := hR.lats
  have h2 := PC.ands_len c hR
  have h3 := (PA.names_ok hc).1
  omega
theorem chk_of {c : PC.Circ} (h : PA.ordered c = true) : PC.chk c = true := by unfold PA.ordered at h; simp only [Bool.and_eq_true] at h; exact h.1

set_option maxRecDepth 100000 in
set_option maxHeartbeats 32000000 in
theorem aigBack_walk (c : PC.Circ) (vc : Value) (s : List UInt8) (vb : Value) (m : Int) (w : World) (h : IsCirc w vc c) (hf : c.ands.length * 8 ≤ 140737488351232) (hsv : Octs w vb s) (hs : s.length ≤ 9223372036854775807) (hm : w.cell? ⟨0, 0, none⟩ = some (.int .i64 m)) :
    Calls Tryd.prog 7 #[vc, vb] w fun e w' => e = .returned (.bool true) ∧ Below w.heap.size w w' := by
  have HC := Lib.hid h
  have HM := Lib.hid hm
  have HS := Lib.hid hsv
  obtain ⟨xi, xj, xl, xm, xo, xp, xb, xc, xv, xw, xa, xq, xn, xr, rfl, hp⟩ := row_slices h
  clear h hp hm hsv
  have r1 := RowL.new (T := 27) w [.int .i64 c.max, .slice xi c.inputs.length xj, .slice xl c.latches.length xm, .slice xo c.outputs.length xp, .slice xb c.bads.length xc, .slice xv c.invars.length xw, .slice xa c.ands.length xq, .slice xn c.names.length xr]
  have hb0 := (Below.refl w.heap.size w).alloc (Nat.le_refl _) (.cells #[.int .i64 c.max, .slice xi c.inputs.length xj, .slice xl c.latches.length xm, .slice xo c.outputs.length xp, .slice xb c.bads.length xc, .slice xv c.invars.length xw, .slice xa c.ands.length xq, .slice xn c.names.length xr] 27)
  obtain ⟨X, hX⟩ : ∃ X, X = w.alloc (.cells #[.int .i64 c.max, .slice xi c.inputs.length xj, .slice xl c.latches.length xm, .slice xo c.outputs.length xp, .slice xb c.bads.length xc, .slice xv c.invars.length xw, .slice xa c.ands.length xq, .slice xn c.names.length xr] 27) := ⟨_, rfl⟩
  rw [← hX] at r1 hb0
  have R1 := Lib.hid r1
  have HB0 := Lib.hid hb0
  have HX := Lib.hid hX
  clear hX r1 hb0
  have hN := Lib.hid fun x y => num05_any x y
  have HMw := Lib.hid fun (y : World) (hy : Below w.heap.size w y) => (hy.cell (World.block_lt_of_cell? w _ HM.out)).trans HM.out
  have HOR := Lib.hid fun (y : World) (hy : Below w.heap.size w y) => ordered05_any c _ y (HC.out.mono hy) hf
  go_enter Tryd.func7, Tryd.ntmps7
  go_wp2_with fail
  rw [← HX.out]
  refine (alive05_any _).mono ?_
  rintro e w1 ⟨rfl, hb1⟩
  have HB1 := Lib.hid (Below.of HB0.out hb1)
  have S1 := Lib.hid (R1.out.mono hb1)
  clear hb1 R1 HB0 HX
  have hW := Lib.hid (aWrite_any c _ w1 (HC.out.mono HB1.out))
  have q := S1.out
  have q0 := q.cell 0 _ rfl
  have q1 := q.cell 1 _ rfl
  have q2 := q.cell 2 _ rfl
  have q3 := q.cell 3 _ rfl
  have q4 := q.cell 4 _ rfl
  have q5 := q.cell 5 _ rfl
  have q6 := q.cell 6 _ rfl
  have q7 := q.cell 7 _ rfl
  go_wp2_with fail
  refine hW.out.mono ?_
  rintro e w2 ⟨v, rfl, hyes, hno, hb2⟩
  clear q q0 q1 q2 q3 q4 q5 q6 q7
  have HB2 := Lib.hid (Below.of HB1.out hb2)
  have S2 := Lib.hid (S1.out.mono hb2)
  have hO2 : ∀ x : Later w2, _ := fun x => HOR.out x.at_ (Below.of HB2.out x.below)
  clear hb2 hW S1 HOR
  have l0 : ∀ x : Later w2, _ := fun x => (S2.out.mono x.below).cell 0 _ rfl
  have l1 : ∀ x : Later w2, _ := fun x => (S2.out.mono x.below).cell 1 _ rfl
  have l2 : ∀ x : Later w2, _ := fun x => (S2.out.mono x.below).cell 2 _ rfl
  have l3 : ∀ x : Later w2, _ := fun x => (S2.out.mono x.below).cell 3 _ rfl
  have l4 : ∀ x : Later w2, _ := fun x => (S2.out.mono x.below).cell 4 _ rfl
  have l5 : ∀ x : Later w2, _ := fun x => (S2.out.mono x.below).cell 5 _ rfl
  have l6 : ∀ x : Later w2, _ := fun x => (S2.out.mono x.below).cell 6 _ rfl
  have l7 : ∀ x : Later w2, _ := fun x => (S2.out.mono x.below).cell 7 _ rfl
  cases hck : PA.ordered c with
  | false =>
    have := hno hck
    subst this
    rw [hck] at hO2
    rw [if_neg (by simp)]
    clear hyes hno hck
    have hN2 : ∀ x : Later w2, _ := fun x => num05_any 35 x.at_
    go_wp2_with fail
    refine wp_region_later (by kernel_rfl) (by kernel_rfl) ?_; (repeat (go_big_quiet_step ((first | (go_at_call 21; with_reducible exact Calls.later_same (hN2 _)) | (go_at_call 22; with_reducible exact Calls.later (hO2 _)))))); refine wpQuiet_nil ?_; rintro w3 ⟨⟨_, hb3⟩, rfl⟩
    clear l0 l1 l2 l3 l4 l5 l6 l7 hO2 hN2
    have HB3 := Lib.hid (Below.of HB2.out hb3)
    clear hb3
    have hp5 := Lib.hid (iRead_any s vb m w3 (HS.out.mono HB3.out) hs (HMw.out w3 HB3.out))
    go_wp2_with (go_at_call 21; refine (hN.out _ _).mono ?_; rintro e w4 ⟨rfl, rfl⟩)
    refine hp5.out.mono ?_
    intro e w5 hPT
    clear hp5
    by_cases hlg : s.length ≤ 65536
    case neg =>
      obtain ⟨rfl, hb5⟩ := hPT.long (by omega)
      have HB5 := Lib.hid (Below.of HB3.out hb5)
      have ha6 := (Below.refl w5.heap.size w5).alloc (Nat.le_refl _) (.cells #[.int .i64 0, .slice none 0 0, .slice none 0 0, .slice none 0 0, .slice none 0 0, .slice none 0 0, .slice none 0 0, .slice none 0 0] 27)
      have HB6 := Lib.hid (Below.of HB5.out ha6)
      have hSm := Lib.hid (same_any noCI _ _ (w5.alloc (.cells #[.int .i64 0, .slice none 0 0, .slice none 0 0, .slice none 0 0, .slice none 0 0, .slice none 0 0, .slice none 0 0, .slice none 0 0] 27)) (noC_is _) (noC_is _) (by decide))
      clear hPT hb5 ha6
      go_wp2_with (go_at_call 21; refine (hN.out _ _).mono ?_; rintro e w4 ⟨rfl, rfl⟩)
      refine hSm.out.mono ?_
      rintro e w7 ⟨rfl, hb7⟩
      go_wp2_with fail
      go_ret
      exact ⟨by first | rfl | simp, Below.of HB6.out hb7⟩
    cases hps : PI.parse s with
    | none =>
      obtain ⟨rfl, hb5⟩ := hPT.no hlg hps
      have HB5 := Lib.hid (Below.of HB3.out hb5)
      have ha6 := (Below.refl w5.heap.size w5).alloc (Nat.le_refl _) (.cells #[.int .i64 0, .slice none 0 0, .slice none 0 0, .slice none 0 0, .slice none 0 0, .slice none 0 0, .slice none 0 0, .slice none 0 0] 27)
      have HB6 := Lib.hid (Below.of HB5.out ha6)
      have hSm := Lib.hid (same_any noCI _ _ (w5.alloc (.cells #[.int .i64 0, .slice none 0 0, .slice none 0 0, .slice none 0 0, .slice none 0 0, .slice none 0 0, .slice none 0 0, .slice none 0 0] 27)) (noC_is _) (noC_is _) (by decide))
      clear hPT hb5 ha6
      go_wp2_with (go_at_call 21; refine (hN.out _ _).mono ?_; rintro e w4 ⟨rfl, rfl⟩)
      refine hSm.out.mono ?_
      rintro e w7 ⟨rfl, hb7⟩
      go_wp2_with fail
      go_ret
      exact ⟨by first | rfl | simp, Below.of HB6.out hb7⟩
    | some dc =>
      obtain ⟨v5, rfl, hc5, hb5⟩ := hPT.yes hlg hps
      obtain ⟨hdk, hdt⟩ := PI.parse_back hps
      have HC5 := Lib.hid hc5
      obtain ⟨zi, zj, zl, zm, zo, zp, zb, zc, zv, zw, za, zq, zn, zr, rfl, _⟩ := row_slices hc5
      have HB5 := Lib.hid (Below.of HB3.out hb5)
      have r6 := RowL.new (T := 27) w5 [.int .i64 dc.max, .slice zi dc.inputs.length zj, .slice zl dc.latches.length zm, .slice zo dc.outputs.length zp, .slice zb dc.bads.length zc, .slice zv dc.invars.length zw, .slice za dc.ands.length zq, .slice zn dc.names.length zr]
      have ha6 := (Below.refl w5.heap.size w5).alloc (Nat.le_refl _) (.cells #[.int .i64 dc.max, .slice zi dc.inputs.length zj, .slice zl dc.latches.length zm, .slice zo dc.outputs.length zp, .slice zb dc.bads.length zc, .slice zv dc.invars.length zw, .slice za dc.ands.length zq, .slice zn dc.names.length zr] 27)
      obtain ⟨X6, hX6⟩ : ∃ X, X = w5.alloc (.cells #[.int .i64 dc.max, .slice zi dc.inputs.length zj, .slice zl dc.latches.length zm, .slice zo dc.outputs.length zp, .slice zb dc.bads.length zc, .slice zv dc.invars.length zw, .slice za dc.ands.length zq, .slice zn dc.names.length zr] 27) := ⟨_, rfl⟩
      rw [← hX6] at r6 ha6
      have hW2 := Lib.hid (aWrite_any dc _ X6 (HC5.out.mono ha6))
      have HB6 := Lib.hid (Below.of HB5.out ha6)
      have HX6 := Lib.hid hX6
      have q := r6
      have q0 := q.cell 0 _ rfl
      have q1 := q.cell 1 _ rfl
      have q2 := q.cell 2 _ rfl
      have q3 := q.cell 3 _ rfl
      have q4 := q.cell 4 _ rfl
      have q5 := q.cell 5 _ rfl
      have q6 := q.cell 6 _ rfl
      have q7 := q.cell 7 _ rfl
      rw [hX6] at q0 q1 q2 q3 q4 q5 q6 q7
      have HDT := Lib.hid hdt
      have HDK := Lib.hid hdk
      clear hPT hc5 hb5 r6 ha6 hX6 q hdt hdk hps
      go_wp2_with (go_at_call 21; refine (hN.out _ _).mono ?_; rintro e w4 ⟨rfl, rfl⟩)
      rw [← HX6.out]
      refine hW2.out.mono ?_
      rintro e w7 ⟨v7, rfl, hy7, _, hb7⟩
      have HB7 := Lib.hid (Below.of HB6.out hb7)
      have hY7 := (hy7 HDK.out)
      rw [← HDT.out] at hY7
      have kb1 := hY7.back
      obtain ⟨g7, cap7, rfl, _, _⟩ := hY7
      have HS7 := HS.out.mono HB7.out
      obtain ⟨ao, cap0, rfl, hcv⟩ := HS7
      have kb2 := hcv w7 (Below.refl _ _)
      rw [if_pos HDK.out]
      have eU : (s == s) = true := by simp
      clear q0 q1 q2 q3 q4 q5 q6 q7 hb7 hy7 hW2 hcv
      go_wp2_with (go_at_call 21; refine (hN.out _ _).mono ?_; rintro e w4 ⟨rfl, rfl⟩)
      go_ret
      exact ⟨by first | rfl | simp, HB7.out⟩
  | true =>
    have hY := hyes hck
    have hpt := PI.parse_text hck
    have HSM := Lib.hid (circ_smallI (chk_of hck))
    obtain ⟨T, hT⟩ : ∃ T, T = PA.text c := ⟨_, rfl⟩
    rw [← hT] at hY hpt
    have HPT := Lib.hid hpt
    have HY := Lib.hid hY
    obtain ⟨g, cap, rfl, _, _⟩ := hY
    rw [hck] at hO2
    rw [if_pos rfl]
    clear hyes hno hck hT hpt
    have hN2 : ∀ x : Later w2, _ := fun x => num05_any 0 x.at_
    go_wp2_with fail
    refine wp_region_later (by kernel_rfl) (by kernel_rfl) ?_; (repeat (go_big_quiet_step ((first | (go_at_call 21; with_reducible exact Calls.later_same (hN2 _)) | (go_at_call 22; with_reducible exact Calls.later (hO2 _)))))); refine wpQuiet_nil ?_; rintro w3 ⟨⟨_, hb3⟩, rfl⟩
    clear l0 l1 l2 l3 l4 l5 l6 l7 hO2 hN2
    have HB3 := Lib.hid (Below.of HB2.out hb3)
    have S3 := Lib.hid (S2.out.mono hb3)
    have HY3 := Lib.hid (HY.out.mono hb3)
    clear hb3 S2 HY
    by_cases hlen : T.length ≤ 65536
    case neg =>
      have hlz : ¬ (T.length : Int) ≤ 65536 := by omega
      clear hlen
      have hp5 := Lib.hid (iRead_any s vb m w3 (HS.out.mono HB3.out) hs (HMw.out w3 HB3.out))
      go_wp2_with (go_at_call 21; refine (hN.out _ _).mono ?_; rintro e w4 ⟨rfl, rfl⟩)
      refine hp5.out.mono ?_
      intro e w5 hPT
      clear hp5
      by_cases hlg : s.length ≤ 65536
      case neg =>
        obtain ⟨rfl, hb5⟩ := hPT.long (by omega)
        have HB5 := Lib.hid (Below.of HB3.out hb5)
        have ha6 := (Below.refl w5.heap.size w5).alloc (Nat.le_refl _) (.cells #[.int .i64 0, .slice none 0 0, .slice none 0 0, .slice none 0 0, .slice none 0 0, .slice none 0 0, .slice none 0 0, .slice none 0 0] 27)
        have HB6 := Lib.hid (Below.of HB5.out ha6)
        have hSm := Lib.hid (same_any noCI _ _ (w5.alloc (.cells #[.int .i64 0, .slice none 0 0, .slice none 0 0, .slice none 0 0, .slice none 0 0, .slice none 0 0, .slice none 0 0, .slice none 0 0] 27)) (noC_is _) (noC_is _) (by decide))
        clear hPT hb5 ha6
        go_wp2_with (go_at_call 21; refine (hN.out _ _).mono ?_; rintro e w4 ⟨rfl, rfl⟩)
        refine hSm.out.mono ?_
        rintro e w7 ⟨rfl, hb7⟩
        go_wp2_with fail
        go_ret
        exact ⟨by first | rfl | simp, Below.of HB6.out hb7⟩
      cases hps : PI.parse s with
      | none =>
        obtain ⟨rfl, hb5⟩ := hPT.no hlg hps
        have HB5 := Lib.hid (Below.of HB3.out hb5)
        have ha6 := (Below.refl w5.heap.size w5).alloc (Nat.le_refl _) (.cells #[.int .i64 0, .slice none 0 0, .slice none 0 0, .slice none 0 0, .slice none 0 0, .slice none 0 0, .slice none 0 0, .slice none 0 0] 27)
        have HB6 := Lib.hid (Below.of HB5.out ha6)
        have hSm := Lib.hid (same_any noCI _ _ (w5.alloc (.cells #[.int .i64 0, .slice none 0 0, .slice none 0 0, .slice none 0 0, .slice none 0 0, .slice none 0 0, .slice none 0 0, .slice none 0 0] 27)) (noC_is _) (noC_is _) (by decide))
        clear hPT hb5 ha6
        go_wp2_with (go_at_call 21; refine (hN.out _ _).mono ?_; rintro e w4 ⟨rfl, rfl⟩)
        refine hSm.out.mono ?_
        rintro e w7 ⟨rfl, hb7⟩
        go_wp2_with fail
        go_ret
        exact ⟨by first | rfl | simp, Below.of HB6.out hb7⟩
      | some dc =>
        obtain ⟨v5, rfl, hc5, hb5⟩ := hPT.yes hlg hps
        obtain ⟨hdk, hdt⟩ := PI.parse_back hps
        have HC5 := Lib.hid hc5
        obtain ⟨zi, zj, zl, zm, zo, zp, zb, zc, zv, zw, za, zq, zn, zr, rfl, _⟩ := row_slices hc5
        have HB5 := Lib.hid (Below.of HB3.out hb5)
        have r6 := RowL.new (T := 27) w5 [.int .i64 dc.max, .slice zi dc.inputs.length zj, .slice zl dc.latches.length zm, .slice zo dc.outputs.length zp, .slice zb dc.bads.length zc, .slice zv dc.invars.length zw, .slice za dc.ands.length zq, .slice zn dc.names.length zr]
        have ha6 := (Below.refl w5.heap.size w5).alloc (Nat.le_refl _) (.cells #[.int .i64 dc.max, .slice zi dc.inputs.length zj, .slice zl dc.latches.length zm, .slice zo dc.outputs.length zp, .slice zb dc.bads.length zc, .slice zv dc.invars.length zw, .slice za dc.ands.length zq, .slice zn dc.names.length zr] 27)
        obtain ⟨X6, hX6⟩ : ∃ X, X = w5.alloc (.cells #[.int .i64 dc.max, .slice zi dc.inputs.length zj, .slice zl dc.latches.length zm, .slice zo dc.outputs.length zp, .slice zb dc.bads.length zc, .slice zv dc.invars.length zw, .slice za dc.ands.length zq, .slice zn dc.names.length zr] 27) := ⟨_, rfl⟩
        rw [← hX6] at r6 ha6
        have hW2 := Lib.hid (aWrite_any dc _ X6 (HC5.out.mono ha6))
        have HB6 := Lib.hid (Below.of HB5.out ha6)
        have HX6 := Lib.hid hX6
        have q := r6
        have q0 := q.cell 0 _ rfl
        have q1 := q.cell 1 _ rfl
        have q2 := q.cell 2 _ rfl
        have q3 := q.cell 3 _ rfl
        have q4 := q.cell 4 _ rfl
        have q5 := q.cell 5 _ rfl
        have q6 := q.cell 6 _ rfl
        have q7 := q.cell 7 _ rfl
        rw [hX6] at q0 q1 q2 q3 q4 q5 q6 q7
        have HDT := Lib.hid hdt
        have HDK := Lib.hid hdk
        clear hPT hc5 hb5 r6 ha6 hX6 q hdt hdk hps
        go_wp2_with (go_at_call 21; refine (hN.out _ _).mono ?_; rintro e w4 ⟨rfl, rfl⟩)
        rw [← HX6.out]
        refine hW2.out.mono ?_
        rintro e w7 ⟨v7, rfl, hy7, _, hb7⟩
        have HB7 := Lib.hid (Below.of HB6.out hb7)
        have hY7 := (hy7 HDK.out)
        rw [← HDT.out] at hY7
        have kb1 := hY7.back
        obtain ⟨g7, cap7, rfl, _, _⟩ := hY7
        have HS7 := HS.out.mono HB7.out
        obtain ⟨ao, cap0, rfl, hcv⟩ := HS7
        have kb2 := hcv w7 (Below.refl _ _)
        rw [if_pos HDK.out]
        have eU : (s == s) = true := by simp
        clear q0 q1 q2 q3 q4 q5 q6 q7 hb7 hy7 hW2 hcv
        go_wp2_with (go_at_call 21; refine (hN.out _ _).mono ?_; rintro e w4 ⟨rfl, rfl⟩)
        go_ret
        exact ⟨by first | rfl | simp, HB7.out⟩
    have hlz : (T.length : Int) ≤ 65536 := by omega
    have hp1 := Lib.hid ((iRead_any T _ m w3 HY3.out.octs (by omega) (HMw.out w3 HB3.out)).mono fun e w' hh => RTo.yes hh hlen HPT.out)
    clear hlen
    go_wp2_with (go_at_call 21; refine (hN.out _ _).mono ?_; rintro e w4 ⟨rfl, rfl⟩)
    refine hp1.out.mono ?_
    rintro e w4 ⟨v3, rfl, hc3, hb3⟩
    have HC3 := Lib.hid hc3
    obtain ⟨yi, yj, yl, ym, yo, yp, yb, yc, yv, yw, ya, yq, yn, yr, rfl, _⟩ := row_slices hc3
    have HB4 := Lib.hid (Below.of HB3.out hb3)
    have r3 := RowL.new (T := 27) w4 [.int .i64 c.max, .slice yi c.inputs.length yj, .slice yl c.latches.length ym, .slice yo c.outputs.length yp, .slice yb c.bads.length yc, .slice yv c.invars.length yw, .slice ya c.ands.length yq, .slice yn c.names.length yr]
    have ha3 := (Below.refl w4.heap.size w4).alloc (Nat.le_refl _) (.cells #[.int .i64 c.max, .slice yi c.inputs.length yj, .slice yl c.latches.length ym, .slice yo c.outputs.length yp, .slice yb c.bads.length yc, .slice yv c.invars.length yw, .slice ya c.ands.length yq, .slice yn c.names.length yr] 27)
    obtain ⟨X3, hX3⟩ : ∃ X, X = w4.alloc (.cells #[.int .i64 c.max, .slice yi c.inputs.length yj, .slice yl c.latches.length ym, .slice yo c.outputs.length yp, .slice yb c.bads.length yc, .slice yv c.invars.length yw, .slice ya c.ands.length yq, .slice yn c.names.length yr] 27) := ⟨_, rfl⟩
    rw [← hX3] at r3 ha3
    have s3 := (S3.out.mono hb3).mono ha3
    have hSm := Lib.hid (same_any c _ _ X3 (HC.out.mono (Below.of HB4.out ha3)) (HC3.out.mono ha3) HSM.out)
    have HA3 := Lib.hid (Below.of HB4.out ha3)
    have HX3 := Lib.hid hX3
    have q := s3
    have q0 := q.cell 0 _ rfl
    have q1 := q.cell 1 _ rfl
    have q2 := q.cell 2 _ rfl
    have q3 := q.cell 3 _ rfl
    have q4 := q.cell 4 _ rfl
    have q5 := q.cell 5 _ rfl
    have q6 := q.cell 6 _ rfl
    have q7 := q.cell 7 _ rfl
    have z_ := r3
    have z_0 := z_.cell 0 _ rfl
    have z_1 := z_.cell 1 _ rfl
    have z_2 := z_.cell 2 _ rfl
    have z_3 := z_.cell 3 _ rfl
    have z_4 := z_.cell 4 _ rfl
    have z_5 := z_.cell 5 _ rfl
    have z_6 := z_.cell 6 _ rfl
    have z_7 := z_.cell 7 _ rfl
    rw [hX3] at q0 q1 q2 q3 q4 q5 q6 q7 z_0 z_1 z_2 z_3 z_4 z_5 z_6 z_7
    clear hc3 hb3 r3 ha3 hX3 q z_ S3 HC3
    go_wp2_with (go_at_call 21; refine (hN.out _ _).mono ?_; rintro e w4 ⟨rfl, rfl⟩)
    rw [← HX3.out]
    refine hSm.out.mono ?_
    rintro e w6 ⟨rfl, hb6⟩
    clear q0 q1 q2 q3 q4 q5 q6 q7 z_0 z_1 z_2 z_3 z_4 z_5 z_6 z_7
    have HB6 := Lib.hid (Below.of HA3.out hb6)
    clear hb6
    have hp5 := Lib.hid (iRead_any s vb m w6 (HS.out.mono HB6.out) hs (HMw.out w6 HB6.out))
    go_wp2_with (go_at_call 21; refine (hN.out _ _).mono ?_; rintro e w4 ⟨rfl, rfl⟩)
    refine hp5.out.mono ?_
    intro e w5 hPT
    clear hp5
    by_cases hlg : s.length ≤ 65536
    case neg =>
      obtain ⟨rfl, hb5⟩ := hPT.long (by omega)
      have HB5 := Lib.hid (Below.of HB6.out hb5)
      have ha6 := (Below.refl w5.heap.size w5).alloc (Nat.le_refl _) (.cells #[.int .i64 0, .slice none 0 0, .slice none 0 0, .slice none 0 0, .slice none 0 0, .slice none 0 0, .slice none 0 0, .slice none 0 0] 27)
      have HB6 := Lib.hid (Below.of HB5.out ha6)
      have hSm := Lib.hid (same_any noCI _ _ (w5.alloc (.cells #[.int .i64 0, .slice none 0 0, .slice none 0 0, .slice none 0 0, .slice none 0 0, .slice none 0 0, .slice none 0 0, .slice none 0 0] 27)) (noC_is _) (noC_is _) (by decide))
      clear hPT hb5 ha6
      go_wp2_with (go_at_call 21; refine (hN.out _ _).mono ?_; rintro e w4 ⟨rfl, rfl⟩)
      refine hSm.out.mono ?_
      rintro e w7 ⟨rfl, hb7⟩
      go_wp2_with fail
      go_ret
      exact ⟨by first | rfl | simp, Below.of HB6.out hb7⟩
    cases hps : PI.parse s with
    | none =>
      obtain ⟨rfl, hb5⟩ := hPT.no hlg hps
      have HB5 := Lib.hid (Below.of HB6.out hb5)
      have ha6 := (Below.refl w5.heap.size w5).alloc (Nat.le_refl _) (.cells #[.int .i64 0, .slice none 0 0, .slice none 0 0, .slice none 0 0, .slice none 0 0, .slice none 0 0, .slice none 0 0, .slice none 0 0] 27)
      have HB6 := Lib.hid (Below.of HB5.out ha6)
      have hSm := Lib.hid (same_any noCI _ _ (w5.alloc (.cells #[.int .i64 0, .slice none 0 0, .slice none 0 0, .slice none 0 0, .slice none 0 0, .slice none 0 0, .slice none 0 0, .slice none 0 0] 27)) (noC_is _) (noC_is _) (by decide))
      clear hPT hb5 ha6
      go_wp2_with (go_at_call 21; refine (hN.out _ _).mono ?_; rintro e w4 ⟨rfl, rfl⟩)
      refine hSm.out.mono ?_
      rintro e w7 ⟨rfl, hb7⟩
      go_wp2_with fail
      go_ret
      exact ⟨by first | rfl | simp, Below.of HB6.out hb7⟩
    | some dc =>
      obtain ⟨v5, rfl, hc5, hb5⟩ := hPT.yes hlg hps
      obtain ⟨hdk, hdt⟩ := PI.parse_back hps
      have HC5 := Lib.hid hc5
      obtain ⟨zi, zj, zl, zm, zo, zp, zb, zc, zv, zw, za, zq, zn, zr, rfl, _⟩ := row_slices hc5
      have HB5 := Lib.hid (Below.of HB6.out hb5)
      have r6 := RowL.new (T := 27) w5 [.int .i64 dc.max, .slice zi dc.inputs.length zj, .slice zl dc.latches.length zm, .slice zo dc.outputs.length zp, .slice zb dc.bads.length zc, .slice zv dc.invars.length zw, .slice za dc.ands.length zq, .slice zn dc.names.length zr]
      have ha6 := (Below.refl w5.heap.size w5).alloc (Nat.le_refl _) (.cells #[.int .i64 dc.max, .slice zi dc.inputs.length zj, .slice zl dc.latches.length zm, .slice zo dc.outputs.length zp, .slice zb dc.bads.length zc, .slice zv dc.invars.length zw, .slice za dc.ands.length zq, .slice zn dc.names.length zr] 27)
      obtain ⟨X6, hX6⟩ : ∃ X, X = w5.alloc (.cells #[.int .i64 dc.max, .slice zi dc.inputs.length zj, .slice zl dc.latches.length zm, .slice zo dc.outputs.length zp, .slice zb dc.bads.length zc, .slice zv dc.invars.length zw, .slice za dc.ands.length zq, .slice zn dc.names.length zr] 27) := ⟨_, rfl⟩
      rw [← hX6] at r6 ha6
      have hW2 := Lib.hid (aWrite_any dc _ X6 (HC5.out.mono ha6))
      have HB6 := Lib.hid (Below.of HB5.out ha6)
      have HX6 := Lib.hid hX6
      have q := r6
      have q0 := q.cell 0 _ rfl
      have q1 := q.cell 1 _ rfl
      have q2 := q.cell 2 _ rfl
      have q3 := q.cell 3 _ rfl
      have q4 := q.cell 4 _ rfl
      have q5 := q.cell 5 _ rfl
      have q6 := q.cell 6 _ rfl
      have q7 := q.cell 7 _ rfl
      rw [hX6] at q0 q1 q2 q3 q4 q5 q6 q7
      have HDT := Lib.hid hdt
      have HDK := Lib.hid hdk
      clear hPT hc5 hb5 r6 ha6 hX6 q hdt hdk hps
      go_wp2_with (go_at_call 21; refine (hN.out _ _).mono ?_; rintro e w4 ⟨rfl, rfl⟩)
      rw [← HX6.out]
      refine hW2.out.mono ?_
      rintro e w7 ⟨v7, rfl, hy7, _, hb7⟩
      have HB7 := Lib.hid (Below.of HB6.out hb7)
      have hY7 := (hy7 HDK.out)
      rw [← HDT.out] at hY7
      have kb1 := hY7.back
      obtain ⟨g7, cap7, rfl, _, _⟩ := hY7
      have HS7 := HS.out.mono HB7.out
      obtain ⟨ao, cap0, rfl, hcv⟩ := HS7
      have kb2 := hcv w7 (Below.refl _ _)
      rw [if_pos HDK.out]
      have eU : (s == s) = true := by simp
      clear q0 q1 q2 q3 q4 q5 q6 q7 hb7 hy7 hW2 hcv
      go_wp2_with (go_at_call 21; refine (hN.out _ _).mono ?_; rintro e w4 ⟨rfl, rfl⟩)
      go_ret
      exact ⟨by first | rfl | simp, HB7.out⟩

end Go.Proofs.YtjcaejdokillgaaDoor
