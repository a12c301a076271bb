/- The walk of AagCuts. -/
import Derived.Test.YtjcaejdokillgaaDoorZJY
namespace Go.Proofs.YtjcaejdokillgaaDoor
open Go.RowKit Go.Shelf
attribute [local simp] mk_get


theorem take_ext (T : List UInt8) (K : Nat) : (ByteArray.mk T.toArray).extract 0 K = ⟨(T.take K).toArray⟩ := by
  apply ByteArray.ext
  simp only [ByteArray.data_extract]
  apply Array.ext'
  simp

/-- the place that is asked for -/
theorem place_of (a : Int) (L : Nat) (hL : 0 < L) : ∃ K : Nat, K < L ∧ -(L : Int) < a.tmod L ∧ a.tmod L < L ∧ Int.tmod (a.tmod L + L) L = (K : Int) := by
  have h1 : a.tmod L < L := by have := Int.tmod_lt_of_pos a (show (0 : Int) < L by omega); exact this
  have h2 : -(L : Int) < a.tmod L := by
    have := Int.tmod_lt_of_pos (-a) (show (0 : Int) < L by omega)
    rw [Int.neg_tmod] at this
    omega
  refine ⟨(Int.tmod (a.tmod L + L) L).toNat, ?_, h2, h1, ?_⟩
  · have h3 := Int.tmod_lt_of_pos (a.tmod L + L) (show (0 : Int) < L by omega)
    have h4 := Int.tmod_nonneg (L : Int) (show (0 : Int) ≤ a.tmod L + L by omega)
    omega
  · have h4 := Int.tmod_nonneg (L : Int) (show (0 : Int) ≤ a.tmod L + L by omega)
    omega

set_option maxRecDepth 100000 in
set_option maxHeartbeats 16000000 in
theorem aagCuts_walk (c : PC.Circ) (vc : Value) (a : Int) (m : Int) (w : World) (h : IsCirc w vc c) (hs : rng a) (hm : w.cell? ⟨0, 0, none⟩ = some (.int .i64 m)) :
    Calls Tryd.prog 4 #[vc, .int .i64 a] w fun e w' => e = .returned (.bool true) ∧ Below w.heap.size w w' := by
  have HC := Lib.hid h
  have HM := Lib.hid hm
  obtain ⟨xi, xj, xl, xm, xo, xp, xb, xc, xv, xw, xa, xq, xn, xr, rfl, hp⟩ := row_slices h
  clear h hp hm
  have r1 := RowL.new (T := 27) w [.int .i64 c.max, .slice xi c.inputs.length xj, .slice xl c.latches.length xm, .slice xo c.outputs.length xp, .slice xb c.bads.length xc, .slice xv c.invars.length xw, .slice xa c.ands.length xq, .slice xn c.names.length xr]
  have hb0 := (Below.refl w.heap.size w).alloc (Nat.le_refl _) (.cells #[.int .i64 c.max, .slice xi c.inputs.length xj, .slice xl c.latches.length xm, .slice xo c.outputs.length xp, .slice xb c.bads.length xc, .slice xv c.invars.length xw, .slice xa c.ands.length xq, .slice xn c.names.length xr] 27)
  obtain ⟨X, hX⟩ : ∃ X, X = w.alloc (.cells #[.int .i64 c.max, .slice xi c.inputs.length xj, .slice xl c.latches.length xm, .slice xo c.outputs.length xp, .slice xb c.bads.length xc, .slice xv c.invars.length xw, .slice xa c.ands.length xq, .slice xn c.names.length xr] 27) := ⟨_, rfl⟩
  rw [← hX] at r1 hb0
  have R1 := Lib.hid r1
  have HB0 := Lib.hid hb0
  have HX := Lib.hid hX
  clear hX r1 hb0
  have hN := Lib.hid fun x y => num04_any x y
  go_enter Tryd.func4, Tryd.ntmps4
  go_wp2_with fail
  rw [← HX.out]
  refine (alive04_any _).mono ?_
  rintro e w1 ⟨rfl, hb1⟩
  have HB1 := Lib.hid (Below.of HB0.out hb1)
  have S1 := Lib.hid (R1.out.mono hb1)
  clear hb1 R1 HB0 HX
  have hPr := jPrint_any c _ w1 (HC.out.mono HB1.out)
  have HMw := Lib.hid fun (y : World) (hy : Below w.heap.size w y) => (hy.cell (World.block_lt_of_cell? w _ HM.out)).trans HM.out
  cases hck : PC.chk c with
  | false =>
    rw [hck] at hPr
    simp only [Bool.false_eq_true, if_false] at hPr
    have hPr := Lib.hid hPr
    clear hck
    have q := S1.out
    have q0 := q.cell 0 _ rfl
    have q1 := q.cell 1 _ rfl
    have q2 := q.cell 2 _ rfl
    have q3 := q.cell 3 _ rfl
    have q4 := q.cell 4 _ rfl
    have q5 := q.cell 5 _ rfl
    have q6 := q.cell 6 _ rfl
    have q7 := q.cell 7 _ rfl
    go_wp2_with fail
    refine hPr.out.mono ?_
    rintro e w2 ⟨rfl, hb2⟩
    clear q q0 q1 q2 q3 q4 q5 q6 q7
    have HB2 := Lib.hid (Below.of HB1.out hb2)
    clear hb2
    go_wp2_with (go_at_call 11; refine (hN.out _ _).mono ?_; rintro e w4 ⟨rfl, rfl⟩)
    go_ret
    exact ⟨by first | rfl | simp, HB2.out⟩
  | true =>
    rw [hck] at hPr
    simp only [if_true] at hPr
    have hTL := PJ.text_len hck
    have hT0 : 0 < (PJ.text c).length := by obtain ⟨r, hr⟩ := PJ.text_end (c := c); rw [hr]; simp
    obtain ⟨T, hT⟩ : ∃ T, T = PJ.text c := ⟨_, rfl⟩
    rw [← hT] at hPr hTL hT0
    have hPr := Lib.hid hPr
    have HT := Lib.hid hT
    have HCK := Lib.hid hck
    clear hck hT
    have q := S1.out
    have q0 := q.cell 0 _ rfl
    have q1 := q.cell 1 _ rfl
    have q2 := q.cell 2 _ rfl
    have q3 := q.cell 3 _ rfl
    have q4 := q.cell 4 _ rfl
    have q5 := q.cell 5 _ rfl
    have q6 := q.cell 6 _ rfl
    have q7 := q.cell 7 _ rfl
    go_wp2_with fail
    refine hPr.out.mono ?_
    rintro e w2 ⟨rfl, hb2⟩
    clear q q0 q1 q2 q3 q4 q5 q6 q7
    have HB2 := Lib.hid (Below.of HB1.out hb2)
    clear hb2 S1 hPr
    by_cases hlen : 65536 < T.length
    · have hlz : (65536 : Int) < (T.length : Int) := by omega
      clear hlen
      go_wp2_with (go_at_call 11; refine (hN.out _ _).mono ?_; rintro e w4 ⟨rfl, rfl⟩)
      go_ret
      exact ⟨by first | rfl | simp, HB2.out⟩
    · have hlz : ¬ (65536 : Int) < (T.length : Int) := by omega
      obtain ⟨hs1, hs2⟩ := hs
      obtain ⟨K, hKL, b1, b2, hKe⟩ := place_of a T.length hT0
      obtain ⟨A1, hA1⟩ : ∃ z, Int.tmod a T.length = z := ⟨_, rfl⟩
      rw [hA1] at b1 b2 hKe
      have hTn : ¬ (T.length : Int) = 0 := by omega
      by_cases hK0 : K = 0
      · have hnl : ∀ r : List UInt8, T.take K ≠ r ++ [10] := fun r h => by rw [hK0] at h; simp at h
        have hKn : ¬ (0 : Int) < (K : Int) := by omega
        clear hK0
        have hno := Lib.hid (PJ.parse_cut HCK.out K (by rw [← HT.out]; exact hKL) (by rw [← HT.out]; exact hnl))
        rw [← HT.out] at hno
        obtain ⟨TK, hTK⟩ : ∃ Z, Z = T.take K := ⟨_, rfl⟩
        have hTKl : TK.length ≤ 1000000 := by rw [hTK, List.length_take]; omega
        rw [← hTK] at hno
        have hp1 := Lib.hid ((jParse_any TK m w2 (by omega) (HMw.out w2 HB2.out)).mono fun e w' hh => PTo.no hh (.inr hno.out))
        have hx := take_ext T K
        rw [← hTK] at hx
        clear hnl hno hTK hTKl
        go_wp2_with (go_at_call 11; refine (hN.out _ _).mono ?_; rintro e w4 ⟨rfl, rfl⟩)
        refine hp1.out.mono ?_
        rintro e w3 ⟨at2, er, her, rfl, hb3⟩
        have HB3 := Lib.hid (Below.of HB2.out hb3)
        have ha3 := (Below.refl w3.heap.size w3).alloc (Nat.le_refl _) (.cells #[.int .i64 0, .slice none 0 0, .slice none 0 0, .slice none 0 0, .slice none 0 0, .slice none 0 0, .slice none 0 0, .slice none 0 0] 27)
        have HB4 := Lib.hid (Below.of HB3.out ha3)
        have hSm := Lib.hid (same_any noC _ _ (w3.alloc (.cells #[.int .i64 0, .slice none 0 0, .slice none 0 0, .slice none 0 0, .slice none 0 0, .slice none 0 0, .slice none 0 0, .slice none 0 0] 27)) (noC_isJ _) (noC_isJ _) (by decide))
        have herb : (er != 0) = true := by simpa using her
        have hern : ¬ er = 0 := her
        clear hb3 ha3 hp1 hx her
        go_wp2_with (go_at_call 11; refine (hN.out _ _).mono ?_; rintro e w4 ⟨rfl, rfl⟩)
        refine hSm.out.mono ?_
        rintro e w7 ⟨rfl, hb7⟩
        go_wp2_with fail
        go_ret
        exact ⟨by first | rfl | simp, Below.of HB4.out hb7⟩
      · have hKz : (0 : Int) < (K : Int) := by omega
        have hi0 : (0 : Int) ≤ (K : Int) - 1 := by omega
        have hi1 : (K : Int) - 1 < (T.length : Int) := by omega
        obtain ⟨J, hJ⟩ : ∃ J, K = J + 1 := ⟨K - 1, by omega⟩
        have hJz : (K : Int) - 1 = (J : Int) := by omega
        have hJl : J < T.length := by omega
        have hnl0 : T[J] ≠ 10 → ∀ r : List UInt8, T.take K ≠ r ++ [10] := fun hne r he => by
          rw [hJ, List.take_succ_eq_append_getElem hJl] at he
          have := List.append_inj_right' he rfl
          exact hne (by simpa using this)
        obtain ⟨y, hy⟩ : ∃ y, T[J] = y := ⟨_, rfl⟩
        rw [hy] at hnl0
        by_cases hy10 : y = 10
        · subst hy10
          clear hnl0
          go_wp2_with (go_at_call 11; refine (hN.out _ _).mono ?_; rintro e w4 ⟨rfl, rfl⟩)
          go_ret
          exact ⟨by first | rfl | simp, HB2.out⟩
        · have hnl := hnl0 hy10
          have hyn : ¬ (y.toNat : Int) = 10 := fun h => hy10 (UInt8.toNat_inj.1 (by have : (10 : UInt8).toNat = 10 := rfl; omega))
          have hyb : ((y.toNat : Int) == 10) = false := by simpa using hyn
          clear hnl0 hJ
          have hno := Lib.hid (PJ.parse_cut HCK.out K (by rw [← HT.out]; exact hKL) (by rw [← HT.out]; exact hnl))
          rw [← HT.out] at hno
          obtain ⟨TK, hTK⟩ : ∃ Z, Z = T.take K := ⟨_, rfl⟩
          have hTKl : TK.length ≤ 1000000 := by rw [hTK, List.length_take]; omega
          rw [← hTK] at hno
          have hp1 := Lib.hid ((jParse_any TK m w2 (by omega) (HMw.out w2 HB2.out)).mono fun e w' hh => PTo.no hh (.inr hno.out))
          have hx := take_ext T K
          rw [← hTK] at hx
          clear hnl hno hTK hTKl
          go_wp2_with (go_at_call 11; refine (hN.out _ _).mono ?_; rintro e w4 ⟨rfl, rfl⟩)
          refine hp1.out.mono ?_
          rintro e w3 ⟨at2, er, her, rfl, hb3⟩
          have HB3 := Lib.hid (Below.of HB2.out hb3)
          have ha3 := (Below.refl w3.heap.size w3).alloc (Nat.le_refl _) (.cells #[.int .i64 0, .slice none 0 0, .slice none 0 0, .slice none 0 0, .slice none 0 0, .slice none 0 0, .slice none 0 0, .slice none 0 0] 27)
          have HB4 := Lib.hid (Below.of HB3.out ha3)
          have hSm := Lib.hid (same_any noC _ _ (w3.alloc (.cells #[.int .i64 0, .slice none 0 0, .slice none 0 0, .slice none 0 0, .slice none 0 0, .slice none 0 0, .slice none 0 0, .slice none 0 0] 27)) (noC_isJ _) (noC_isJ _) (by decide))
          have herb : (er != 0) = true := by simpa using her
          have hern : ¬ er = 0 := her
          clear hb3 ha3 hp1 hx her
          go_wp2_with (go_at_call 11; refine (hN.out _ _).mono ?_; rintro e w4 ⟨rfl, rfl⟩)
          refine hSm.out.mono ?_
          rintro e w7 ⟨rfl, hb7⟩
          go_wp2_with fail
          go_ret
          exact ⟨by first | rfl | simp, Below.of HB4.out hb7⟩

end Go.Proofs.YtjcaejdokillgaaDoor
