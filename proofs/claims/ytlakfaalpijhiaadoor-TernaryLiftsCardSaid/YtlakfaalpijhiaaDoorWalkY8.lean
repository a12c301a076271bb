/- The walk of TernarySound. -/
import Derived.Test.YtlakfaalpijhiaaDoorWalkY5
import Derived.Test.YtlakfaalpijhiaaDoorWalkYM
import Derived.Test.YtlakfaalpijhiaaDoorWalkYF
namespace Go.Proofs.YtlakfaalpijhiaaDoor
open Go.RowKit Go.Shelf
attribute [local simp] mk_get

/-- what stands for x, and its bits for the inputs -/
def fillS (s : List UInt8) (b : Int) : List UInt8 := fillN s b s.length

theorem fillS_len (s : List UInt8) (b : Int) : (fillS s b).length = s.length := (fill_Fil s b).1.symm

theorem fill_call (s : List UInt8) (b : Int) (w : World) (hs : s.length ≤ 9223372036854775806) (hb0 : 0 ≤ b) (hb1 : b ≤ 18446744073709551615) :
    Calls Tryd.prog 12 #[.string ⟨s.toArray⟩, .int .u64 b] w fun e w' => e = .returned (.string ⟨(fillS s b).toArray⟩) ∧ Below w.heap.size w w' := fill_any s b w hs hb0 hb1

set_option maxRecDepth 100000 in
set_option maxHeartbeats 8000000 in
theorem sound_walk (c : PC.Circ) (vc vh : Value) (st inp : List UInt8) (hold : List Int) (b : Int) (w : World) (h : IsCirc w vc c) (hf : Fits c) (hs : st.length ≤ 9223372036854775806) (hi : inp.length ≤ 9223372036854775806) (hH : Ints w vh hold)
    (hb0 : 0 ≤ b) (hb1 : b ≤ 18446744073709551615) :
    Calls Tryd.prog 3 #[vc, .string ⟨st.toArray⟩, .string ⟨inp.toArray⟩, vh, .int .u64 b] w fun e w' => e = .returned (.bool true) ∧ Below w.heap.size w w' := by
  have hV := Lib.hid fun w1 (hb : Below w.heap.size w w1) => terValues_any c vc st inp w1 (h.mono hb) (by omega) (by omega)
  have hL := Lib.hid fun w1 (hb : Below w.heap.size w w1) => lift_any c vc vh st inp hold w1 (h.mono hb) (hH.mono hb) (by omega) (by omega)
  have hR := Lib.hid fun s i w1 (hb : Below w.heap.size w w1) => rValues_any c vc s i w1 (h.mono hb) hf
  obtain ⟨vi, vl, vo, vb, vv, va, vn, rfl, hp, hm⟩ := h
  obtain ⟨ah, caph, rfl, hh1, hh2, hh3⟩ := hH.open_
  have HH := Lib.hid hh3
  clear hp hh3 hH
  have hbw := Lib.hid ((Below.refl w.heap.size w).alloc (Nat.le_refl _) (.cells #[.int .i64 c.max, vi, vl, vo, vb, vv, va, vn] 27))
  have hbx0 := Lib.hid (Box8.new w (.int .i64 c.max) vi vl vo vb vv va vn 27)
  obtain ⟨VE, hVE⟩ : ∃ x, x = PC.ternE c st inp := ⟨_, rfl⟩
  obtain ⟨VS, hVS⟩ : ∃ x, x = PC.ternS c st inp := ⟨_, rfl⟩
  obtain ⟨LE, hLE⟩ : ∃ x, x = PC.liftE c st inp hold := ⟨_, rfl⟩
  obtain ⟨LS, hLS⟩ : ∃ x, x = PC.liftS c st inp hold := ⟨_, rfl⟩
  rw [← hVE, ← hVS] at hV
  rw [← hLE, ← hLS] at hL
  have HVE := Lib.hid hVE
  have HVS := Lib.hid hVS
  have HLE := Lib.hid hLE
  have HLS := Lib.hid hLS
  clear hVE hVS hLE hLS
  have hNum := Lib.hid fun x W => num08_any x W
  go_enter Tryd.func3, Tryd.ntmps3
  go_wp2_with fail
  refine (alive08_any _).mono ?_
  rintro e w1 ⟨rfl, hbk⟩
  have hbA := Lib.hid (Below.of hbw.out hbk)
  have hbx1 := Lib.hid (hbx0.out.mono hbk)
  clear hbw hbk hbx0
  obtain ⟨q0, q1, q2, q3, q4, q5, q6, q7⟩ := hbx1.out
  go_wp2_with fail
  refine (hV.out _ hbA.out).mono ?_
  rintro e w2 ⟨rfl, hbk⟩
  have hbB := Lib.hid (Below.of hbA.out hbk)
  have hbx2 := Lib.hid (hbx1.out.mono hbk)
  clear hbA hbk hbx1 hV q0 q1 q2 q3 q4 q5 q6 q7
  by_cases hz : VE = 0
  · have e0 := HVE.out.symm.trans hz
    have hck := PC.chk_of_ternE c st inp e0
    have hRt := Lib.hid (PC.right_of c hck.1)
    have eVS : Hid (VS = PC.tvals c st inp) := by show _ = _; rw [HVS.out, PC.ternS, if_pos e0]
    have hmx := hRt.out.max1
    have hmn := hRt.out.max0
    have HT1 := Lib.hid hck.2.1
    have HT2 := Lib.hid hck.2.2
    have HCK := Lib.hid hck.1
    have HE0 := Lib.hid e0
    subst hz
    clear hck e0
    obtain ⟨B2, hB2⟩ : ∃ x : Int, x = b / 128 := ⟨_, rfl⟩
    have hB20 : 0 ≤ B2 := by omega
    have hB21 : B2 ≤ 18446744073709551615 := by omega
    -- the values of what stands for x
    obtain ⟨FS, hFS⟩ : ∃ x, x = fillS st b := ⟨_, rfl⟩
    obtain ⟨FI, hFI⟩ : ∃ x, x = fillS inp B2 := ⟨_, rfl⟩
    have cFS : Hid (PC.Cov st FS) := by rw [hFS]; exact (fill_Fil st b).cov
    have cFI : Hid (PC.Cov inp FI) := by rw [hFI]; exact (fill_Fil inp B2).cov
    have bFS : Hid (PC.bitsOk FS c.latches.length = true) := by show _ = _; rw [hFS]; exact (fill_Fil st b).bits HT1.out
    have bFI : Hid (PC.bitsOk FI c.inputs.length = true) := by show _ = _; rw [hFI]; exact (fill_Fil inp B2).bits HT2.out
    have lFS : FS.length ≤ 9223372036854775806 := by rw [hFS, fillS_len]; exact hs
    have lFI : FI.length ≤ 9223372036854775806 := by rw [hFI, fillS_len]; exact hi
    have eW0 : PC.valuesE c FS FI = 0 := by
      unfold PC.valuesE
      rw [if_neg (by rw [HCK.out]; decide), if_neg (by rw [bFS.out, bFI.out]; simp)]
    have hF1 : ∀ y : Later w2, Calls _ _ _ _ _ := fun y => fill_call st b y.at_ hs hb0 hb1
    have hF2 : ∀ y : Later w2, Calls _ _ _ _ _ := fun y => fill_call inp B2 y.at_ hi hB20 hB21
    rw [← hFS] at hF1
    rw [← hFI] at hF2
    have hR1 : ∀ y : Later w2, Calls _ _ _ _ _ := fun y => hR.out FS FI y.at_ (Below.of hbB.out y.below) lFS lFI
    rw [eW0] at hR1
    obtain ⟨WS, hWS⟩ : ∃ x, x = PC.valuesS c FS FI := ⟨_, rfl⟩
    rw [← hWS] at hR1
    have eWS : WS = PC.vals c FS FI := by rw [hWS, PC.valuesS, if_pos eW0]
    have lVS : VS.length ≤ 9223372036854775807 := by rw [eVS.out, PC.tvals_length]; omega
    have lWS : WS.length ≤ 9223372036854775807 := by rw [eWS, PC.vals_length]; omega
    have hcov : PC.covers VS WS = true := by
      rw [PC.covers_iff, eVS.out, eWS]
      exact PC.tvals_sound c hRt.out cFS.out cFI.out (PC.bitsOk_mem bFS.out).1 (PC.bitsOk_mem bFI.out).1
    have hCv := Lib.hid fun w1 => terCovers_any VS WS w1 lVS lWS
    rw [hcov] at hCv
    have hdiv : b / 128 = B2 := hB2.symm
    have HFI := Lib.hid hFI
    clear hcov eWS hWS eW0 lVS lWS lFS hFS hB2 hFI
    have hbx2l := hbx2.out.later
    obtain ⟨q0, q1, q2, q3, q4, q5, q6, q7⟩ := hbx2l
    go_wp2_with (go_at_call 10; refine (hNum.out _ _).mono ?_; rintro e w3 ⟨rfl, rfl⟩)
    refine wp_region_later (by kernel_rfl) (by kernel_rfl) ?_; (repeat (go_big_quiet_step ((first | (go_at_call 12; with_reducible exact Calls.later (hF1 _)) | (go_at_call 12; with_reducible exact Calls.later (hF2 _)) | (go_at_call 11; with_reducible exact Calls.later (hR1 _)))))); refine wpQuiet_nil ?_; rintro w3 ⟨⟨_, hb3⟩, rfl⟩
    clear q0 q1 q2 q3 q4 q5 q6 q7 hF1 hF2 hR1
    have hbC := Lib.hid (Below.of hbB.out hb3)
    have hbx3 := Lib.hid (hbx2.out.mono hb3)
    clear hb3 hbB hbx2
    obtain ⟨W3, hW3⟩ : ∃ W, W = w3 := ⟨_, rfl⟩
    subst hW3
    go_wp2_with fail
    refine (hCv.out _).mono ?_
    rintro e w4 ⟨rfl, hbk⟩
    have hbD := Lib.hid (Below.of hbC.out hbk)
    have hbx4 := Lib.hid (hbx3.out.mono hbk)
    clear hbk hbC hbx3 hCv
    obtain ⟨q0, q1, q2, q3, q4, q5, q6, q7⟩ := hbx4.out
    go_wp2_with fail
    refine (hL.out _ hbD.out).mono ?_
    rintro e w5 ⟨rfl, hbk⟩
    have hbE := Lib.hid (Below.of hbD.out hbk)
    have hbx5 := Lib.hid (hbx4.out.mono hbk)
    clear hbk hbD hbx4 hL q0 q1 q2 q3 q4 q5 q6 q7
    have hLE := PC.liftE_ok (hold := hold) HE0.out
    rw [← HLE.out] at hLE
    cases hhe : PC.heldT (PC.tvals c st inp) hold with
    | false =>
      rw [hhe, if_neg (by decide)] at hLE
      have e2 : LS = [] := by rw [HLS.out, PC.liftS, ← HLE.out, hLE]; rfl
      subst hLE
      subst e2
      clear hhe
      go_wp2_with (go_at_call 10; refine (hNum.out _ _).mono ?_; rintro e w6 ⟨rfl, rfl⟩)
      go_ret
      exact ⟨rfl, hbE.out⟩
    | true =>
      rw [hhe, if_pos rfl] at hLE
      have e2 : Hid (LS = PC.liftN c st inp hold st.length) := by show _ = _; rw [HLS.out, PC.liftS, ← HLE.out, if_pos hLE]
      have HHE := Lib.hid hhe
      subst hLE
      clear hhe
      obtain ⟨FL, hFL⟩ : ∃ x, x = fillS LS b := ⟨_, rfl⟩
      have lLS : LS.length ≤ 9223372036854775806 := by rw [e2.out, PC.liftN_length]; exact hs
      have cFL : Hid (PC.Cov LS FL) := by rw [hFL]; exact (fill_Fil LS b).cov
      have bFL : Hid (PC.bitsOk FL c.latches.length = true) := by show _ = _; rw [hFL]; exact (fill_Fil LS b).bits (by rw [e2.out]; exact PC.liftN_ok c st inp hold _ _ HT1.out)
      have lFL : FL.length ≤ 9223372036854775806 := by rw [hFL, fillS_len]; exact lLS
      have eU0 : PC.valuesE c FL FI = 0 := by
        unfold PC.valuesE
        rw [if_neg (by rw [HCK.out]; decide), if_neg (by rw [bFL.out, bFI.out]; simp)]
      have hG1 : ∀ y : Later w5, Calls _ _ _ _ _ := fun y => fill_call LS b y.at_ lLS hb0 hb1
      have hG2 : ∀ y : Later w5, Calls _ _ _ _ _ := fun y => fill_call inp B2 y.at_ hi hB20 hB21
      rw [← hFL] at hG1
      rw [← HFI.out] at hG2
      have hR2 : ∀ y : Later w5, Calls _ _ _ _ _ := fun y => hR.out FL FI y.at_ (Below.of hbE.out y.below) lFL lFI
      rw [eU0] at hR2
      obtain ⟨US, hUS⟩ : ∃ x, x = PC.valuesS c FL FI := ⟨_, rfl⟩
      rw [← hUS] at hR2
      have eUS : Hid (US = PC.vals c FL FI) := by show _ = _; rw [hUS, PC.valuesS, if_pos eU0]
      have lUS : US.length ≤ 9223372036854775807 := by rw [eUS.out, PC.vals_length]; omega
      have hlaw : Hid (∀ x ∈ hold, 0 ≤ x → x / 2 ≤ c.max → PC.tru US x = true) := fun x hx h0 h1 => by
        rw [eUS.out]
        exact PC.lift_sound c hRt.out HHE.out (by rw [← e2.out]; exact cFL.out) cFI.out (PC.bitsOk_mem bFL.out).1 (PC.bitsOk_mem bFI.out).1 x hx h0 h1
      have hcov2 : PC.covers LS st = true := by
        rw [PC.covers_iff, e2.out]
        exact PC.liftN_cov c st inp hold _
      have hCv2 := Lib.hid fun w1 => terCovers_any LS st w1 (by omega) (by omega)
      rw [hcov2] at hCv2
      clear hcov2 eU0 hUS lFL lLS hFL hR
      obtain ⟨q0, q1, q2, q3, q4, q5, q6, q7⟩ := hbx5.out.later
      go_wp2_with (go_at_call 10; refine (hNum.out _ _).mono ?_; rintro e w6 ⟨rfl, rfl⟩)
      refine wp_region_later (by kernel_rfl) (by kernel_rfl) ?_; (repeat (go_big_quiet_step ((first | (go_at_call 12; with_reducible exact Calls.later (hG1 _)) | (go_at_call 12; with_reducible exact Calls.later (hG2 _)) | (go_at_call 11; with_reducible exact Calls.later (hR2 _)))))); refine wpQuiet_nil ?_; rintro w3 ⟨⟨_, hb3⟩, rfl⟩
      clear q0 q1 q2 q3 q4 q5 q6 q7 hG1 hG2 hR2
      have hbF := Lib.hid (Below.of hbE.out hb3)
      have hbx6 := Lib.hid (hbx5.out.mono hb3)
      clear hb3 hbE hbx5
      obtain ⟨W6, hW6⟩ : ∃ W, W = w3 := ⟨_, rfl⟩
      subst hW6
      go_wp2_with fail
      go_loopg [19] hold.length (fun gg s19 wr => ∃ k : Nat, k ≤ hold.length ∧ hold.length - k ≤ gg ∧ s19 = .int .i64 k ∧ Below W6.heap.size W6 wr)
      case atStart => exact ⟨0, Nat.zero_le _, by omega, rfl, Below.refl _ _⟩
      case round =>
        obtain ⟨k, hk, hg, rfl, hbr⟩ := hrel
        have hbWr := Lib.hid (Below.of hbF.out hbr)
        by_cases hlt : k < hold.length
        · have hmea : Hid (∀ g : Nat, hold.length - k ≤ g → hold.length - (k + 1) < g) := fun g h => by omega
          have HG := Lib.hid hg
          obtain ⟨bi, offi, rfl, hbsi, hxr, hcell⟩ := HH.out k hlt
          have hcell : ∀ y : Later wr, y.at_.cell? ⟨bi, offi + k, none⟩ = some (.int .i64 hold[k]) := fun y => y.cell ((hbWr.out.cell hbsi).trans hcell)
          have hlx := Lib.hid (hlaw.out hold[k] (List.getElem_mem hlt))
          generalize hold[k] = x at *
          have hltz : (k : Int) < (hold.length : Int) := by omega
          have hTr : ∀ y : Later wr, Calls _ _ _ _ _ := fun y => rTrue_any US x y.at_ hxr lUS
          have hbxr := hbx6.out.mono hbr
          clear hg
          cases htr : PC.tru US x with
          | true =>
            rw [htr] at hTr
            clear htr hlx hbxr
            go_wp2_with fail
            refine wp_region_later (by kernel_rfl) (by kernel_rfl) ?_; (repeat (go_big_quiet_step ((go_at_call 15; with_reducible exact Calls.later_same (hTr _))))); refine wpQuiet_nil ?_; rintro w3 ⟨⟨_, hb3⟩, rfl⟩
            clear hTr hcell
            go_wp2_with fail
            go_roundg (hold.length - (k + 1))
            case measure => exact hmea.out _ HG.out
            case rel => exact ⟨k + 1, by omega, by omega, by go_num, Below.of hbr hb3⟩
          | false =>
            rw [htr] at hTr hlx
            clear htr
            by_cases h0 : 0 ≤ x
            · have hd0 : decide (0 ≤ x) = true := decide_eq_true h0
              have hd1 : ¬ x / 2 ≤ c.max := fun h1 => by have := hlx.out h0 h1; cases this
              have hd2 : decide (x / 2 ≤ c.max) = false := decide_eq_false hd1
              have hq : x.tdiv 2 = x / 2 := Int.tdiv_eq_ediv_of_nonneg h0
              have hwx := Lib.hid (show wrap64 (x / 2) = x / 2 by obtain ⟨g1, g2⟩ := hxr; unfold wrap64; omega)
              obtain ⟨q0, q1, q2, q3, q4, q5, q6, q7⟩ := hbxr.later
              clear hlx hd1
              go_wp2_with fail
              have hwx := hwx.out
              refine wp_region_later (by kernel_rfl) (by kernel_rfl) ?_; (repeat (go_big_quiet_step ((go_at_call 15; with_reducible exact Calls.later_same (hTr _))))); refine wpQuiet_nil ?_; rintro w3 ⟨⟨_, hb3⟩, rfl⟩
              clear hTr hcell q0 q1 q2 q3 q4 q5 q6 q7 hwx
              go_wp2_with fail
              go_roundg (hold.length - (k + 1))
              case measure => exact hmea.out _ HG.out
              case rel => exact ⟨k + 1, by omega, by omega, by go_num, Below.of hbr hb3⟩
            · have hd0 : decide (0 ≤ x) = false := decide_eq_false h0
              clear hlx hbxr h0
              go_wp2_with fail
              refine wp_region_later (by kernel_rfl) (by kernel_rfl) ?_; (repeat (go_big_quiet_step ((go_at_call 15; with_reducible exact Calls.later_same (hTr _))))); refine wpQuiet_nil ?_; rintro w3 ⟨⟨_, hb3⟩, rfl⟩
              clear hTr hcell
              go_wp2_with fail
              go_roundg (hold.length - (k + 1))
              case measure => exact hmea.out _ HG.out
              case rel => exact ⟨k + 1, by omega, by omega, by go_num, Below.of hbr hb3⟩
        · have hltz : ¬ (k : Int) < (hold.length : Int) := by omega
          obtain rfl : k = hold.length := by omega
          go_wp2_with fail
          refine (hCv2.out _).mono ?_
          rintro e w7 ⟨rfl, hbk⟩
          go_wp2_with fail
          go_ret
          exact ⟨rfl, Below.of hbWr.out hbk⟩
  · have hz1 : (VE == 0) = false := by simpa using hz
    have hz2 : (VE != 0) = true := by simpa using hz
    have e2 : VS = [] := by rw [HVS.out, PC.ternS, ← HVE.out, if_neg hz]
    subst e2
    go_wp2_with (go_at_call 10; refine (hNum.out _ _).mono ?_; rintro e w3 ⟨rfl, rfl⟩)
    go_ret
    exact ⟨rfl, hbB.out⟩

end Go.Proofs.YtlakfaalpijhiaaDoor
