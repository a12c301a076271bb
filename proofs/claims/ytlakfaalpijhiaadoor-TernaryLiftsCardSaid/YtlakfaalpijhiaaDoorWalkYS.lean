/- Contracts: the page's held and Lift; Widen with any bound. -/
import Derived.Test.YtlakfaalpijhiaaDoorWalkYP
import Derived.Test.YtlakfaalpijhiaaDoorWalkYM
import Derived.Test.YtlakfaalpijhiaaDoorWalkY4
import Derived.Test.YtlakfaalpijhiaaDoorPlainY3
namespace Go.Proofs.YtlakfaalpijhiaaDoor
open Go.RowKit Go.Shelf
attribute [local simp] mk_get

set_option maxHeartbeats 1000000 in
theorem rheld_any (m : List UInt8) (hold : List Int) (v : Value) (w : World) (hv : Ints w v hold) (hm : m.length ≤ 9223372036854775807) (ht : ∀ b ∈ m, PC.isTrit b = true) :
    Calls Tryd.prog 43 #[.string ⟨m.toArray⟩, v] w fun e w' => e = .returned (.bool (PC.heldT m hold)) ∧ w = w' := by
  obtain ⟨ao, cap, rfl, h1, h2, hc⟩ := hv.open_
  have HC := Lib.hid hc
  obtain ⟨f, hf⟩ : ∃ f : Nat → Bool, ∀ j, f j = (hold.take j).all fun l => PC.ofT m l == 49 := ⟨_, fun _ => rfl⟩
  have hf0 : Hid (f 0 = true) := by show _ = _; rw [hf]; rfl
  have hfs : Hid (∀ j (h : j < hold.length), f (j + 1) = (f j && (PC.ofT m hold[j] == 49))) := fun j h => by
    rw [hf, hf, List.take_succ_eq_append_getElem h, List.all_append]; simp
  obtain ⟨R, hR⟩ : ∃ R, R = PC.heldT m hold := ⟨_, rfl⟩
  have hfe : Hid (f hold.length = R) := by show _ = _; rw [hf, List.take_length, hR]; rfl
  have hff : Hid (∀ j, f j = false → R = false) := fun j h => by
    rw [hf, List.all_eq_false] at h
    obtain ⟨x, hx, hp⟩ := h
    rw [hR, PC.heldT, List.all_eq_false]
    exact ⟨x, List.mem_of_mem_take hx, hp⟩
  rw [← hR]
  clear hf hR hc hv
  go_enter Tryd.func43, Tryd.ntmps43
  go_wp2_with fail
  go_loopg [5] hold.length (fun gg s5 wr => ∃ k : Nat, k ≤ hold.length ∧ hold.length - k ≤ gg ∧ s5 = .int .i64 k ∧ w = wr ∧ Aside (f k = true))
  case atStart => exact ⟨0, Nat.zero_le _, by omega, rfl, rfl, hf0.out⟩
  case round =>
    obtain ⟨k, hk, hg, rfl, rfl, A⟩ := hrel
    by_cases hlt : k < hold.length
    · have hmea : Hid (∀ g : Nat, hold.length - k ≤ g → hold.length - (k + 1) < g) := fun g h => by omega
      have HG := Lib.hid hg
      obtain ⟨b, off, rfl, hbs, hr, c0⟩ := HC.out k hlt
      have hst := hfs.out k hlt
      rw [A.out, Bool.true_and] at hst
      generalize hold[k] = x at *
      have hO := Lib.hid (rOf_any m x w hr hm ht)
      have hltz : (k : Int) < (hold.length : Int) := by omega
      rw [u8_beq49] at hst
      generalize PC.ofT m x = y at *
      clear hg A
      cases hy : ((y.toNat : Int) == 49) with
      | true =>
        rw [hy] at hst
        have hst := Lib.hid hst
        go_wp2_with (go_at_call 18; refine hO.out.mono ?_; rintro e w4 ⟨rfl, rfl⟩)
        go_roundg (hold.length - (k + 1))
        case measure => exact hmea.out _ HG.out
        case rel => exact ⟨k + 1, by omega, by omega, by go_num, rfl, hst.out⟩
      | false =>
        rw [hy] at hst
        have hRf := Lib.hid (hff.out _ hst)
        clear hst
        go_wp2_with (go_at_call 18; refine hO.out.mono ?_; rintro e w4 ⟨rfl, rfl⟩)
        go_ret
        exact ⟨by rw [hRf.out]; rfl, rfl⟩
    · have hltz : ¬ (k : Int) < (hold.length : Int) := by omega
      obtain rfl : k = hold.length := by omega
      have hRt := Lib.hid (hfe.out.symm.trans A.out)
      clear hg hk hlt A
      go_wp2_with fail
      go_ret
      exact ⟨by rw [hRt.out]; rfl, rfl⟩

set_option maxRecDepth 100000 in
set_option maxHeartbeats 8000000 in
theorem rLift_any (c : PC.Circ) (vc vh : Value) (st inp : List UInt8) (hold : List Int) (w : World) (h : IsCirc w vc c) (hf : Fits c) (hH : Ints w vh hold) (hs : st.length ≤ 9223372036854775806) (hi : inp.length ≤ 9223372036854775806) :
    Calls Tryd.prog 24 #[vc, .string ⟨st.toArray⟩, .string ⟨inp.toArray⟩, vh] w fun e w' => e = .returned (.tuple #[.string ⟨(PC.liftS c st inp hold).toArray⟩, .int .i64 (PC.liftE c st inp hold)]) ∧ Below w.heap.size w w' := by
  have hV := Lib.hid fun m (hm : m.length ≤ 9223372036854775806) w1 (hb : Below w.heap.size w w1) => rTernary_any c vc m inp w1 (h.mono hb) hf hm hi
  have hHe := Lib.hid fun m w1 (hb : Below w.heap.size w w1) => rheld_any m hold vh w1 (hH.mono hb)
  obtain ⟨vi, vl, vo, vb, vv, va, vn, rfl, hp, hm⟩ := h
  obtain ⟨ah, caph, rfl, _, _, _⟩ := id hH.open_
  clear hp hH
  have hb0 := Lib.hid ((Below.refl w.heap.size w).alloc (Nat.le_refl _) (.cells #[.int .i64 c.max, vi, vl, vo, vb, vv, va, vn] 27))
  have hbx0 := Lib.hid (Box8.new w (.int .i64 c.max) vi vl vo vb vv va vn 27)
  obtain ⟨VE, hVE⟩ : ∃ x, x = PC.ternE c st inp := ⟨_, rfl⟩
  obtain ⟨VS, hVS⟩ : ∃ x, x = PC.ternS c st inp := ⟨_, rfl⟩
  obtain ⟨LE, hLE⟩ : ∃ x, x = PC.liftE c st inp hold := ⟨_, rfl⟩
  obtain ⟨LS, hLS⟩ : ∃ x, x = PC.liftS c st inp hold := ⟨_, rfl⟩
  have hV0 := Lib.hid (hV.out st hs)
  rw [← hVE, ← hVS] at hV0
  rw [← hLE, ← hLS]
  have HVE := Lib.hid hVE
  have HVS := Lib.hid hVS
  have HLE := Lib.hid hLE
  have HLS := Lib.hid hLS
  clear hVE hVS hLE hLS
  obtain ⟨q0, q1, q2, q3, q4, q5, q6, q7⟩ := hbx0.out
  go_enter Tryd.func24, Tryd.ntmps24
  go_wp2_with fail
  refine (hV0.out _ hb0.out).mono ?_
  rintro e w1 ⟨rfl, hb1⟩
  have hbA := Lib.hid (Below.of hb0.out hb1)
  have hbx1 := Lib.hid (hbx0.out.mono hb1)
  clear hb0 hb1 hbx0 hV0 q0 q1 q2 q3 q4 q5 q6 q7
  by_cases hz : VE = 0
  · have e0 := HVE.out.symm.trans hz
    have hck := PC.chk_of_ternE c st inp e0
    have HCK := Lib.hid hck
    have hRt := Lib.hid (PC.right_of c hck.1)
    have eVS : VS = PC.tvals c st inp := by rw [HVS.out, PC.ternS, if_pos e0]
    have hmx := hRt.out.max1
    have hVl : VS.length ≤ 9223372036854775807 := by rw [eVS, PC.tvals_length]; omega
    have hVt : ∀ b ∈ VS, PC.isTrit b = true := by
      rw [eVS]; exact PC.tvals_trits c st inp (PC.tritsOk_mem hck.2.1).1 (PC.tritsOk_mem hck.2.2).1
    have hsl : Hid (st.length = c.latches.length) := (PC.tritsOk_mem hck.2.1).2
    have hil : Hid (inp.length = c.inputs.length) := (PC.tritsOk_mem hck.2.2).2
    have hHe1 := Lib.hid (hHe.out VS w1 hbA.out hVl hVt)
    subst hz
    cases hhe : PC.heldT VS hold with
    | false =>
      rw [hhe] at hHe1
      have e1 : LE = 51 := by rw [HLE.out, PC.liftE_ok e0, ← eVS, hhe]; rfl
      have e2 : LS = [] := by rw [HLS.out, PC.liftS, ← HLE.out, e1]; rfl
      clear eVS hhe hck e0 hVl hVt
      go_wp2_with fail
      refine hHe1.out.mono ?_
      rintro e w2 ⟨rfl, rfl⟩
      go_wp2_with fail
      go_ret2
      exact ⟨by rw [e1, e2]; rfl, hbA.out⟩
    | true =>
      rw [hhe] at hHe1
      have e1 : LE = 0 := by rw [HLE.out, PC.liftE_ok e0, ← eVS, if_pos hhe]
      have e2 : Hid (LS = PC.liftN c st inp hold st.length) := by show _ = _; rw [HLS.out, PC.liftS, ← HLE.out, if_pos e1]
      clear hhe eVS hck e0 hVl hVt
      subst e1
      go_wp2_with fail
      refine hHe1.out.mono ?_
      rintro e w2 ⟨rfl, rfl⟩
      clear hHe1
      obtain ⟨W1, hW1⟩ : ∃ W, W = w1 := ⟨_, rfl⟩
      subst hW1
      go_wp2_with fail
      go_loopg [1, 12] st.length (fun gg s1 s12 wr => ∃ k : Nat, k ≤ st.length ∧ st.length - k ≤ gg ∧ s1 = .string ⟨(PC.liftN c st inp hold k).toArray⟩ ∧ s12 = .int .i64 k ∧ Below W1.heap.size W1 wr)
      case atStart => exact ⟨0, Nat.zero_le _, by omega, rfl, rfl, Below.refl _ _⟩
      case round =>
        obtain ⟨k, hk, hg, rfl, rfl, hbr⟩ := hrel
        have hML := PC.liftN_length c st inp hold k
        have hMo := Lib.hid (PC.liftN_ok c st inp hold k _ HCK.out.2.1)
        have hstep := Lib.hid (PC.liftN_succ c st inp hold k)
        by_cases hlt : k < st.length
        · have hmea : Hid (∀ g : Nat, st.length - k ≤ g → st.length - (k + 1) < g) := fun g h => by omega
          have HG := Lib.hid hg
          obtain ⟨M, hM⟩ : ∃ M, M = PC.liftN c st inp hold k := ⟨_, rfl⟩
          rw [← hM] at hstep hML hMo ⊢
          have hltz : (k : Int) < (M.length : Int) := by omega
          have hsl' := hsl.out
          have hll := hRt.out.lats
          have hset : Hid (Calls Tryd.prog 30 #[.string ⟨M.toArray⟩, .int .i64 (k : Int), .int .u8 120] wr fun e w' => e = .returned (.string ⟨(M.set k 120).toArray⟩) ∧ Below wr.heap.size wr w') := rset_any M k 120 wr (by omega) (by omega)
          have hMs := Lib.hid (PC.trits_set (k := k) hMo.out)
          have hTl : (M.set k 120).length ≤ 9223372036854775806 := by rw [List.length_set]; omega
          have hstep : Hid (PC.liftN c st inp hold (k + 1) = if PC.heldT (PC.tvals c (M.set k 120) inp) hold = true then M.set k 120 else M) := hstep.out
          have hVk := Lib.hid (hV.out (M.set k 120) hTl)
          have hTE : PC.ternE c (M.set k 120) inp = 0 := by
            unfold PC.ternE
            rw [if_neg (by rw [HCK.out.1]; decide), if_neg (by rw [hMs.out, HCK.out.2.2]; decide)]
          have hTS : PC.ternS c (M.set k 120) inp = PC.tvals c (M.set k 120) inp := by rw [PC.ternS, if_pos hTE]
          rw [hTE, hTS] at hVk
          have hTt := Lib.hid (PC.tvals_trits c (M.set k 120) inp (PC.tritsOk_mem hMs.out).1 (PC.tritsOk_mem HCK.out.2.2).1)
          have hTvl : Hid ((PC.tvals c (M.set k 120) inp).length ≤ 9223372036854775807) := by show _ ≤ _; rw [PC.tvals_length]; omega
          clear hTE hTS hTl hsl' hll hM hg hMs hMo
          generalize PC.tvals c (M.set k 120) inp = TV at *
          generalize M.set k 120 = T at *
          go_wp2_with fail
          refine hset.out.mono ?_
          rintro e w4 ⟨rfl, hb4⟩
          have hbr4 := Lib.hid (Below.of hbr hb4)
          have hbx4 := Lib.hid (hbx1.out.mono hbr4.out)
          obtain ⟨q0, q1, q2, q3, q4, q5, q6, q7⟩ := hbx4.out
          clear hset hb4
          go_wp2_with fail
          refine (hVk.out _ (Below.of hbA.out hbr4.out)).mono ?_
          rintro e w5 ⟨rfl, hb5⟩
          have hbr5 := Lib.hid (Below.of hbr4.out hb5)
          clear hVk hb5 hbx4 hbr4 q0 q1 q2 q3 q4 q5 q6 q7
          have hH5 := Lib.hid (hHe.out TV w5 (Below.of hbA.out hbr5.out) hTvl.out hTt.out)
          go_wp2_with fail
          cases hht : PC.heldT TV hold with
          | true =>
            rw [hht] at hH5
            have hs1 : Hid (PC.liftN c st inp hold (k + 1) = T) := by show _ = _; rw [hstep.out, if_pos hht]
            clear hht hstep
            refine hH5.out.mono ?_
            rintro e w6 ⟨rfl, rfl⟩
            go_wp2_with fail
            go_roundg (st.length - (k + 1))
            case measure => exact hmea.out _ HG.out
            case rel => exact ⟨k + 1, by omega, by omega, by rw [hs1.out], by go_num, hbr5.out⟩
          | false =>
            rw [hht] at hH5
            have hs1 : Hid (PC.liftN c st inp hold (k + 1) = M) := by show _ = _; rw [hstep.out, if_neg (by rw [hht]; decide)]
            clear hht hstep
            refine hH5.out.mono ?_
            rintro e w6 ⟨rfl, rfl⟩
            go_wp2_with fail
            go_roundg (st.length - (k + 1))
            case measure => exact hmea.out _ HG.out
            case rel => exact ⟨k + 1, by omega, by omega, by rw [hs1.out], by go_num, hbr5.out⟩
        · obtain rfl : k = st.length := by omega
          have hltz : ¬ (st.length : Int) < ((PC.liftN c st inp hold st.length).length : Int) := by omega
          rw [← e2.out] at hltz hML ⊢
          clear hg hk hlt hstep hMo
          go_wp2_with fail
          go_ret2
          exact ⟨rfl, Below.of hbA.out hbr⟩
  · have e1 : LE = VE := by rw [HLE.out, PC.liftE, if_pos (by rw [← HVE.out]; exact hz), ← HVE.out]
    have e2 : LS = [] := by rw [HLS.out, PC.liftS, if_neg (by rw [← HLE.out, e1]; exact hz)]
    have hz2 : (VE != 0) = true := by simpa using hz
    clear hz
    go_wp2_with fail
    go_ret2
    exact ⟨by rw [e1, e2]; rfl, hbA.out⟩

set_option maxRecDepth 100000 in
set_option maxHeartbeats 8000000 in
theorem widen_all (c : PC.Circ) (vc : Value) (most : Int) (w : World) (h : IsCirc w vc c) :
    Calls Tryd.prog 22 #[vc, .int .i64 most] w fun e w' => e = .returned (.tuple #[.string ⟨(PC.widL c most).toArray⟩, .int .i64 (PC.widM c most), .int .i64 (PC.widE c most)]) ∧ Below w.heap.size w w' := by
  cases hck : PC.chk c with
  | false =>
    have h0 := PC.widE_false most hck
    have e1 : PC.widL c most = [] := by rw [PC.widL, h0]; rfl
    have e2 : PC.widM c most = 0 := by rw [PC.widM, h0]; rfl
    rw [e1, e2, h0]
    have hCk := Lib.hid fun w1 (hb : Below w.heap.size w w1) => cCheck_any c vc w1 (h.mono hb)
    rw [PC.pchk_eq, hck] at hCk
    obtain ⟨vi, vl, vo, vb, vv, va, vn, rfl, hp, hm⟩ := h
    have hb0 := Lib.hid ((Below.refl w.heap.size w).alloc (Nat.le_refl _) (.cells #[.int .i64 c.max, vi, vl, vo, vb, vv, va, vn] 27))
    have hbx0 := Lib.hid (Box8.new w (.int .i64 c.max) vi vl vo vb vv va vn 27)
    obtain ⟨q0, q1, q2, q3, q4, q5, q6, q7⟩ := hbx0.out
    clear hp h0 e1 e2
    go_enter Tryd.func22, Tryd.ntmps22
    go_wp2_with fail
    refine (hCk.out _ hb0.out).mono ?_
    rintro e w1 ⟨rfl, hb1⟩
    go_wp2_with fail
    go_ret3
    exact ⟨rfl, Below.of hb0.out hb1⟩
  | true =>
    by_cases hm : most < 0 ∨ 80 < most
    · have h0 := PC.widE_off hck hm
      have e1 : PC.widL c most = [] := by rw [PC.widL, h0]; rfl
      have e2 : PC.widM c most = 0 := by rw [PC.widM, h0]; rfl
      rw [e1, e2, h0]
      have hCk := Lib.hid fun w1 (hb : Below w.heap.size w w1) => cCheck_any c vc w1 (h.mono hb)
      rw [PC.pchk_eq, hck] at hCk
      obtain ⟨vi, vl, vo, vb, vv, va, vn, rfl, hp, hm⟩ := h
      have hb0 := Lib.hid ((Below.refl w.heap.size w).alloc (Nat.le_refl _) (.cells #[.int .i64 c.max, vi, vl, vo, vb, vv, va, vn] 27))
      have hbx0 := Lib.hid (Box8.new w (.int .i64 c.max) vi vl vo vb vv va vn 27)
      obtain ⟨q0, q1, q2, q3, q4, q5, q6, q7⟩ := hbx0.out
      clear hp h0 e1 e2
      go_enter Tryd.func22, Tryd.ntmps22
      go_wp2_with fail
      refine (hCk.out _ hb0.out).mono ?_
      rintro e w1 ⟨rfl, hb1⟩
      by_cases h1 : most < 0
      · have hd1 : decide (most < 0) = true := decide_eq_true h1
        go_wp2_with fail
        go_ret3
        exact ⟨rfl, Below.of hb0.out hb1⟩
      · have hd1 : decide (most < 0) = false := decide_eq_false h1
        have hd2 : decide ((80 : Int) < most) = true := decide_eq_true (by omega)
        clear h1
        go_wp2_with fail
        go_ret3
        exact ⟨rfl, Below.of hb0.out hb1⟩
    · have h0 := PC.widE_on hck hm
      obtain ⟨n, rfl⟩ : ∃ n : Nat, most = n := ⟨most.toNat, by omega⟩
      have hw := widen_any c vc n w h (by omega)
      simp only [hck, if_true] at hw
      rw [PC.widL, PC.widM, h0, if_pos rfl, if_pos rfl, Int.toNat_natCast]
      exact hw

end Go.Proofs.YtlakfaalpijhiaaDoor
