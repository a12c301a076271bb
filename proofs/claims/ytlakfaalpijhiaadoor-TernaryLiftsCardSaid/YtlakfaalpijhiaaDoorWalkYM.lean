/- Contract: ternary.Lift. -/
import Derived.Test.YtlakfaalpijhiaaDoorWalkYL
namespace Go.Proofs.YtlakfaalpijhiaaDoor
open Go.RowKit Go.Shelf
attribute [local simp] mk_get

theorem set_back (m : List UInt8) (k : Nat) (h : k < m.length) (y x : UInt8) (hy : m[k] = y) : (m.set k x).set k y = m := by
  subst hy
  rw [List.set_set, List.set_getElem_self]

set_option maxRecDepth 100000 in
set_option maxHeartbeats 8000000 in
theorem lift_any (c : PC.Circ) (vc vh : Value) (st inp : List UInt8) (hold : List Int) (w : World) (h : IsCirc w vc c) (hH : Ints w vh hold) (hs : st.length ≤ 9223372036854775807) (hi : inp.length ≤ 9223372036854775807) :
    Calls Tryd.prog 14 #[vc, .string ⟨st.toArray⟩, .string ⟨inp.toArray⟩, vh] w fun e w' => e = .returned (.tuple #[.string ⟨(PC.liftS c st inp hold).toArray⟩, .int .i64 (PC.liftE c st inp hold)]) ∧ Below w.heap.size w w' := by
  have hV := Lib.hid fun w1 (hb : Below w.heap.size w w1) => terValues_any c vc st inp w1 (h.mono hb) hs hi
  have hRun := Lib.hid fun m w1 (hb : Below w.heap.size w w1) => run_any c vc m inp w1 (h.mono hb)
  have hHe := Lib.hid fun m w1 (hb : Below w.heap.size w w1) => held_any m hold vh w1 (hH.mono hb)
  obtain ⟨vi, vl, vo, vb, vv, va, vn, rfl, hp, hm⟩ := h
  obtain ⟨ah, caph, rfl, _, _, _⟩ := id hH.open_
  clear hp hH
  have hb0 := Lib.hid ((Below.refl w.heap.size w).alloc (Nat.le_refl _) (.cells #[.int .i64 c.max, vi, vl, vo, vb, vv, va, vn] 27))
  have hbx0 := Lib.hid (Box8.new w (.int .i64 c.max) vi vl vo vb vv va vn 27)
  obtain ⟨VE, hVE⟩ : ∃ x, x = PC.ternE c st inp := ⟨_, rfl⟩
  obtain ⟨VS, hVS⟩ : ∃ x, x = PC.ternS c st inp := ⟨_, rfl⟩
  obtain ⟨LE, hLE⟩ : ∃ x, x = PC.liftE c st inp hold := ⟨_, rfl⟩
  obtain ⟨LS, hLS⟩ : ∃ x, x = PC.liftS c st inp hold := ⟨_, rfl⟩
  rw [← hVE, ← hVS] at hV
  rw [← hLE, ← hLS]
  have HVE := Lib.hid hVE
  have HVS := Lib.hid hVS
  have HLE := Lib.hid hLE
  have HLS := Lib.hid hLS
  clear hVE hVS hLE hLS
  go_enter Tryd.func14, Tryd.ntmps14
  go_wp2_with fail
  refine (hV.out _ hb0.out).mono ?_
  rintro e w1 ⟨rfl, hb1⟩
  have hbA := Lib.hid (Below.of hb0.out hb1)
  have hbx1 := Lib.hid (hbx0.out.mono hb1)
  clear hb0 hb1 hbx0 hV
  by_cases hz : VE = 0
  · have e0 := HVE.out.symm.trans hz
    have hck := PC.chk_of_ternE c st inp e0
    have hRt := Lib.hid (PC.right_of c hck.1)
    have eVS : VS = PC.tvals c st inp := by rw [HVS.out, PC.ternS, if_pos e0]
    have hmx := hRt.out.max1
    have hVl : VS.length ≤ 9223372036854775807 := by rw [eVS, PC.tvals_length]; omega
    have hsl : Hid (st.length = c.latches.length) := (PC.tritsOk_mem hck.2.1).2
    have hil : Hid (inp.length = c.inputs.length) := (PC.tritsOk_mem hck.2.2).2
    have hHe1 := Lib.hid (hHe.out VS w1 hbA.out hVl)
    subst hz
    cases hhe : PC.heldT VS hold with
    | false =>
      rw [hhe] at hHe1
      have e1 : LE = 51 := by rw [HLE.out, PC.liftE_ok e0, ← eVS, hhe]; rfl
      have e2 : LS = [] := by rw [HLS.out, PC.liftS, ← HLE.out, e1]; rfl
      clear eVS hhe hck e0
      go_wp2_with fail
      refine hHe1.out.mono ?_
      rintro e w2 ⟨rfl, hb2⟩
      go_wp2_with fail
      go_ret2
      exact ⟨by rw [e1, e2]; rfl, Below.of hbA.out hb2⟩
    | true =>
      rw [hhe] at hHe1
      have e1 : LE = 0 := by rw [HLE.out, PC.liftE_ok e0, ← eVS, if_pos hhe]
      have e2 : Hid (LS = PC.liftN c st inp hold st.length) := by show _ = _; rw [HLS.out, PC.liftS, ← HLE.out, if_pos e1]
      clear hhe eVS hck e0
      subst e1
      go_wp2_with fail
      refine hHe1.out.mono ?_
      rintro e w3 ⟨rfl, hb3⟩
      have hbC := Lib.hid (Below.of hbA.out hb3)
      have hbx3 := Lib.hid (hbx1.out.mono hb3)
      clear hbA hb3 hbx1 hHe1
      have kb := fun w s => run_bytes_of_string (P := Tryd.prog) w 9 45 5 s Tryd.underlying9 Tryd.underlying45 Tryd.underlying5
      have hgl : w.heap.size < w3.heap.size := World.block_lt_of_cell? w3 _ hbx3.out.1
      go_wp2_with fail
      clear kb
      go_loopg [35] st.length (fun gg s35 wr => ∃ k : Nat, k ≤ st.length ∧ st.length - k ≤ gg ∧ s35 = .int .i64 k ∧ Hid (RowX wr w3.heap.size st.length (PC.liftN c st inp hold k)) ∧ Below w3.heap.size w3 wr)
      case atStart =>
        refine ⟨0, Nat.zero_le _, by omega, rfl, ?_, ?_⟩
        · exact RowX.new w3 st _ (grownCap_ge _ _ _ _) hs
        · exact ((Below.refl _ _).alloc (Nat.le_refl _) _).drew
      case round =>
        obtain ⟨k, hk, hg, rfl, hrow, hbr⟩ := hrel
        have hML := PC.liftN_length c st inp hold k
        have hstep := Lib.hid (PC.liftN_succ c st inp hold k)
        by_cases hlt : k < st.length
        · have hmea : Hid (∀ g : Nat, st.length - k ≤ g → st.length - (k + 1) < g) := fun g h => by omega
          have HG := Lib.hid hg
          have hbxr := Lib.hid (hbx3.out.mono hbr)
          have hkM : k < (PC.liftN c st inp hold k).length := by omega
          obtain ⟨y, hy⟩ : ∃ y, (PC.liftN c st inp hold k)[k] = y := ⟨_, rfl⟩
          have hc := hrow.out.cell k hkM
          rw [hy] at hc
          have hfz := hrow.out.free k hkM
          have hback := Lib.hid (set_back (PC.liftN c st inp hold k) k hkM y 120 hy)
          obtain ⟨hP1, hP2⟩ := hrow.out.put k 120
          have HP1 : Hid (RowX (wr.setCell ⟨w3.heap.size, k, none⟩ (.int .u8 120)) w3.heap.size st.length ((PC.liftN c st inp hold k).set k 120)) := hP1
          have HP2 : Hid (wr.grownBy (wr.setCell ⟨w3.heap.size, k, none⟩ (.int .u8 120)) (some w3.heap.size)) := hP2
          have hb1s := Lib.hid (hbr.grown HP2.out hbr.size (fun k e => by cases e; exact Nat.le_refl _))
          have hbxs : Hid (Box8 (wr.setCell ⟨w3.heap.size, k, none⟩ (.int .u8 120)) w.heap.size (.int .i64 c.max) vi vl vo vb vv va vn) := hbx3.out.mono hb1s.out
          have hconv := fun cap => HP1.out.conv (cap := cap)
          have hltz : (k : Int) < (st.length : Int) := by omega
          obtain ⟨M, hM⟩ : ∃ M, M = PC.liftN c st inp hold k := ⟨_, rfl⟩
          rw [← hM] at HP1 hback hstep hconv hrow hML
          clear hP1 hP2 hM hy hg
          obtain ⟨q0, q1, q2, q3, q4, q5, q6, q7⟩ := hbxs.out
          go_wp2_with fail
          obtain ⟨S1, hS1⟩ : ∃ S, S = wr.setCell ⟨w3.heap.size, k, none⟩ (.int .u8 120) := ⟨_, rfl⟩
          rw [← hS1] at HP1 hb1s hbxs ⊢
          clear q0 q1 q2 q3 q4 q5 q6 q7 hconv hc hfz HP2 hS1
          have hlS : (M.set k 120).length = c.latches.length := by rw [List.length_set]; have := hsl.out; omega
          refine (hRun.out (M.set k 120) S1 (Below.of hbC.out hb1s.out) hRt.out hlS hil.out).mono ?_
          rintro e w4 ⟨rfl, hb4⟩
          have hbE := Lib.hid (Below.of hb1s.out hb4)
          have hr4 := Lib.hid (HP1.out.below hb4)
          clear hb4 hb1s HP1 hlS
          have hH4 := Lib.hid (hHe.out (PC.tvals c (M.set k 120) inp) w4 (Below.of hbC.out hbE.out) (by rw [PC.tvals_length]; omega))
          have hstep : Hid (PC.liftN c st inp hold (k + 1) = if PC.heldT (PC.tvals c (M.set k 120) inp) hold = true then M.set k 120 else M) := hstep.out
          generalize PC.tvals c (M.set k 120) inp = TV at *
          cases hht : PC.heldT TV hold with
          | true =>
            rw [hht] at hH4
            have hs1 : Hid (PC.liftN c st inp hold (k + 1) = M.set k 120) := by show _ = _; rw [hstep.out, if_pos hht]
            clear hht hstep
            go_wp2_with fail
            refine hH4.out.mono ?_
            rintro e w5 ⟨rfl, hb5⟩
            have hr5 := Lib.hid (hr4.out.below hb5)
            go_wp2_with fail
            go_roundg (st.length - (k + 1))
            case measure => exact hmea.out _ HG.out
            case rel => exact ⟨k + 1, by omega, by omega, by go_num, by rw [hs1.out]; exact hr5, Below.of hbE.out hb5⟩
          | false =>
            rw [hht] at hH4
            have hs1 : Hid (PC.liftN c st inp hold (k + 1) = M) := by show _ = _; rw [hstep.out, if_neg (by rw [hht]; decide)]
            clear hht hstep
            go_wp2_with fail
            refine hH4.out.mono ?_
            rintro e w5 ⟨rfl, hb5⟩
            have hr5 := Lib.hid (hr4.out.below hb5)
            have hkM5 : k < (M.set k 120).length := by rw [List.length_set]; omega
            have hc5 := hr5.out.cell k hkM5
            have hf5 := hr5.out.free k hkM5
            generalize (M.set k 120)[k] = y5 at hc5
            obtain ⟨hP1, hP2⟩ := hr5.out.put k y
            rw [hback.out] at hP1
            have HP1 := Lib.hid hP1
            have hb5s := Lib.hid ((Below.of hbE.out hb5).grown hP2 (Below.of hbE.out hb5).size (fun k e => by cases e; exact Nat.le_refl _))
            clear hP1 hP2
            go_wp2_with fail
            go_roundg (st.length - (k + 1))
            case measure => exact hmea.out _ HG.out
            case rel => exact ⟨k + 1, by omega, by omega, by go_num, by rw [hs1.out]; exact HP1, hb5s.out⟩
        · have hltz : ¬ (k : Int) < (st.length : Int) := by omega
          obtain rfl : k = st.length := by omega
          have hconv := fun cap => hrow.out.conv (cap := cap)
          rw [← e2.out] at hconv
          go_wp2_with fail
          go_ret2
          exact ⟨rfl, Below.of hbC.out hbr⟩
  · have hz1 : (VE == 0) = false := by simpa using hz
    have hz2 : (VE != 0) = true := by simpa using hz
    have e1 : LE = VE := by rw [HLE.out, PC.liftE, ← HVE.out, if_pos hz]
    have e2 : LS = [] := by rw [HLS.out, PC.liftS, ← HLE.out, e1, if_neg hz]
    go_wp2_with fail
    go_ret2
    exact ⟨by rw [e1, e2]; rfl, hbA.out⟩

end Go.Proofs.YtlakfaalpijhiaaDoor
