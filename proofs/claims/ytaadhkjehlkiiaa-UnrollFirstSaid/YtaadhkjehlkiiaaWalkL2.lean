/- The walk of UnrollFirst. -/
import Derived.Test.YtaadhkjehlkiiaaWalkU3
import Derived.Test.YtaadhkjehlkiiaaWalkV4
namespace Go.Proofs.Ytaadhkjehlkiiaa
open Go.RowKit Go.Shelf

set_option maxRecDepth 100000 in
set_option maxHeartbeats 8000000 in
theorem first_walk (c : PC.Circ) (vc : Value) (st inp : List UInt8) (w : World) (h : IsCirc w vc c) (hf : Fits c) (hs : st.length ≤ 9223372036854775806) (hi : inp.length ≤ 9223372036854775806) :
    Calls Try.prog 5 #[vc, .string ⟨st.toArray⟩, .string ⟨inp.toArray⟩] w fun e w' => e = .returned (.bool true) ∧ Below w.heap.size w w' := by
  have hVal := Lib.hid fun w1 (hb : Below w.heap.size w w1) => rValues_any c vc st inp w1 (h.mono hb) hf hs hi
  have hCk := Lib.hid fun w1 (hb : Below w.heap.size w w1) => rCheck_any c vc w1 (h.mono hb) hf
  have hFb := Lib.hid fun w1 (hb : Below w.heap.size w w1) (hc : PC.chk c = false) => uFirst_bad c vc w1 (h.mono hb) hc
  have hFg := Lib.hid fun w1 (hb : Below w.heap.size w w1) (hc : PC.chk c = true) => uFirst_good c vc w1 (h.mono hb) hc
  have hIn := Lib.hid fun w1 (hb : Below w.heap.size w w1) => rInitial_any c vc st w1 (h.mono hb) (by omega)
  obtain ⟨vi, vl, vo, vb, vv, va, vn, rfl, hp, hmx⟩ := h
  clear hp
  have hb0 : Below w.heap.size w (w.alloc (.cells #[.int .i64 c.max, vi, vl, vo, vb, vv, va, vn] 27)) := (Below.refl _ _).alloc (Nat.le_refl _) _
  have hbx := Lib.hid (Box8.new w (.int .i64 c.max) vi vl vo vb vv va vn 27)
  obtain ⟨VE, hVE⟩ : ∃ x, x = PC.valuesE c st inp := ⟨_, rfl⟩
  obtain ⟨VS, hVS⟩ : ∃ x, x = PC.valuesS c st inp := ⟨_, rfl⟩
  rw [← hVE, ← hVS] at hVal
  have HVE := Lib.hid hVE
  have HVS := Lib.hid hVS
  clear hVE hVS
  go_enter Try.func5, Try.ntmps5
  go_wp2_with (go_at_call 17; refine (alive13_any _).mono ?_; rintro e w1 ⟨rfl, hb1⟩; have hbw1 := Below.of hb0 hb1; have hbx1 := Lib.hid (hbx.out.mono hb1); obtain ⟨q0, q1, q2, q3, q4, q5, q6, q7⟩ := hbx1.out)
  refine (hVal.out _ (by exact hbw1)).mono ?_
  rintro e w3 ⟨rfl, hb3⟩
  have hbw3 := Below.of hbw1 hb3
  have hbx3 := Lib.hid (hbx1.out.mono hb3)
  clear q0 q1 q2 q3 q4 q5 q6 q7
  obtain ⟨q0, q1, q2, q3, q4, q5, q6, q7⟩ := hbx3.out
  cases hck : PC.chk c with
  | false =>
    have hV9 : VE = 9 := by rw [HVE.out, PC.valuesE, if_pos hck]
    subst hV9
    rw [hck] at hCk
    have hF := Lib.hid fun w1 hb => hFb.out w1 hb hck
    clear hck HVE
    go_wp2_with (first | (go_at_call 20; refine (hF.out _ (by exact hbw3)).mono ?_; rintro e w4 ⟨rfl, hb4⟩; have hbw4 := Below.of hbw3 hb4; clear q0 q1 q2 q3 q4 q5 q6 q7; obtain ⟨q0, q1, q2, q3, q4, q5, q6, q7⟩ := hbx3.out.mono hb4) | (go_at_call 18; refine (hCk.out _ (by exact hbw4)).mono ?_; rintro e w5 ⟨rfl, hb5⟩))
    go_ret
    exact ⟨rfl, Below.of hbw4 hb5⟩
  | true =>
    have hF := Lib.hid fun w1 hb => hFg.out w1 hb hck
    have HRt := Lib.hid (PC.right_of c hck)
    have HCK := Lib.hid hck
    rw [hck] at hCk
    clear hck
    by_cases hbits : PC.bitsOk st c.latches.length = false ∨ PC.bitsOk inp c.inputs.length = false
    · have hV5 : VE = 5 := by rw [HVE.out, PC.valuesE, if_neg (by rw [HCK.out]; decide), if_pos hbits]
      subst hV5
      clear hbits HVE
      go_wp2_with (first | (go_at_call 20; refine (hF.out _ (by exact hbw3)).mono ?_; rintro e w4 ⟨u, rfl, hu, hb4⟩; have hbw4 := Below.of hbw3 hb4; clear q0 q1 q2 q3 q4 q5 q6 q7; obtain ⟨q0, q1, q2, q3, q4, q5, q6, q7⟩ := hbx3.out.mono hb4) | (go_at_call 18; refine (hCk.out _ (by exact hbw4)).mono ?_; rintro e w5 ⟨rfl, hb5⟩))
      go_ret
      exact ⟨rfl, Below.of hbw4 hb5⟩
    · have hV0 : VE = 0 := by rw [HVE.out, PC.valuesE, if_neg (by rw [HCK.out]; decide), if_neg hbits]
      have hVS0 : Hid (VS = PC.vals c st inp) := by show _ = _; rw [HVS.out, PC.valuesS, ← HVE.out, hV0]; rfl
      have hbst : PC.bitsOk st c.latches.length = true := by
        cases hq : PC.bitsOk st c.latches.length with
        | true => rfl
        | false => exact absurd (Or.inl hq) hbits
      subst hV0
      clear hbits HVE
      have hVl : VS.length = c.max.toNat + 1 := by rw [hVS0.out]; exact PC.vals_length c st inp
      have hVl2 : VS.length ≤ 9223372036854775807 := by have := HRt.out.max1; omega
      have hlaw := PC.first_law c HRt.out st inp hbst
      rw [← hVS0.out] at hlaw
      have hlaw := Lib.hid hlaw
      clear hVl hbst
      go_wp2_with (go_at_call 20; refine (hF.out _ (by exact hbw3)).mono ?_; rintro e w4 ⟨u, rfl, hu, hb4⟩)
      have hbw4 := Lib.hid (Below.of hbw3 hb4)
      have hbx4 := Lib.hid (hbx3.out.mono hb4)
      obtain ⟨L, hL⟩ : ∃ L, L = PC.firstT c := ⟨_, rfl⟩
      rw [← hL] at hlaw hu
      obtain ⟨ao, cap, rfl, hu1, hu2, hu3⟩ := hu.lists.open_
      have HU := Lib.hid hu3
      have HL := Lib.hid hL
      clear hu3 hL hu q0 q1 q2 q3 q4 q5 q6 q7
      obtain ⟨f, hf⟩ : ∃ f : Nat → Bool, ∀ j, f j = (L.take j).all (PC.one VS) := ⟨_, fun _ => rfl⟩
      have hf0 : Hid (f 0 = true) := by show _ = _; rw [hf]; rfl
      have hfs : Hid (∀ j (h : j < L.length), f (j + 1) = (f j && PC.one VS L[j])) := fun j h => by
        rw [hf, hf, List.take_succ_eq_append_getElem h, List.all_append]; simp
      have hfe : Hid (f L.length = L.all (PC.one VS)) := by show _ = _; rw [hf, List.take_length]
      clear hf
      go_loopg [10, 11] L.length (fun gg sa sk wr => ∃ k : Nat, k ≤ L.length ∧ L.length - k ≤ gg ∧ sa = .bool (f k) ∧ sk = .int .i64 k ∧ w4 = wr)
      case atStart => exact ⟨0, Nat.zero_le _, by omega, by rw [hf0.out], rfl, rfl⟩
      case round =>
        obtain ⟨k, hk, hg, rfl, rfl, rfl⟩ := hrel
        by_cases hlt : k < L.length
        · obtain ⟨b', off, u, rfl, hbs, hc, hiu⟩ := HU.out k hlt
          have hmea : ∀ g : Nat, L.length - k ≤ g → L.length - (k + 1) < g := fun g h => by omega
          have hst := hfs.out k hlt
          generalize hy : L[k] = y at *
          clear hy
          have hltz : (k : Int) < (L.length : Int) := by omega
          have hO := Lib.hid (rOne_any VS y u w4 hiu hVl2)
          cases hfk : f k with
          | true =>
            rw [hfk, Bool.true_and] at hst
            have hst := Lib.hid hst
            clear hfk
            go_wp2_with (go_at_call 15; refine hO.out.mono ?_; rintro e w5 ⟨rfl, rfl⟩)
            go_roundg (L.length - (k + 1))
            case measure => exact hmea _ hg
            case rel => exact ⟨k + 1, by omega, by omega, by rw [hst.out], by go_num, rfl⟩
          | false =>
            rw [hfk, Bool.false_and] at hst
            have hst := Lib.hid hst
            clear hfk
            go_wp2_with fail
            go_roundg (L.length - (k + 1))
            case measure => exact hmea _ hg
            case rel => exact ⟨k + 1, by omega, by omega, by rw [hst.out], by go_num, rfl⟩
        · have hltz : ¬ (k : Int) < (L.length : Int) := by omega
          obtain rfl : k = L.length := by omega
          obtain ⟨q0, q1, q2, q3, q4, q5, q6, q7⟩ := hbx4.out
          have hInw := hIn.out w4 hbw4.out
          rw [← hlaw.out, ← hfe.out] at hInw
          have hInw := Lib.hid hInw
          generalize hfk : f L.length = bb at *
          go_wp2_with (go_at_call 21; refine hInw.out.mono ?_; rintro e w6 ⟨rfl, hb6⟩)
          go_ret
          exact ⟨by cases bb <;> rfl, Below.of hbw4.out hb6⟩

end Go.Proofs.Ytaadhkjehlkiiaa
