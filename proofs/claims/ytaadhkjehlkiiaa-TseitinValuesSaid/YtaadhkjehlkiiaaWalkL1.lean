/- The walk of TseitinForce. -/
import Derived.Test.YtaadhkjehlkiiaaWalkT3
import Derived.Test.YtaadhkjehlkiiaaWalkV4
namespace Go.Proofs.Ytaadhkjehlkiiaa
open Go.RowKit Go.Shelf

theorem alive12_any (w : World) : Calls Try.prog 11 #[] w fun e w' => e = .returned (.bool true) ∧ w = w' := by
  have hL := fun w => tLit_any 10 5 w (by decide) (by decide) (by unfold rng; omega)
  have e : PC.litT 10 5 = -13 := by decide
  rw [e] at hL
  go_enter Try.func11, Try.ntmps11
  go_wp2_with (go_at_call 40; refine (hL _).mono ?_; rintro e w1 ⟨rfl, rfl⟩)
  go_ret
  exact ⟨rfl, rfl⟩

theorem num12_any (n : Int) (w : World) : Calls Try.prog 14 #[.int .i64 n] w fun e w' => e = .returned (.int .i64 n) ∧ w = w' := by
  go_enter Try.func14, Try.ntmps14
  go_wp2
  go_ret
  exact ⟨rfl, rfl⟩

theorem tdiv2 (x : Int) (h0 : 0 ≤ x) (h1 : x ≤ 9223372036854775807) : wrap64 (x.tdiv 2) = x / 2 ∧ IntKind.i64.wrap (x.tdiv 2) = x / 2 := by
  have e : x.tdiv 2 = x / 2 := Int.tdiv_eq_ediv_of_nonneg h0
  rw [e]
  exact ⟨by unfold wrap64; omega, IntWalk.i64_in _ (by omega)⟩

/-- are all literals of a circuit's? -/
def InMax (c : PC.Circ) (assume : List (List Int)) : Prop := ∀ a ∈ assume, ∀ l ∈ a, 0 ≤ l ∧ l / 2 ≤ c.max

set_option maxRecDepth 100000 in
set_option maxHeartbeats 8000000 in
theorem force_walk (c : PC.Circ) (vc va : Value) (assume : List (List Int)) (st inp : List UInt8) (w : World) (h : IsCirc w vc c) (hA : Lists w va assume) (hf : Fits c) (hF : FitsL assume)
    (hs : st.length ≤ 9223372036854775806) (hi : inp.length ≤ 9223372036854775806) :
    Calls Try.prog 3 #[vc, va, .string ⟨st.toArray⟩, .string ⟨inp.toArray⟩] w fun e w' => e = .returned (.bool true) ∧ Below w.heap.size w w' := by
  have hVal := fun w1 (hb : Below w.heap.size w w1) => rValues_any c vc st inp w1 (h.mono hb) hf hs hi
  have hForB := fun w1 (hb : Below w.heap.size w w1) (hE : rightE c 0 ≠ 0) => tForce_bad c vc va assume 0 w1 (h.mono hb) hE
  have hForG := fun w1 (hb : Below w.heap.size w w1) (hE : rightE c 0 = 0) => tForce_good c vc va assume 0 w1 (h.mono hb) (hA.mono hb) hF hE
  have hAl := fun m w1 (hb : Below w.heap.size w w1) (hm : m.length ≤ 9223372036854775807) => rAllowed_any c vc va assume m w1 (h.mono hb) (hA.mono hb) hm
  have hVal := Lib.hid hVal
  have hForB := Lib.hid hForB
  have hForG := Lib.hid hForG
  have hAl := Lib.hid hAl
  obtain ⟨vi, vl, vo, vb, vv, va', vn, rfl, hp, hmx⟩ := h
  obtain ⟨asm, caps, rfl, hs1, hs2, hs3⟩ := hA.open_
  clear hp hA
  have HS := Lib.hid hs3
  clear hs3
  have hb1 : Below w.heap.size w (w.alloc (.cells #[.int .i64 c.max, vi, vl, vo, vb, vv, va', vn] 27)) := (Below.refl _ _).alloc (Nat.le_refl _) _
  have hbx := Box8.new w (.int .i64 c.max) vi vl vo vb vv va' vn 27
  go_enter Try.func3, Try.ntmps3
  go_wp2_with (go_at_call 11; refine (alive12_any _).mono ?_; rintro e w2 ⟨rfl, rfl⟩)
  obtain ⟨w1, hw1⟩ : ∃ w1, w1 = w.alloc (.cells #[.int .i64 c.max, vi, vl, vo, vb, vv, va', vn] 27) := ⟨_, rfl⟩
  rw [← hw1] at hb1 hbx ⊢
  clear hw1
  have hbx := Lib.hid hbx
  have hb1H := Lib.hid hb1
  clear hb1
  go_loopg [9] assume.length (fun gg s9 wr => ∃ k : Nat, k ≤ assume.length ∧ assume.length - k ≤ gg ∧ s9 = .int .i64 k ∧ Below w1.heap.size w1 wr ∧ Aside (∀ j (hj : j < k) (h : j < assume.length), ∀ l ∈ assume[j], 0 ≤ l ∧ l / 2 ≤ c.max))
  case atStart => exact ⟨0, Nat.zero_le _, by omega, rfl, Below.refl _ _, fun j hj => absurd hj (Nat.not_lt_zero _)⟩
  case round =>
    obtain ⟨k, hk, hg, rfl, hbr, A⟩ := hrel
    by_cases hlt : k < assume.length
    · obtain ⟨b', off, u, rfl, hbs, hc, hiu⟩ := HS.out k hlt
      have hmea : ∀ g : Nat, assume.length - k ≤ g → assume.length - (k + 1) < g := fun g h => by omega
      have hbw := Lib.hid (Below.of hb1H.out hbr)
      have hcH := Lib.hid hc
      have hc := (hbw.out.cell hbs).trans hc
      obtain ⟨ao, cap, rfl, hu1, hu2, hu3⟩ := hiu.open_
      have HU := Lib.hid hu3
      clear hu3 hiu
      generalize hy : assume[k] = y at *
      have Y := Lib.hid hy
      clear hy
      have hltz : (k : Int) < (assume.length : Int) := by omega
      obtain ⟨W0, hW0⟩ : ∃ W0, W0 = wr := ⟨_, rfl⟩
      subst hW0
      go_wp2_with fail
      go_loopg [10] y.length (fun gg s10 wr => ∃ j : Nat, j ≤ y.length ∧ y.length - j ≤ gg ∧ s10 = .int .i64 j ∧ Below W0.heap.size W0 wr ∧ Aside (∀ i (hi : i < j) (h : i < y.length), 0 ≤ y[i] ∧ y[i] / 2 ≤ c.max))
      case atStart => exact ⟨0, Nat.zero_le _, by omega, rfl, Below.refl _ _, fun j hj => absurd hj (Nat.not_lt_zero _)⟩
      case round =>
        clear hc
        obtain ⟨j, hj, hgj, rfl, hbj, AJ⟩ := hrel
        have hbwj := Lib.hid (Below.of hbw.out hbj)
        have hc := (hbwj.out.cell hbs).trans hcH.out
        by_cases hltj : j < y.length
        · obtain ⟨b2, off2, rfl, hbs2, hxr, hx0⟩ := HU.out j hltj
          have hmej : ∀ g : Nat, y.length - j ≤ g → y.length - (j + 1) < g := fun g h => by omega
          have hx0 : ∀ x1 : Later wr, x1.at_.cell? ⟨b2, off2 + j, none⟩ = some (.int .i64 y[j]) := fun x1 => x1.cell ((hbwj.out.cell hbs2).trans hx0)
          generalize hz : y[j] = x at *
          have Z := Lib.hid hz
          clear hz
          have hltjz : (j : Int) < (y.length : Int) := by omega
          go_wp2_with fail
          have hc : ∀ x1 : Later wr, _ := fun x1 => x1.cell hc
          obtain ⟨q0, q1, q2, q3, q4, q5, q6, q7⟩ := (hbx.out.mono (Below.of hbr hbj)).later
          by_cases hx1 : x < 0
          · refine wp_region_later (by kernel_rfl) (by kernel_rfl) ?_; (repeat (go_big_quiet_step (fail))); refine wpQuiet_nil ?_; rintro w3 ⟨⟨_, hb3⟩, rfl⟩
            go_wp2
            go_ret
            exact ⟨rfl, Below.of hbwj.out hb3⟩
          · have hd := tdiv2 x (by omega) hxr.2
            obtain ⟨d, hdd⟩ : ∃ d, d = x / 2 := ⟨_, rfl⟩
            rw [← hdd] at hd
            obtain ⟨hd1, hd2⟩ := hd
            have HDD := Lib.hid hdd
            clear hdd
            by_cases hx2 : c.max < d
            · refine wp_region_later (by kernel_rfl) (by kernel_rfl) ?_; (repeat (go_big_quiet_step (fail))); refine wpQuiet_nil ?_; rintro w3 ⟨⟨_, hb3⟩, rfl⟩
              go_wp2
              go_ret
              exact ⟨rfl, Below.of hbwj.out hb3⟩
            · have hxx := Lib.hid (show 0 ≤ x ∧ d ≤ c.max by omega)
              refine wp_region_later (by kernel_rfl) (by kernel_rfl) ?_; (repeat (go_big_quiet_step (fail))); refine wpQuiet_nil ?_; rintro w3 ⟨⟨_, hb3⟩, rfl⟩
              go_wp2
              go_roundg (y.length - (j + 1))
              case measure => exact hmej _ hgj
              case rel =>
                refine ⟨j + 1, by omega, by omega, by go_num, Below.of hbj hb3, (show Aside _ from fun i hi h => ?_)⟩
                by_cases e : i = j
                · subst e; rw [Z.out, ← HDD.out]; exact hxx.out
                · exact AJ.out i (by omega) h
        · have hltjz : ¬ (j : Int) < (y.length : Int) := by omega
          obtain rfl : j = y.length := by omega
          have S0 : Hid (∀ l ∈ y, 0 ≤ l ∧ l / 2 ≤ c.max) := fun l hl => by
            obtain ⟨i, hi, rfl⟩ := List.getElem_of_mem hl
            exact AJ.out i hi hi
          go_wp2_with fail
          go_roundg (assume.length - (k + 1))
          case measure => exact hmea _ hg
          case rel =>
            refine ⟨k + 1, by omega, by omega, by go_num, Below.of hbr hbj, (show Aside _ from fun j hj h => ?_)⟩
            by_cases e : j = k
            · subst e; rw [Y.out]; exact S0.out
            · exact A.out j (by omega) h
    · have hltz : ¬ (k : Int) < (assume.length : Int) := by omega
      obtain rfl : k = assume.length := by omega
      have SM : Hid (InMax c assume) := fun a ha => by
        obtain ⟨i, hi, rfl⟩ := List.getElem_of_mem ha
        exact A.out i hi hi
      clear A HS
      have hbw := Lib.hid (Below.of hb1H.out hbr)
      obtain ⟨q0, q1, q2, q3, q4, q5, q6, q7⟩ := hbx.out.mono hbr
      obtain ⟨VE, hVE⟩ : ∃ x, x = PC.valuesE c st inp := ⟨_, rfl⟩
      obtain ⟨VS, hVS⟩ : ∃ x, x = PC.valuesS c st inp := ⟨_, rfl⟩
      rw [← hVE, ← hVS] at hVal
      have HVE := Lib.hid hVE
      have HVS := Lib.hid hVS
      clear hVE hVS
      cases hck : PC.chk c with
      | false =>
        have hE : rightE c 0 = 9 := by unfold rightE; rw [if_pos hck]
        have hV9 : VE = 9 := by rw [HVE.out, PC.valuesE, if_pos hck]
        subst hV9
        have hFb : Hid (∀ w1, Below w.heap.size w w1 → _) := fun w1 hb => hForB.out w1 hb (by rw [hE]; decide)
        rw [hE] at hFb
        clear hck hE HVE
        go_wp2_with (first | (go_at_call 12; refine (hVal.out _ (by exact hbw.out)).mono ?_; rintro e w3 ⟨rfl, hb3⟩; have hbw3 := Below.of hbw.out hb3; clear q0 q1 q2 q3 q4 q5 q6 q7; obtain ⟨q0, q1, q2, q3, q4, q5, q6, q7⟩ := (hbx.out.mono hbr).mono hb3) | (go_at_call 13; refine (hFb.out _ (by exact hbw3)).mono ?_; rintro e w4 ⟨rfl, hb4⟩) | (go_at_call 14; refine (num12_any _ _).mono ?_; rintro e w5 ⟨rfl, rfl⟩))
        go_ret
        exact ⟨rfl, Below.of hbw3 hb4⟩
      | true =>
        have hE : rightE c 0 = 0 := by unfold rightE; rw [if_neg (by rw [hck]; decide), if_neg (by omega)]
        have hFg : Hid (∀ w1, Below w.heap.size w w1 → _) := fun w1 hb => hForG.out w1 hb hE
        have HRt := Lib.hid (PC.right_of c hck)
        have HCK := Lib.hid hck
        clear hE hck
        by_cases hbits : PC.bitsOk st c.latches.length = false ∨ PC.bitsOk inp c.inputs.length = false
        · have hV5 : VE = 5 := by rw [HVE.out, PC.valuesE, if_neg (by rw [HCK.out]; decide), if_pos hbits]
          subst hV5
          clear hbits HVE
          go_wp2_with (first | (go_at_call 12; refine (hVal.out _ (by exact hbw.out)).mono ?_; rintro e w3 ⟨rfl, hb3⟩; have hbw3 := Below.of hbw.out hb3; clear q0 q1 q2 q3 q4 q5 q6 q7; obtain ⟨q0, q1, q2, q3, q4, q5, q6, q7⟩ := (hbx.out.mono hbr).mono hb3) | (go_at_call 13; refine (hFg.out _ (by exact hbw3)).mono ?_; rintro e w4 ⟨u, rfl, hu, hb4⟩) | (go_at_call 14; refine (num12_any _ _).mono ?_; rintro e w5 ⟨rfl, rfl⟩))
          go_ret
          exact ⟨rfl, Below.of hbw3 hb4⟩
        · have hV0 : VE = 0 := by rw [HVE.out, PC.valuesE, if_neg (by rw [HCK.out]; decide), if_neg hbits]
          have hVS0 : Hid (VS = PC.vals c st inp) := by show _ = _; rw [HVS.out, PC.valuesS, ← HVE.out, hV0]; rfl
          subst hV0
          clear hbits HVE
          have hVl : VS.length = c.max.toNat + 1 := by rw [hVS0.out]; exact PC.vals_length c st inp
          have hVl2 : VS.length ≤ 9223372036854775807 := by have := HRt.out.max1; omega
          have hlaw := Lib.hid (PC.force_law c HRt.out assume SM.out VS hVl)
          clear hVl
          go_wp2_with (first | (go_at_call 12; refine (hVal.out _ (by exact hbw.out)).mono ?_; rintro e w3 ⟨rfl, hb3⟩; have hbw3 := Below.of hbw.out hb3; clear q0 q1 q2 q3 q4 q5 q6 q7; obtain ⟨q0, q1, q2, q3, q4, q5, q6, q7⟩ := (hbx.out.mono hbr).mono hb3) | (go_at_call 13; refine (hFg.out _ (by exact hbw3)).mono ?_; rintro e w4 ⟨u, rfl, hu, hb4⟩) | (go_at_call 14; refine (num12_any _ _).mono ?_; rintro e w5 ⟨rfl, rfl⟩))
          obtain ⟨W1, hW1⟩ : ∃ W1, W1 = wr := ⟨_, rfl⟩
          subst hW1
          have hbw4 := Lib.hid (Below.of hbw3 hb4)
          have hbx4 := Lib.hid (((hbx.out.mono hbr).mono hb3).mono hb4)
          obtain ⟨L, hL⟩ : ∃ L, L = PC.force c assume 0 := ⟨_, rfl⟩
          rw [← hL] at hlaw hu
          obtain ⟨ao, cap, rfl, hu1, hu2, hu3⟩ := hu.lists.open_
          have HU := Lib.hid hu3
          have HL := Lib.hid hL
          clear hu3 hL hu q0 q1 q2 q3 q4 q5 q6 q7
          obtain ⟨f, hf⟩ : ∃ f : Nat → Bool, ∀ j, f j = (L.take j).all (PC.one VS) := ⟨_, fun _ => rfl⟩
          have hf0 : Hid (f 0 = true) := by show _ = _; rw [hf]; rfl
          have hfs : Hid (∀ j (h : j < L.length), f (j + 1) = (f j && PC.one VS L[j])) := fun j h => by
            rw [hf, hf, List.take_succ_eq_append_getElem h, List.all_append]; simp
          have hfe : Hid (f L.length = L.all (PC.one VS)) := by show _ = _; rw [hf, List.take_length]
          clear hf
          go_loopg [15, 16] L.length (fun gg sa sk wr => ∃ k : Nat, k ≤ L.length ∧ L.length - k ≤ gg ∧ sa = .bool (f k) ∧ sk = .int .i64 k ∧ w4 = wr)
          case atStart => exact ⟨0, Nat.zero_le _, by omega, by rw [hf0.out], rfl, rfl⟩
          case round =>
            obtain ⟨k, hk, hg, rfl, rfl, rfl⟩ := hrel
            by_cases hlt : k < L.length
            · obtain ⟨b', off, u, rfl, hbs, hc, hiu⟩ := HU.out k hlt
              have hmea : ∀ g : Nat, L.length - k ≤ g → L.length - (k + 1) < g := fun g h => by omega
              have hst := hfs.out k hlt
              generalize hy : L[k] = y at *
              clear hy
              have hltz : (k : Int) < (L.length : Int) := by omega
              have hO := Lib.hid (rOne_any VS y u w4 hiu hVl2)
              cases hfk : f k with
              | true =>
                rw [hfk, Bool.true_and] at hst
                have hst := Lib.hid hst
                clear hfk
                go_wp2_with (go_at_call 15; refine hO.out.mono ?_; rintro e w5 ⟨rfl, rfl⟩)
                go_roundg (L.length - (k + 1))
                case measure => exact hmea _ hg
                case rel => exact ⟨k + 1, by omega, by omega, by rw [hst.out], by go_num, rfl⟩
              | false =>
                rw [hfk, Bool.false_and] at hst
                have hst := Lib.hid hst
                clear hfk
                go_wp2_with fail
                go_roundg (L.length - (k + 1))
                case measure => exact hmea _ hg
                case rel => exact ⟨k + 1, by omega, by omega, by rw [hst.out], by go_num, rfl⟩
            · have hltz : ¬ (k : Int) < (L.length : Int) := by omega
              obtain rfl : k = L.length := by omega
              obtain ⟨q0, q1, q2, q3, q4, q5, q6, q7⟩ := hbx4.out
              have hAlw := hAl.out VS w4 hbw4.out hVl2
              rw [← hlaw.out, ← hfe.out] at hAlw
              have hAlw := Lib.hid hAlw
              generalize hfk : f L.length = bb at *
              go_wp2_with (go_at_call 16; refine hAlw.out.mono ?_; rintro e w6 ⟨rfl, hb6⟩)
              go_ret
              exact ⟨by cases bb <;> rfl, Below.of hbw4.out hb6⟩

end Go.Proofs.Ytaadhkjehlkiiaa
