/- The walk of SimGates. -/
import Derived.Test.YtmnionocehflmaaDoorWalkM6
namespace Go.Proofs.YtmnionocehflmaaDoor
open Go.RowKit Go.Shelf
attribute [local simp] mk_get

theorem tru_zero (c : PC.Circ) (h : PC.Right c) (st i : List UInt8) : PC.tru (PC.vals c st i) 0 = false := by
  have hu := PC.vals_undef c st i 0 (by omega) (fun d hd e => by
    have := (h.defs d hd).1
    unfold PC.varOf at e
    omega)
  unfold PC.tru
  rw [show PC.varOf 0 = 0 from rfl, hu]
  rfl

/-- a literal's opposite -/
def opp (l : Int) : Int := if l % 2 = 0 then l + 1 else l - 1

theorem tru_opp (m : List UInt8) (l : Int) (h : 0 ≤ l) : PC.tru m (opp l) = !PC.tru m l := by
  have hv : PC.varOf (opp l) = PC.varOf l := by unfold opp PC.varOf; split <;> omega
  have hn : PC.negOf (opp l) = !PC.negOf l := by
    unfold opp PC.negOf
    by_cases e : l % 2 = 0
    · rw [if_pos e, decide_eq_true (show 0 < l + 1 by omega), decide_eq_true (show (l + 1) % 2 = 1 by omega), decide_eq_false (show ¬ l % 2 = 1 by omega)]; simp
    · rw [if_neg e, decide_eq_true (show 0 < l by omega), decide_eq_true (show l % 2 = 1 by omega), decide_eq_false (show ¬ (l - 1) % 2 = 1 by omega)]; simp
  unfold PC.tru
  rw [hv, hn]
  cases (m[PC.varOf l]? == some 49) <;> cases PC.negOf l <;> rfl

theorem nat_xor_one (a : Nat) : a ^^^ 1 = if a % 2 = 0 then a + 1 else a - 1 := by
  have h1 : (a ^^^ 1) / 2 = a / 2 := by rw [Nat.xor_div_two]; simp
  have h2 : (a ^^^ 1) % 2 = (a + 1) % 2 := by
    have h := Nat.testBit_xor a 1 0
    rw [Nat.testBit_zero, Nat.testBit_zero, Nat.testBit_zero] at h
    have e : decide ((1:Nat) % 2 = 1) = true := rfl
    rw [e] at h
    rcases (by omega : a % 2 = 0 ∨ a % 2 = 1) with h1 | h1
    · rw [h1] at h
      have : (a ^^^ 1) % 2 = 1 := by simpa using h
      omega
    · rw [h1] at h
      have : ¬ (a ^^^ 1) % 2 = 1 := by simpa using h
      omega
  generalize a ^^^ 1 = x at *
  split <;> omega

theorem xor_one_i64 (E : Int) (h0 : 0 ≤ E) (h1 : E ≤ 9223372036854775807) : bits BinOp.xor IntKind.i64 E 1 = opp E := by
  obtain ⟨a, rfl⟩ : ∃ a : Nat, E = (a : Int) := ⟨E.toNat, by omega⟩
  have h1' : (BitVec.ofInt 64 (a : Int)).toNat = a := by
    rw [BitVec.ofInt_natCast, BitVec.toNat_ofNat]; exact Nat.mod_eq_of_lt (by omega)
  have h2 : (BitVec.ofInt 64 ((1 : Nat) : Int)).toNat = 1 := by
    rw [BitVec.ofInt_natCast, BitVec.toNat_ofNat]
  show IntKind.i64.wrap ((BitVec.ofInt 64 (a : Int) ^^^ BitVec.ofInt 64 ((1 : Nat) : Int)).toNat : Int) = _
  rw [BitVec.toNat_xor, h1', h2, nat_xor_one]
  have e : (((if a % 2 = 0 then a + 1 else a - 1 : Nat)) : Int) = opp (a : Int) := by unfold opp; split <;> split <;> omega
  rw [e]
  exact IntWalk.i64_in _ (by unfold opp; split <;> omega)

theorem opp_rng (l : Int) (h0 : 0 ≤ l) (h1 : l ≤ 9223372036854775807) : rng (opp l) := by unfold opp rng; split <;> omega

set_option maxRecDepth 100000 in
set_option maxHeartbeats 8000000 in
theorem gates_walk (c : PC.Circ) (vc : Value) (st inp : List UInt8) (l : Int) (w : World) (h : IsCirc w vc c) (hs : st.length ≤ 9223372036854775807) (hi : inp.length ≤ 9223372036854775807) (hl : rng l) :
    Calls Tryd.prog 3 #[vc, .string ⟨st.toArray⟩, .string ⟨inp.toArray⟩, .int .i64 l] w fun e w' => e = .returned (.bool true) ∧ Below w.heap.size w w' := by
  have hVal := Lib.hid fun w1 (hb : Below w.heap.size w w1) => simValues_any c vc st inp w1 (h.mono hb) hs hi
  obtain ⟨vi, vl, vo, vb, vv, va, vn, rfl, hp, hm⟩ := h
  obtain ⟨aa, capa, rfl, ha1, ha2, ha3⟩ := hp.ands.open_
  clear hp
  have HG := Lib.hid ha3
  clear ha3
  have hb0 : Below w.heap.size w (w.alloc (.cells #[.int .i64 c.max, vi, vl, vo, vb, vv, .slice aa c.ands.length capa, vn] 27)) := (Below.refl _ _).alloc (Nat.le_refl _) _
  have hbx0 := Lib.hid (Box8.new w (.int .i64 c.max) vi vl vo vb vv (.slice aa c.ands.length capa) vn 27)
  obtain ⟨VE, hVE⟩ : ∃ x, x = PC.valuesE c st inp := ⟨_, rfl⟩
  obtain ⟨VS, hVS⟩ : ∃ x, x = PC.valuesS c st inp := ⟨_, rfl⟩
  rw [← hVE, ← hVS] at hVal
  have HVE := Lib.hid hVE
  have HVS := Lib.hid hVS
  clear hVE hVS
  go_enter Tryd.func3, Tryd.ntmps3
  go_wp2_with fail
  refine (alive07_any _).mono ?_
  rintro e w1 ⟨rfl, hb1⟩
  have hb01 := Below.of hb0 hb1
  have hbx1 := Lib.hid (hbx0.out.mono hb1)
  obtain ⟨q0, q1, q2, q3, q4, q5, q6, q7⟩ := hbx1.out
  clear hb0 hb1 hbx0
  go_wp2_with fail
  refine (hVal.out _ (by exact hb01)).mono ?_
  rintro e w2 ⟨rfl, hb2⟩
  have hb02 := Lib.hid (Below.of hb01 hb2)
  have hbx2 := Lib.hid (hbx1.out.mono hb2)
  clear hb01 hb2 hbx1 hVal q0 q1 q2 q3 q4 q5 q6 q7
  by_cases hz : VE = 0
  · have hc := PC.chk_of_valuesE c st inp (HVE.out.symm.trans hz)
    have hR := Lib.hid (PC.right_of c hc.1)
    have hVS0 : Hid (VS = PC.vals c st inp) := by show _ = _; rw [HVS.out, PC.valuesS, ← HVE.out, hz]; rfl
    have hVb : Hid (∀ b ∈ VS, b = 48 ∨ b = 49) := by
      rw [hVS0.out]
      exact PC.vals_bits c st inp (PC.bitsOk_mem hc.2.1).1 (PC.bitsOk_mem hc.2.2).1
    have hVl0 : VS.length = c.max.toNat + 1 := by rw [hVS0.out, PC.vals_length]
    have hVl : VS.length ≤ 9223372036854775807 := by have := hR.out.max1; omega
    have hVz : (VS.length : Int) = c.max + 1 := by have := hR.out.max0; omega
    have hT : Hid (∀ x w1, rng x → _) := fun x w1 hr => simTrue_any VS x w1 hVb.out hr hVl
    clear hc
    subst hz
    go_wp2_with (go_at_call 11; refine (num07_any _ _).mono ?_; rintro e w3 ⟨rfl, rfl⟩)
    have HVz := Lib.hid hVz
    clear hVl0 hVz
    go_loopg [11, 12] c.ands.length (fun gg s11 s12 wr => ∃ k : Nat, k ≤ c.ands.length ∧ c.ands.length - k ≤ gg ∧ s11 = .int .i64 k ∧ Below w2.heap.size w2 wr)
    case atStart => exact ⟨0, Nat.zero_le _, by omega, rfl, Below.refl _ _⟩
    case round =>
      obtain ⟨k, hk, hg, rfl, hbr⟩ := hrel
      have hbxr := Lib.hid (hbx2.out.mono hbr)
      by_cases hlt : k < c.ands.length
      · have hmea : ∀ g : Nat, c.ands.length - k ≤ g → c.ands.length - (k + 1) < g := fun g h => by omega
        obtain ⟨b, off, rfl, hbs', ⟨hxr, hyr, hzr⟩, c0, c1, c2⟩ := HG.out k hlt
        have hbwr := Below.of hb02.out hbr
        have c0 := (hbwr.cell hbs').trans c0
        have c1 := (hbwr.cell hbs').trans c1
        have c2 := (hbwr.cell hbs').trans c2
        have hga := PC.vals_gate c hR.out st inp _ (List.getElem_mem hlt)
        rw [← hVS0.out] at hga
        generalize hx : c.ands[k] = x at *
        clear hx
        obtain ⟨x, xl, xr⟩ := x
        simp only at hxr hyr hzr c0 c1 c2 hga
        have hltz : (k : Int) < (c.ands.length : Int) := by omega
        have hn0 : (wr.alloc (.cells #[.int .i64 x, .int .i64 xl, .int .i64 xr] 34)).cell? ⟨wr.heap.size, 0, none⟩ = some (.int .i64 x) := by rw [World.cell?_alloc_mark]; rfl
        have hn1 : (wr.alloc (.cells #[.int .i64 x, .int .i64 xl, .int .i64 xr] 34)).cell? ⟨wr.heap.size, 1, none⟩ = some (.int .i64 xl) := by rw [World.cell?_alloc_mark]; rfl
        have hn2 : (wr.alloc (.cells #[.int .i64 x, .int .i64 xl, .int .i64 xr] 34)).cell? ⟨wr.heap.size, 2, none⟩ = some (.int .i64 xr) := by rw [World.cell?_alloc_mark]; rfl
        have hbW := Lib.hid (hbr.alloc hbr.size (.cells #[.int .i64 x, .int .i64 xl, .int .i64 xr] 34))
        obtain ⟨W, hW⟩ : ∃ W, W = wr.alloc (.cells #[.int .i64 x, .int .i64 xl, .int .i64 xr] 34) := ⟨_, rfl⟩
        rw [← hW] at hn0 hn1 hn2 hbW
        have HW := Lib.hid hW
        clear hW
        have hn0 : ∀ y : Later W, y.at_.cell? ⟨wr.heap.size, 0, none⟩ = some (.int .i64 x) := fun y => y.cell hn0
        have hn1 : ∀ y : Later W, y.at_.cell? ⟨wr.heap.size, 1, none⟩ = some (.int .i64 xl) := fun y => y.cell hn1
        have hn2 : ∀ y : Later W, y.at_.cell? ⟨wr.heap.size, 2, none⟩ = some (.int .i64 xr) := fun y => y.cell hn2
        have hA : ∀ y : Later W, _ := fun y => hT.out x y.at_ hxr
        have hL : ∀ y : Later W, _ := fun y => hT.out xl y.at_ hyr
        have hR3 : ∀ y : Later W, _ := fun y => hT.out xr y.at_ hzr
        rw [hga] at hA
        clear hga
        obtain ⟨q0, q1, q2, q3, q4, q5, q6, q7⟩ := hbxr.out
        cases dl : PC.tru VS xl with
        | true =>
          rw [dl] at hA hL
          cases dr : PC.tru VS xr with
          | true =>
            rw [dr] at hA hR3
            clear dl dr
            go_wp2_with fail
            rw [← HW.out]
            refine wp_region_later (by kernel_rfl) (by kernel_rfl) ?_; (repeat (go_big_quiet_step ((first | (go_at_call 12; with_reducible exact Calls.later (hA _)) | (go_at_call 12; with_reducible exact Calls.later (hL _)) | (go_at_call 12; with_reducible exact Calls.later (hR3 _)))))); refine wpQuiet_nil ?_; rintro w3 ⟨⟨_, hb3⟩, rfl⟩
            go_wp2_with fail
            go_roundg (c.ands.length - (k + 1))
            case measure => exact hmea _ hg
            case rel => exact ⟨k + 1, by omega, by omega, by go_num, Below.of hbW.out hb3⟩
          | false =>
            rw [dr] at hA hR3
            clear dl dr
            go_wp2_with fail
            rw [← HW.out]
            refine wp_region_later (by kernel_rfl) (by kernel_rfl) ?_; (repeat (go_big_quiet_step ((first | (go_at_call 12; with_reducible exact Calls.later (hA _)) | (go_at_call 12; with_reducible exact Calls.later (hL _)) | (go_at_call 12; with_reducible exact Calls.later (hR3 _)))))); refine wpQuiet_nil ?_; rintro w3 ⟨⟨_, hb3⟩, rfl⟩
            go_wp2_with fail
            go_roundg (c.ands.length - (k + 1))
            case measure => exact hmea _ hg
            case rel => exact ⟨k + 1, by omega, by omega, by go_num, Below.of hbW.out hb3⟩
        | false =>
          rw [dl] at hA hL
          clear dl
          rw [Bool.false_and] at hA
          go_wp2_with fail
          rw [← HW.out]
          refine wp_region_later (by kernel_rfl) (by kernel_rfl) ?_; (repeat (go_big_quiet_step ((first | (go_at_call 12; with_reducible exact Calls.later (hA _)) | (go_at_call 12; with_reducible exact Calls.later (hL _)) | (go_at_call 12; with_reducible exact Calls.later (hR3 _)))))); refine wpQuiet_nil ?_; rintro w3 ⟨⟨_, hb3⟩, rfl⟩
          go_wp2_with fail
          go_roundg (c.ands.length - (k + 1))
          case measure => exact hmea _ hg
          case rel => exact ⟨k + 1, by omega, by omega, by go_num, Below.of hbW.out hb3⟩
      · have hltz : ¬ (k : Int) < (c.ands.length : Int) := by omega
        obtain rfl : k = c.ands.length := by omega
        obtain ⟨q0, q1, q2, q3, q4, q5, q6, q7⟩ := hbxr.out
        have ht0 := tru_zero c hR.out st inp
        rw [← hVS0.out] at ht0
        have h0 : Hid (∀ w1, _) := fun w1 => hT.out 0 w1 (by unfold rng; omega)
        rw [ht0] at h0
        clear ht0 hg hk hlt
        have HMz : Hid (0 ≤ c.max ∧ c.max ≤ 2048) := ⟨hR.out.max0, hR.out.max1⟩
        obtain ⟨hl0, hl1⟩ := hl
        by_cases hneg : l < 0
        · have hxo : bits BinOp.xor IntKind.i64 0 1 = opp 0 := by decide
          have hTl : Hid (∀ w1, _) := fun w1 => hT.out 0 w1 (by unfold rng; omega)
          have hTo : Hid (∀ w1, _) := fun w1 => hT.out (opp (0 : Int)) w1 (opp_rng _ (by omega) (by omega))
          rw [tru_opp _ _ (by omega)] at hTo
          cases dl : PC.tru VS (0 : Int) with
          | true =>
            rw [dl] at hTo hTl
            clear dl
            go_wp2_with fail
            refine (h0.out _).mono ?_
            rintro e w3 ⟨rfl, hb3⟩
            go_wp2_with fail
            refine (hTl.out _).mono ?_
            rintro e w4 ⟨rfl, hb4⟩
            go_wp2_with fail
            refine (hTo.out _).mono ?_
            rintro e w5 ⟨rfl, hb5⟩
            have hb := Below.of (Below.of (Below.of hbr hb3) hb4) hb5
            obtain ⟨q0, q1, q2, q3, q4, q5, q6, q7⟩ := hbx2.out.mono hb
            have hVz := HVz.out
            have hmz := HMz.out
            go_wp2_with fail
            go_ret
            exact ⟨by simp, Below.of hb02.out hb⟩
          | false =>
            rw [dl] at hTo hTl
            clear dl
            go_wp2_with fail
            refine (h0.out _).mono ?_
            rintro e w3 ⟨rfl, hb3⟩
            go_wp2_with fail
            refine (hTl.out _).mono ?_
            rintro e w4 ⟨rfl, hb4⟩
            go_wp2_with fail
            refine (hTo.out _).mono ?_
            rintro e w5 ⟨rfl, hb5⟩
            have hb := Below.of (Below.of (Below.of hbr hb3) hb4) hb5
            obtain ⟨q0, q1, q2, q3, q4, q5, q6, q7⟩ := hbx2.out.mono hb
            have hVz := HVz.out
            have hmz := HMz.out
            go_wp2_with fail
            go_ret
            exact ⟨by simp, Below.of hb02.out hb⟩
        · have hneg' : decide (l < 0) = false := decide_eq_false hneg
          have hxo := xor_one_i64 l (by omega) hl1
          have hTl : Hid (∀ w1, _) := fun w1 => hT.out l w1 ⟨hl0, hl1⟩
          have hTo : Hid (∀ w1, _) := fun w1 => hT.out (opp l) w1 (opp_rng _ (by omega) (by omega))
          rw [tru_opp _ _ (by omega)] at hTo
          cases dl : PC.tru VS l with
          | true =>
            rw [dl] at hTo hTl
            clear dl
            go_wp2_with fail
            refine (h0.out _).mono ?_
            rintro e w3 ⟨rfl, hb3⟩
            go_wp2_with fail
            refine (hTl.out _).mono ?_
            rintro e w4 ⟨rfl, hb4⟩
            go_wp2_with fail
            refine (hTo.out _).mono ?_
            rintro e w5 ⟨rfl, hb5⟩
            have hb := Below.of (Below.of (Below.of hbr hb3) hb4) hb5
            obtain ⟨q0, q1, q2, q3, q4, q5, q6, q7⟩ := hbx2.out.mono hb
            have hVz := HVz.out
            have hmz := HMz.out
            go_wp2_with fail
            go_ret
            exact ⟨by simp, Below.of hb02.out hb⟩
          | false =>
            rw [dl] at hTo hTl
            clear dl
            go_wp2_with fail
            refine (h0.out _).mono ?_
            rintro e w3 ⟨rfl, hb3⟩
            go_wp2_with fail
            refine (hTl.out _).mono ?_
            rintro e w4 ⟨rfl, hb4⟩
            go_wp2_with fail
            refine (hTo.out _).mono ?_
            rintro e w5 ⟨rfl, hb5⟩
            have hb := Below.of (Below.of (Below.of hbr hb3) hb4) hb5
            obtain ⟨q0, q1, q2, q3, q4, q5, q6, q7⟩ := hbx2.out.mono hb
            have hVz := HVz.out
            have hmz := HMz.out
            go_wp2_with fail
            go_ret
            exact ⟨by simp, Below.of hb02.out hb⟩
  · have e2 : VS = [] := by rw [HVS.out, PC.valuesS, ← HVE.out, if_neg hz]
    have hz1 : (VE == 0) = false := by simpa using hz
    have hz2 : (VE != 0) = true := by simpa using hz
    subst e2
    go_wp2_with (go_at_call 11; refine (num07_any _ _).mono ?_; rintro e w3 ⟨rfl, rfl⟩)
    go_ret
    exact ⟨rfl, hb02.out⟩

end Go.Proofs.YtmnionocehflmaaDoor
