/- The walk of UnrollApart. -/
import Derived.Test.YtaadhkjehlkiiaaWalkU4
import Derived.Test.YtaadhkjehlkiiaaWalkV4
namespace Go.Proofs.Ytaadhkjehlkiiaa
open Go.RowKit Go.Shelf
attribute [local simp] mk_get

theorem zeros_bits (n : Nat) : PC.bitsOk (zeros n) n = true := by
  simp [PC.bitsOk, zeros]

theorem cat_one (a : List UInt8) (x : UInt8) : (ByteArray.mk a.toArray) ++ (ByteArray.mk #[x]) = ⟨(a ++ [x]).toArray⟩ := by
  rw [show (ByteArray.mk #[x]) = ⟨([x] : List UInt8).toArray⟩ from rfl, cat_eq]

theorem diffs_succ (a b : List UInt8) (k : Nat) (ha : k < a.length) (hb : k < b.length) : (PC.diffs a b).take (k + 1) = (PC.diffs a b).take k ++ [if a[k] != b[k] then 49 else 48] := by
  have hl : k < (PC.diffs a b).length := by simp [PC.diffs]; omega
  rw [List.take_succ_eq_append_getElem hl]
  simp [PC.diffs]

set_option maxRecDepth 100000 in
set_option maxHeartbeats 8000000 in
theorem apart_walk (c : PC.Circ) (vc : Value) (a b : List UInt8) (w : World) (h : IsCirc w vc c) (hf : Fits c) (hin : c.inputs.length ≤ 9223372036854775806) (ha : a.length ≤ 9223372036854775806) (hb : b.length ≤ 9223372036854775806) :
    Calls Try.prog 4 #[vc, .string ⟨a.toArray⟩, .string ⟨b.toArray⟩] w fun e w' => e = .returned (.bool true) ∧ Below w.heap.size w w' := by
  have hzl0 : (zeros c.inputs.length).length = c.inputs.length := by simp [zeros]
  have hVa := Lib.hid fun w1 (hb' : Below w.heap.size w w1) => rValues_any c vc a (zeros c.inputs.length) w1 (h.mono hb') hf ha (by omega)
  have hVb := Lib.hid fun w1 (hb' : Below w.heap.size w w1) => rValues_any c vc b (zeros c.inputs.length) w1 (h.mono hb') hf hb (by omega)
  have hCk := Lib.hid fun w1 (hb : Below w.heap.size w w1) => rCheck_any c vc w1 (h.mono hb) hf
  have hAb := Lib.hid fun w1 (hb : Below w.heap.size w w1) (hc : PC.chk c = false) => uApart_bad c vc 0 1 9 w1 (h.mono hb) hc (by omega)
  have hAg := Lib.hid fun x w1 (hb : Below w.heap.size w w1) (hc : PC.chk c = true) (hx : 0 ≤ x ∧ x ≤ 262144) => uApart_good c vc 0 1 x w1 (h.mono hb) hc (by omega) (by omega) hx
  obtain ⟨vi, vl, vo, vb, vv, va, vn, rfl, hp, hmx⟩ := h
  obtain ⟨ai, capi, rfl, hi1, hi2, hi3⟩ := hp.inputs.open_
  obtain ⟨al, capl, rfl, hl1, hl2, hl3⟩ := hp.latches.open_
  clear hp hi3 hl3 hzl0
  have hb0 : Below w.heap.size w (w.alloc (.cells #[.int .i64 c.max, .slice ai c.inputs.length capi, .slice al c.latches.length capl, vo, vb, vv, va, vn] 27)) := (Below.refl _ _).alloc (Nat.le_refl _) _
  have hbx := Lib.hid (Box8.new w (.int .i64 c.max) (.slice ai c.inputs.length capi) (.slice al c.latches.length capl) vo vb vv va vn 27)
  obtain ⟨EA, hEA⟩ : ∃ x, x = PC.valuesE c a (zeros c.inputs.length) := ⟨_, rfl⟩
  obtain ⟨SA, hSA⟩ : ∃ x, x = PC.valuesS c a (zeros c.inputs.length) := ⟨_, rfl⟩
  obtain ⟨EB, hEB⟩ : ∃ x, x = PC.valuesE c b (zeros c.inputs.length) := ⟨_, rfl⟩
  obtain ⟨SB, hSB⟩ : ∃ x, x = PC.valuesS c b (zeros c.inputs.length) := ⟨_, rfl⟩
  rw [← hEA, ← hSA] at hVa
  rw [← hEB, ← hSB] at hVb
  have HEA := Lib.hid hEA
  have HSA := Lib.hid hSA
  have HEB := Lib.hid hEB
  have HSB := Lib.hid hSB
  clear hEA hSA hEB hSB
  go_enter Try.func4, Try.ntmps4
  go_wp2_with (go_at_call 17; refine (alive13_any _).mono ?_; rintro e w1 ⟨rfl, hb1⟩; have hbw1 := Below.of hb0 hb1; have hbx1 := Lib.hid (hbx.out.mono hb1); obtain ⟨q0, q1, q2, q3, q4, q5, q6, q7⟩ := hbx1.out)
  go_loopg [7, 8] c.inputs.length (fun gg s7 s8 wr => ∃ k : Nat, k ≤ c.inputs.length ∧ c.inputs.length - k ≤ gg ∧ s7 = .string ⟨(zeros k).toArray⟩ ∧ s8 = .int .i64 k ∧ w1 = wr)
  case atStart => exact ⟨0, Nat.zero_le _, by omega, rfl, rfl, rfl⟩
  case round =>
    obtain ⟨k, hk, hg, rfl, rfl, rfl⟩ := hrel
    by_cases hlt : k < c.inputs.length
    · have hltz : (k : Int) < (c.inputs.length : Int) := by omega
      have hcat := zeros_succ k
      have hzl : (zeros k).length = k := by simp [zeros]
      have hzb : k + 1 ≤ 9223372036854775807 := by omega
      have hzc : (k : Int) + 1 ≤ 9223372036854775807 := by omega
      go_wp2
      go_roundg (c.inputs.length - (k + 1))
      case measure => omega
      case rel => exact ⟨k + 1, by omega, by omega, rfl, by go_num, rfl⟩
    · have hltz : ¬ (k : Int) < (c.inputs.length : Int) := by omega
      obtain rfl : k = c.inputs.length := by omega
      obtain ⟨Z, hZ⟩ : ∃ Z, Z = zeros c.inputs.length := ⟨_, rfl⟩
      have hzb := zeros_bits c.inputs.length
      rw [← hZ] at hVa hVb HEA HSA HEB HSB hzb ⊢
      clear hZ
      go_wp2_with fail
      refine (hVa.out _ (by exact hbw1)).mono ?_
      rintro e w3 ⟨rfl, hb3⟩
      have hbw3 := Below.of hbw1 hb3
      have hbx3 := Lib.hid (hbx1.out.mono hb3)
      clear q0 q1 q2 q3 q4 q5 q6 q7
      obtain ⟨q0, q1, q2, q3, q4, q5, q6, q7⟩ := hbx3.out
      go_wp2_with fail
      refine (hVb.out _ (by exact hbw3)).mono ?_
      rintro e w4 ⟨rfl, hb4⟩
      have hbw4 := Below.of hbw3 hb4
      have hbx4 := Lib.hid (hbx3.out.mono hb4)
      clear q0 q1 q2 q3 q4 q5 q6 q7
      obtain ⟨q0, q1, q2, q3, q4, q5, q6, q7⟩ := hbx4.out
      cases hck : PC.chk c with
      | false =>
        have hA9 : EA = 9 := by rw [HEA.out, PC.valuesE, if_pos hck]
        subst hA9
        rw [hck] at hCk
        have hF := Lib.hid fun w1 hb => hAb.out w1 hb hck
        clear hck HEA
        go_wp2_with (first | (go_at_call 18; refine (hCk.out _ (by exact hbw4)).mono ?_; rintro e w5 ⟨rfl, hb5⟩; have hbw5 := Below.of hbw4 hb5; clear q0 q1 q2 q3 q4 q5 q6 q7; obtain ⟨q0, q1, q2, q3, q4, q5, q6, q7⟩ := hbx4.out.mono hb5) | (go_at_call 19; refine (hF.out _ (by exact hbw5)).mono ?_; rintro e w6 ⟨rfl, hb6⟩))
        go_ret
        exact ⟨rfl, Below.of hbw5 hb6⟩
      | true =>
        have HRt := Lib.hid (PC.right_of c hck)
        have hF := Lib.hid fun x w1 hb hx => hAg.out x w1 hb hck hx
        have HCK := Lib.hid hck
        rw [hck] at hCk
        clear hck
        by_cases hba : PC.bitsOk a c.latches.length = true
        · by_cases hbb : PC.bitsOk b c.latches.length = true
          · have hA0 : EA = 0 := by rw [HEA.out, PC.valuesE, if_neg (by rw [HCK.out]; decide), if_neg (by rw [hba, hzb]; simp)]
            have hB0 : EB = 0 := by rw [HEB.out, PC.valuesE, if_neg (by rw [HCK.out]; decide), if_neg (by rw [hbb, hzb]; simp)]
            have hSA0 : Hid (SA = PC.vals c a Z) := by show _ = _; rw [HSA.out, PC.valuesS, ← HEA.out, hA0]; rfl
            have hSB0 : Hid (SB = PC.vals c b Z) := by show _ = _; rw [HSB.out, PC.valuesS, ← HEB.out, hB0]; rfl
            have hlaw := PC.apart_law c HRt.out a b Z hba hbb
            have hla := ((bitsOk_step _ _).1 hba).2
            have hlb := ((bitsOk_step _ _).1 hbb).2
            subst hA0
            subst hB0
            have hla1 : SA.length = c.max.toNat + 1 := by rw [hSA0.out]; exact PC.vals_length c a Z
            have hlb1 : SB.length = c.max.toNat + 1 := by rw [hSB0.out]; exact PC.vals_length c b Z
            rw [← hSA0.out, ← hSB0.out] at hlaw
            have hmx1 := HRt.out.max1
            have hlats := HRt.out.lats
            clear hba hbb HEA HEB hzb HSA HSB
            obtain ⟨S0, hS0⟩ : ∃ S0, S0 = SA ++ SB := ⟨_, rfl⟩
            have hcat0 : (ByteArray.mk SA.toArray) ++ (ByteArray.mk SB.toArray) = ⟨S0.toArray⟩ := by rw [cat_eq, hS0]
            have hS0l : S0.length = SA.length + SB.length := by rw [hS0, List.length_append]
            have hsum1 : SA.length + SB.length ≤ 9223372036854775807 := by omega
            have hsum2 : (SA.length : Int) + (SB.length : Int) ≤ 9223372036854775807 := by omega
            have hFx := Lib.hid fun w1 hb => hF.out (S0.length : Int) w1 hb (by omega)
            rw [← hS0, show (SA.length : Int) + (SB.length : Int) = (S0.length : Int) by omega] at hlaw
            have hlaw := Lib.hid hlaw
            have hS0H := Lib.hid hS0
            have hS0L := Lib.hid hS0l
            have hLA := Lib.hid hla
            have hLB := Lib.hid hlb
            have hLA1 := Lib.hid hla1
            have hLB1 := Lib.hid hlb1
            have hMX := Lib.hid hmx1
            have hLT := Lib.hid hlats
            clear hS0 hS0l hla hlb hla1 hlb1 hmx1 hlats hSA0 hSB0 hF hAb hAg hCk hVa hVb
            go_wp2_with (go_at_call 19; refine (hFx.out _ (by exact hbw4)).mono ?_; rintro e w5 ⟨u, rfl, hu, hb5⟩; have hbw5 := Lib.hid (Below.of hbw4 hb5); have hbx5 := Lib.hid (hbx4.out.mono hb5))
            clear q0 q1 q2 q3 q4 q5 q6 q7
            obtain ⟨G, hG⟩ : ∃ G : Nat → List UInt8, ∀ j, G j = S0 ++ (PC.diffs a b).take j := ⟨_, fun _ => rfl⟩
            have hG0 : Hid (G 0 = S0) := by show _ = _; rw [hG]; simp
            have hGs : Hid (∀ j (h : j < a.length) (h' : j < b.length), G (j + 1) = G j ++ [if a[j] != b[j] then 49 else 48]) := fun j h h' => by
              rw [hG, hG, diffs_succ a b j h h', List.append_assoc]
            have hGl : Hid (∀ j, j ≤ c.latches.length → (G j).length = S0.length + j) := fun j hj => by
              rw [hG, List.length_append, List.length_take]
              have : (PC.diffs a b).length = c.latches.length := by
                have h1 := hLA.out
                have h2 := hLB.out
                simp [PC.diffs]; omega
              omega
            have hGe : Hid (G c.latches.length = SA ++ SB ++ PC.diffs a b) := by
              show _ = _
              rw [hG, hS0H.out, List.take_of_length_le (by have h1 := hLA.out; have h2 := hLB.out; simp [PC.diffs]; omega)]
            clear hG
            obtain ⟨W0, hW0⟩ : ∃ W0, W0 = w5 := ⟨_, rfl⟩
            subst hW0
            go_loopg [13, 15] c.latches.length (fun gg s13 s15 wr => ∃ k : Nat, k ≤ c.latches.length ∧ c.latches.length - k ≤ gg ∧ s13 = .string ⟨(G k).toArray⟩ ∧ s15 = .int .i64 k ∧ Below W0.heap.size W0 wr)
            case atStart => exact ⟨0, Nat.zero_le _, by omega, by rw [hG0.out], rfl, Below.refl _ _⟩
            case round =>
              obtain ⟨k, hk, hg, rfl, rfl, hbr⟩ := hrel
              have hbxr := Lib.hid (hbx5.out.mono hbr)
              by_cases hlt : k < c.latches.length
              · obtain ⟨q0, q1, q2, q3, q4, q5, q6, q7⟩ := hbxr.out
                have hmea : ∀ g : Nat, c.latches.length - k ≤ g → c.latches.length - (k + 1) < g := fun g h => by omega
                have hka : k < a.length := by rw [hLA.out]; exact hlt
                have hkb : k < b.length := by rw [hLB.out]; exact hlt
                have hstep := hGs.out k hka hkb
                obtain ⟨x, hx⟩ : ∃ x, a[k] = x := ⟨_, rfl⟩
                obtain ⟨y, hy⟩ : ∃ y, b[k] = y := ⟨_, rfl⟩
                rw [hx, hy] at hstep
                have hltz : (k : Int) < (c.latches.length : Int) := by omega
                have hkaz : (k : Int) < (a.length : Int) := by omega
                have hkbz : (k : Int) < (b.length : Int) := by omega
                have hgl := hGl.out k hk
                have hb1 : (G k).length + 1 ≤ 9223372036854775807 := by have := hS0L.out; have := hLA1.out; have := hLB1.out; have := hMX.out; have := hLT.out; omega
                have hb2 : ((G k).length : Int) + 1 ≤ 9223372036854775807 := by omega
                clear hgl
                go_wp2_with fail
                clear q0 q1 q2 q3 q4 q5 q6 q7
                by_cases hxy : (x.toNat : Int) = (y.toNat : Int)
                · have hxy2 : ((x.toNat : Int) != (y.toNat : Int)) = false := by simpa using hxy
                  have hxe : x = y := UInt8.toNat_inj.1 (by omega)
                  have hstep2 : G (k + 1) = G k ++ [48] := by rw [hstep, hxe]; simp
                  have hcat := cat_one (G k) 48
                  rw [← hstep2] at hcat
                  clear hstep hstep2 hxe hxy
                  refine wp_region_later (by kernel_rfl) (by kernel_rfl) ?_; (repeat (go_big_quiet_step (fail))); refine wpQuiet_nil ?_; rintro w3 ⟨⟨_, hb3⟩, rfl⟩
                  go_wp2
                  go_roundg (c.latches.length - (k + 1))
                  case measure => exact hmea _ hg
                  case rel => exact ⟨k + 1, by omega, by omega, rfl, by go_num, Below.of hbr hb3⟩
                · have hxy2 : ((x.toNat : Int) != (y.toNat : Int)) = true := by simpa using hxy
                  have hxe : x ≠ y := fun e => hxy (by rw [e])
                  have hstep2 : G (k + 1) = G k ++ [49] := by rw [hstep]; simp [hxe]
                  have hcat := cat_one (G k) 49
                  rw [← hstep2] at hcat
                  clear hstep hstep2 hxe hxy
                  refine wp_region_later (by kernel_rfl) (by kernel_rfl) ?_; (repeat (go_big_quiet_step (fail))); refine wpQuiet_nil ?_; rintro w3 ⟨⟨_, hb3⟩, rfl⟩
                  go_wp2
                  go_roundg (c.latches.length - (k + 1))
                  case measure => exact hmea _ hg
                  case rel => exact ⟨k + 1, by omega, by omega, rfl, by go_num, Below.of hbr hb3⟩
              · obtain ⟨q0, q1, q2, q3, q4, q5, q6, q7⟩ := hbxr.out
                have hltz : ¬ (k : Int) < (c.latches.length : Int) := by omega
                obtain rfl : k = c.latches.length := by omega
                go_wp2_with fail
                clear q0 q1 q2 q3 q4 q5 q6 q7
                obtain ⟨VS, hVS⟩ : ∃ VS, VS = G c.latches.length := ⟨_, rfl⟩
                have hVl2 : VS.length ≤ 9223372036854775807 := by
                  have h1 := hGl.out _ (Nat.le_refl _)
                  have := hS0L.out; have := hLA1.out; have := hLB1.out; have := hMX.out; have := hLT.out
                  rw [hVS]; omega
                have hlaw2 := hlaw.out
                obtain ⟨L, hL⟩ : ∃ L, L = PC.apartT c 0 1 (S0.length : Int) := ⟨_, rfl⟩
                have hLlen : L.length = 2 * c.latches.length + 1 := by rw [hL, PC.apartT_length]
                have hlawL : Hid (L.all (PC.one VS) = (a != b)) := by
                  show _ = _
                  rw [hL, hVS, hGe.out, ← hS0H.out]
                  exact hlaw2
                have hu2 := hu.mono hbr
                rw [← hL] at hu2
                rw [← hVS]
                obtain ⟨ao, cap, rfl, hu1, hu2', hu3⟩ := hu2.lists.open_
                have HU := Lib.hid hu3
                have hLlenH := Lib.hid hLlen
                have hbwr := Lib.hid (Below.of hbw5.out hbr)
                clear hu3 hL hu hu2 hlaw hlaw2 hVS hGe hGl hGs hG0 hLlen hLA hLB hg hk hlt hltz
                obtain ⟨w4, hw4⟩ : ∃ w4, w4 = wr := ⟨_, rfl⟩
                subst hw4
                obtain ⟨f, hf⟩ : ∃ f : Nat → Bool, ∀ j, f j = (L.take j).all (PC.one VS) := ⟨_, fun _ => rfl⟩
                have hf0 : Hid (f 0 = true) := by show _ = _; rw [hf]; rfl
                have hfs : Hid (∀ j (h : j < L.length), f (j + 1) = (f j && PC.one VS L[j])) := fun j h => by
                  rw [hf, hf, List.take_succ_eq_append_getElem h, List.all_append]; simp
                have hfe : Hid (f L.length = L.all (PC.one VS)) := by show _ = _; rw [hf, List.take_length]
                clear hf
                go_loopg [16, 17] L.length (fun gg sa sk wr => ∃ k : Nat, k ≤ L.length ∧ L.length - k ≤ gg ∧ sa = .bool (f k) ∧ sk = .int .i64 k ∧ w4 = wr)
                case atStart => exact ⟨0, Nat.zero_le _, by omega, by rw [hf0.out], rfl, rfl⟩
                case round =>
                  obtain ⟨k, hk, hg, rfl, rfl, rfl⟩ := hrel
                  by_cases hlt : k < L.length
                  · obtain ⟨b', off, u, rfl, hbs, hc, hiu⟩ := HU.out k hlt
                    have hmea : ∀ g : Nat, L.length - k ≤ g → L.length - (k + 1) < g := fun g h => by omega
                    have hst := hfs.out k hlt
                    generalize hy : L[k] = y at *
                    clear hy
                    have hltz : (k : Int) < (L.length : Int) := by omega
                    have hO := Lib.hid (rOne_any VS y u w4 hiu hVl2)
                    cases hfk : f k with
                    | true =>
                      rw [hfk, Bool.true_and] at hst
                      have hst := Lib.hid hst
                      clear hfk
                      go_wp2_with (go_at_call 15; refine hO.out.mono ?_; rintro e w5 ⟨rfl, rfl⟩)
                      go_roundg (L.length - (k + 1))
                      case measure => exact hmea _ hg
                      case rel => exact ⟨k + 1, by omega, by omega, by rw [hst.out], by go_num, rfl⟩
                    | false =>
                      rw [hfk, Bool.false_and] at hst
                      have hst := Lib.hid hst
                      clear hfk
                      go_wp2_with fail
                      go_roundg (L.length - (k + 1))
                      case measure => exact hmea _ hg
                      case rel => exact ⟨k + 1, by omega, by omega, by rw [hst.out], by go_num, rfl⟩
                  · have hltz : ¬ (k : Int) < (L.length : Int) := by omega
                    obtain rfl : k = L.length := by omega
                    obtain ⟨q0, q1, q2, q3, q4, q5, q6, q7⟩ := hbxr.out
                    have hfk := hfe.out
                    rw [hlawL.out] at hfk
                    have hll := hLT.out
                    have e1 : IntKind.i64.wrap (2 * (c.latches.length : Int)) = 2 * (c.latches.length : Int) := IntWalk.i64_in _ (by omega)
                    have e2 : IntKind.i64.wrap (2 * (c.latches.length : Int) + 1) = 2 * (c.latches.length : Int) + 1 := IntWalk.i64_in _ (by omega)
                    have e3 : (L.length : Int) = 2 * (c.latches.length : Int) + 1 := by have := hLlenH.out; omega
                    clear hfe hfs hf0 hll hVl2 HU hu1 hu2'
                    generalize hfq : f L.length = bb at *
                    clear hfq
                    generalize L.length = n at *
                    cases hab : (a == b) with
                    | true =>
                      have hab2 : (a != b) = false := by simp [bne, hab]
                      rw [hab2] at hfk
                      subst hfk
                      go_wp2
                      go_ret
                      exact ⟨rfl, hbwr.out⟩
                    | false =>
                      have hab2 : (a != b) = true := by simp [bne, hab]
                      rw [hab2] at hfk
                      subst hfk
                      go_wp2
                      go_ret
                      exact ⟨rfl, hbwr.out⟩
          · have hB5 : EB = 5 := by rw [HEB.out, PC.valuesE, if_neg (by rw [HCK.out]; decide), if_pos (Or.inl (by simpa using hbb))]
            have hA0 : EA = 0 := by rw [HEA.out, PC.valuesE, if_neg (by rw [HCK.out]; decide), if_neg (by rw [hba, hzb]; simp)]
            subst hB5
            subst hA0
            clear hba hbb HEA HEB hzb
            go_wp2_with (go_at_call 18; refine (hCk.out _ (by exact hbw4)).mono ?_; rintro e w5 ⟨rfl, hb5⟩)
            go_ret
            exact ⟨rfl, Below.of hbw4 hb5⟩
        · have hA5 : EA = 5 := by rw [HEA.out, PC.valuesE, if_neg (by rw [HCK.out]; decide), if_pos (Or.inl (by simpa using hba))]
          subst hA5
          clear hba HEA hzb
          go_wp2_with (go_at_call 18; refine (hCk.out _ (by exact hbw4)).mono ?_; rintro e w5 ⟨rfl, hb5⟩)
          go_ret
          exact ⟨rfl, Below.of hbw4 hb5⟩

end Go.Proofs.Ytaadhkjehlkiiaa
