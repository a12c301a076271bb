/- AigWrites: the octets of a circuit in order are as the page says, line by line, gate by gate. -/
import Derived.Test.YtjcaejdokillgaaWalkA5
namespace Go.Proofs.Ytjcaejdokillgaa
open Go.RowKit Go.Shelf
attribute [local simp] mk_get

def sp (n : Int) : List UInt8 := 32 :: P01.decI n

theorem pre_len {S R T : List UInt8} (h : S ++ R = T) (hT : T.length ≤ 700000) : S.length ≤ 700000 := by
  have := congrArg List.length h
  rw [List.length_append] at this
  omega

theorem head_text (c : PC.Circ) : PA.text c = [97, 105, 103] ++ ((PA.headN c).flatMap sp ++ ([10] ++ PA.text1 c)) := by
  unfold PA.text
  rw [PA.lineT_head _ (by decide)]
  simp only [List.append_assoc]
  rfl

set_option maxRecDepth 100000 in
set_option maxHeartbeats 16000000 in
theorem aigWrites_walk (c : PC.Circ) (vc : Value) (w : World) (h : IsCirc w vc c) :
    Calls Try.prog 3 #[vc] w fun e w' => e = .returned (.bool true) ∧ Below w.heap.size w w' := by
  have HC := Lib.hid h
  obtain ⟨xi, xj, xl, xm, xo, xp, xb, xc, xv, xw, xa, xq, xn, xr, rfl, hp⟩ := row_slices h
  have HP := Lib.hid hp
  clear h hp
  have r1 := RowL.new (T := 27) w [.int .i64 c.max, .slice xi c.inputs.length xj, .slice xl c.latches.length xm, .slice xo c.outputs.length xp, .slice xb c.bads.length xc, .slice xv c.invars.length xw, .slice xa c.ands.length xq, .slice xn c.names.length xr]
  have hb0 := (Below.refl w.heap.size w).alloc (Nat.le_refl _) (.cells #[.int .i64 c.max, .slice xi c.inputs.length xj, .slice xl c.latches.length xm, .slice xo c.outputs.length xp, .slice xb c.bads.length xc, .slice xv c.invars.length xw, .slice xa c.ands.length xq, .slice xn c.names.length xr] 27)
  obtain ⟨X, hX⟩ : ∃ X, X = w.alloc (.cells #[.int .i64 c.max, .slice xi c.inputs.length xj, .slice xl c.latches.length xm, .slice xo c.outputs.length xp, .slice xb c.bads.length xc, .slice xv c.invars.length xw, .slice xa c.ands.length xq, .slice xn c.names.length xr] 27) := ⟨_, rfl⟩
  rw [← hX] at r1 hb0
  have R1 := Lib.hid r1
  have HB0 := Lib.hid hb0
  have HX := Lib.hid hX
  clear hX r1 hb0
  have hN := Lib.hid fun x y => num05_any x y
  go_enter Try.func3, Try.ntmps3
  go_wp2_with fail
  rw [← HX.out]
  refine (alive05_any _).mono ?_
  rintro e w1 ⟨rfl, hb1⟩
  have HB1 := Lib.hid (Below.of HB0.out hb1)
  have S1 := Lib.hid (R1.out.mono hb1)
  clear hb1 R1 HB0 HX
  have hWr := Lib.hid (aWrite_any c _ w1 (HC.out.mono HB1.out))
  have q := S1.out
  have q0 := q.cell 0 _ rfl
  have q1 := q.cell 1 _ rfl
  have q2 := q.cell 2 _ rfl
  have q3 := q.cell 3 _ rfl
  have q4 := q.cell 4 _ rfl
  have q5 := q.cell 5 _ rfl
  have q6 := q.cell 6 _ rfl
  have q7 := q.cell 7 _ rfl
  go_wp2_with fail
  refine hWr.out.mono ?_
  rintro e w2 ⟨v, rfl, hv1, hv2, hb2⟩
  clear q q0 q1 q2 q3 q4 q5 q6 q7
  have HB2 := Lib.hid (Below.of HB1.out hb2)
  have S2 := Lib.hid (S1.out.mono hb2)
  clear hb2 S1 HB1 hWr
  cases hord : PA.ordered c with
  | false =>
    obtain rfl := hv2 hord
    clear hv1 hv2 hord
    go_wp2_with (go_at_call 7; refine (hN.out _ _).mono ?_; rintro e w4 ⟨rfl, rfl⟩)
    go_ret
    exact ⟨by first | rfl | simp, HB2.out⟩
  | true =>
    have hoc := hv1 hord
    have hck : PC.chk c = true := by unfold PA.ordered at hord; simp only [Bool.and_eq_true] at hord; exact hord.1
    have HR := Lib.hid (PC.right_of c hck)
    have HORD := Lib.hid hord
    have HCK := Lib.hid hck
    have HTL := Lib.hid (PA.text_len hord)
    have HTX := Lib.hid (head_text c)
    obtain ⟨T, hT⟩ : ∃ T, T = PA.text c := ⟨_, rfl⟩
    rw [← hT] at HTL HTX hoc
    have HOC := Lib.hid hoc
    clear hT hck hord hv1 hv2 hoc
    have q := S2.out
    have q0 := q.cell 0 _ rfl
    have q1 := q.cell 1 _ rfl
    have q2 := q.cell 2 _ rfl
    have q3 := q.cell 3 _ rfl
    have q4 := q.cell 4 _ rfl
    have q5 := q.cell 5 _ rfl
    have q6 := q.cell 6 _ rfl
    have q7 := q.cell 7 _ rfl
    have a0 := HR.out.max0
    have a1 := HR.out.max1
    have b2 := HR.out.ins
    have b3 := HR.out.lats
    have b4 := HR.out.outs
    have b5 := HR.out.bads
    have b6 := HR.out.invs
    have b7 := PC.ands_len c HR.out
    have hhr : ∀ x ∈ PA.headN c, 0 ≤ x ∧ x ≤ 4097 := by
      intro x hx
      simp only [PA.headN, List.mem_cons, List.mem_nil_iff, or_false] at hx
      omega
    have hh := ints_new w2 (PA.headN c) (by simp [PA.headN]) (fun x hx => by have := hhr x hx; unfold rng; omega) #[.int .i64 c.max, .int .i64 (c.inputs.length : Int), .int .i64 (c.latches.length : Int), .int .i64 (c.outputs.length : Int), .int .i64 (c.ands.length : Int), .int .i64 (c.bads.length : Int), .int .i64 (c.invars.length : Int)] rfl
    obtain ⟨X3, hX3⟩ : ∃ X, X = w2.alloc (.cells #[.int .i64 c.max, .int .i64 (c.inputs.length : Int), .int .i64 (c.latches.length : Int), .int .i64 (c.outputs.length : Int), .int .i64 (c.ands.length : Int), .int .i64 (c.bads.length : Int), .int .i64 (c.invars.length : Int)] 3) := ⟨_, rfl⟩
    rw [← hX3] at hh
    have hb3 : Hid (Below w2.heap.size w2 X3) := by rw [hX3]; exact (Below.refl _ _).alloc (Nat.le_refl _) _
    have HH := Lib.hid hh
    have HX3 := Lib.hid hX3
    have HLN : Hid ((PA.headN c).length = 7) := rfl
    have HHR := Lib.hid hhr
    clear hh hX3 hhr a0 a1
    go_wp2_with (go_at_call 7; refine (hN.out _ _).mono ?_; rintro e w4 ⟨rfl, rfl⟩)
    rw [← HX3.out]
    clear q q0 q1 q2 q3 q4 q5 q6 q7
    generalize PA.headN c = HL at *
    go_loopg [6, 7] 7 (fun gg s6 s7 wr => ∃ (k : Nat) (S : List UInt8), k ≤ 7 ∧ 7 - k ≤ gg ∧ s7 = .int .i64 k ∧ s6 = .string ⟨S.toArray⟩ ∧ Hid (Below X3.heap.size X3 wr) ∧ Hid (S ++ ((HL.drop k).flatMap sp ++ ([10] ++ PA.text1 c)) = T))
    case atStart => exact ⟨0, [97, 105, 103], Nat.zero_le _, by omega, rfl, rfl, Below.refl _ _, by rw [List.drop_zero]; exact HTX.out.symm⟩
    case round =>
      obtain ⟨k, S, hk, hg, rfl, rfl, hbr, hS⟩ := hrel
      have hSl := pre_len hS.out HTL.out
      by_cases hlt : k < 7
      · have hltl : k < HL.length := by rw [HLN.out]; exact hlt
        have hI : Ints X3 (.slice (some ⟨w2.heap.size, 0, none⟩) 7 7) HL := by have := HH.out; rw [HLN.out] at this; exact this
        obtain ⟨b', off, hbo, hbs, hr0, c0⟩ := hI.at_ k hltl
        cases hbo
        have c0 := (hbr.out.cell hbs).trans c0
        rw [Nat.zero_add] at c0
        have hmea : ∀ g : Nat, 7 - k ≤ g → 7 - (k + 1) < g := fun g h => by omega
        have hltz : (k : Int) < 7 := by omega
        have hdl := PA.decI_len HL[k] hr0.1 hr0.2
        have hdr : (HL.drop k).flatMap sp = [32] ++ (P01.decI HL[k] ++ (HL.drop (k + 1)).flatMap sp) := by
          rw [List.drop_eq_getElem_cons hltl, List.flatMap_cons]
          rfl
        have hP := Lib.hid (r01Print_any HL[k] wr hr0.1 hr0.2)
        generalize HL[k] = xn at *
        generalize P01.decI xn = D at *
        obtain ⟨M1, hM1⟩ : ∃ M, M = S ++ [32] := ⟨_, rfl⟩
        have kM1 : (⟨List.toArray S⟩ : ByteArray) ++ ⟨#[32]⟩ = ⟨List.toArray M1⟩ := by rw [hM1]; exact cat_eq S [32]
        have lM1 : M1.length = S.length + 1 := by rw [hM1]; simp only [List.length_append, List.length_cons, List.length_nil]
        have mM1 : ¬ 9223372036854775807 < S.length + 1 := by omega
        obtain ⟨M2, hM2⟩ : ∃ M, M = M1 ++ D := ⟨_, rfl⟩
        have kM2 : (⟨List.toArray M1⟩ : ByteArray) ++ ⟨List.toArray D⟩ = ⟨List.toArray M2⟩ := by rw [hM2]; exact cat_eq _ _
        have lM2 : M2.length = M1.length + D.length := by rw [hM2]; simp only [List.length_append]
        have mM2 : ¬ 9223372036854775807 < M1.length + D.length := by omega
        have hS2 : Hid (M2 ++ ((HL.drop (k + 1)).flatMap sp ++ ([10] ++ PA.text1 c)) = T) := by
          show _ = _
          rw [← hS.out, hdr, hM2, hM1]
          simp only [List.append_assoc]
        clear hdr hM1 hM2 hI hr0
        go_wp2_with (go_at_call 8; refine hP.out.mono ?_; rintro e w5 ⟨rfl, hb5⟩)
        have hb6 : Hid (Below X3.heap.size X3 w5) := Below.of hbr.out hb5
        go_roundg (7 - (k + 1))
        case measure => exact hmea _ hg
        case rel => exact ⟨k + 1, M2, by omega, by omega, by go_num, rfl, hb6, hS2⟩
      · have hltz : ¬ (k : Int) < 7 := by omega
        obtain rfl : k = 7 := by omega
        have hd7 : HL.drop 7 = [] := List.drop_eq_nil_of_le (by rw [HLN.out]; exact Nat.le_refl _)
        rw [hd7, List.flatMap_nil, List.nil_append] at hS
        obtain ⟨M1, hM1⟩ : ∃ M, M = S ++ [10] := ⟨_, rfl⟩
        have kM1 : (⟨List.toArray S⟩ : ByteArray) ++ ⟨#[10]⟩ = ⟨List.toArray M1⟩ := by rw [hM1]; exact cat_eq S [10]
        have lM1 : M1.length = S.length + 1 := by rw [hM1]; simp only [List.length_append, List.length_cons, List.length_nil]
        have mM1 : ¬ 9223372036854775807 < S.length + 1 := by omega
        have hS2 : Hid (M1 ++ (c.latches.flatMap PA.latT ++ PA.text2 c) = T) := by
          show _ = _
          rw [← hS.out, hM1]
          simp only [List.append_assoc]
          rfl
        have HB4 := Lib.hid (Below.of hb3.out hbr.out)
        have S4 := Lib.hid (S2.out.mono HB4.out)
        have HOC4 := Lib.hid (HOC.out.mono HB4.out)
        have HB5 := Lib.hid (Below.of HB2.out HB4.out)
        obtain ⟨X4, hX4⟩ : ∃ X, X = wr := ⟨_, rfl⟩
        subst hX4
        clear hM1 hS hk hg hlt hd7 hbr hb3 HH HX3 HHR HLN HTX HB2 HB4 S2 HOC
        go_wp2_with fail
        clear kM1 lM1 mM1 hSl
        go_loopg [6, 8] c.latches.length (fun gg s6 s8 wr => ∃ (k : Nat) (S : List UInt8), k ≤ c.latches.length ∧ c.latches.length - k ≤ gg ∧ s8 = .int .i64 k ∧ s6 = .string ⟨S.toArray⟩ ∧ Hid (Below X4.heap.size X4 wr) ∧ Hid (S ++ ((c.latches.drop k).flatMap PA.latT ++ PA.text2 c) = T))
        case atStart => exact ⟨0, M1, Nat.zero_le _, by omega, rfl, rfl, Below.refl _ _, by rw [List.drop_zero]; exact hS2⟩
        case round =>
          obtain ⟨k, S, hk, hg, rfl, rfl, hbr, hS⟩ := hrel
          have hSl := pre_len hS.out HTL.out
          have q := S4.out.mono hbr.out
          have q0 := q.cell 0 _ rfl
          have q1 := q.cell 1 _ rfl
          have q2 := q.cell 2 _ rfl
          have q3 := q.cell 3 _ rfl
          have q4 := q.cell 4 _ rfl
          have q5 := q.cell 5 _ rfl
          have q6 := q.cell 6 _ rfl
          have q7 := q.cell 7 _ rfl
          by_cases hlt : k < c.latches.length
          · obtain ⟨b', off, rfl, hbs, ⟨hr0, hr1, hr2⟩, c0, c1, c2⟩ := HP.out.latches.at_ k hlt
            have hBw := Lib.hid (Below.of HB5.out hbr.out)
            have d1 := (hBw.out.cell hbs).trans c1
            have hmea : ∀ g : Nat, c.latches.length - k ≤ g → c.latches.length - (k + 1) < g := fun g h => by omega
            have hltz : (k : Int) < (c.latches.length : Int) := by omega
            have hdl := PA.decI_len c.latches[k].next hr1.1 hr1.2
            have hdl2 := PA.decI_len c.latches[k].reset hr2.1 hr2.2
            have hdr : Hid ((c.latches.drop k).flatMap PA.latT = PA.lineT [] (if c.latches[k].reset = 0 then [c.latches[k].next] else [c.latches[k].next, c.latches[k].reset]) ++ (c.latches.drop (k + 1)).flatMap PA.latT) := by
              show _ = _
              rw [List.drop_eq_getElem_cons hlt, List.flatMap_cons]
              rfl
            have hP := Lib.hid (r01Print_any c.latches[k].next wr hr1.1 hr1.2)
            have hP2 := Lib.hid fun y => r01Print_any c.latches[k].reset y hr2.1 hr2.2
            have HC2 := Lib.hid c2
            generalize c.latches[k].lit = x at *
            generalize c.latches[k].next = xn at *
            generalize c.latches[k].reset = xr' at *
            generalize hD : P01.decI xn = D at *
            generalize hD2 : P01.decI xr' = D2 at *
            obtain ⟨M1, hM1⟩ : ∃ M, M = S ++ D := ⟨_, rfl⟩
            have kM1 : (⟨List.toArray S⟩ : ByteArray) ++ ⟨List.toArray D⟩ = ⟨List.toArray M1⟩ := by rw [hM1]; exact cat_eq _ _
            have lM1 : M1.length = S.length + D.length := by rw [hM1]; simp only [List.length_append]
            have mM1 : ¬ 9223372036854775807 < S.length + D.length := by omega
            clear c0 c1 c2 hr0 hr1 hr2
            go_wp2_with fail
            refine hP.out.mono ?_
            rintro e w5 ⟨rfl, hb5⟩
            clear q q0 q1 q2 q3 q4 q5 q6 q7
            clear d1
            have hb6 : Hid (Below X4.heap.size X4 w5) := Below.of hbr.out hb5
            have e2 := ((Below.of hBw.out hb5).cell hbs).trans HC2.out
            have q := S4.out.mono hb6.out
            have q0 := q.cell 0 _ rfl
            have q1 := q.cell 1 _ rfl
            have q2 := q.cell 2 _ rfl
            have q3 := q.cell 3 _ rfl
            have q4 := q.cell 4 _ rfl
            have q5 := q.cell 5 _ rfl
            have q6 := q.cell 6 _ rfl
            have q7 := q.cell 7 _ rfl
            by_cases h0 : xr' = 0
            · have hdr := hdr.out
              rw [if_pos h0, PA.lineT_one, hD] at hdr
              have h0b : (xr' != 0) = false := by simpa using h0
              obtain ⟨M2, hM2⟩ : ∃ M, M = M1 ++ [10] := ⟨_, rfl⟩
              have kM2 : (⟨List.toArray M1⟩ : ByteArray) ++ ⟨#[10]⟩ = ⟨List.toArray M2⟩ := by rw [hM2]; exact cat_eq M1 [10]
              have lM2 : M2.length = M1.length + 1 := by rw [hM2]; simp only [List.length_append, List.length_cons, List.length_nil]
              have mM2 : ¬ 9223372036854775807 < M1.length + 1 := by omega
              have hS2 : Hid (M2 ++ ((c.latches.drop (k + 1)).flatMap PA.latT ++ PA.text2 c) = T) := by
                show _ = _
                rw [← hS.out, hdr, hM2, hM1]
                simp only [List.append_assoc]
              clear hdr hM1 hM2
              subst h0
              go_wp2_with fail
              go_roundg (c.latches.length - (k + 1))
              case measure => exact hmea _ hg
              case rel => exact ⟨k + 1, M2, by omega, by omega, by go_num, rfl, hb6, hS2⟩
            · have hdr := hdr.out
              rw [if_neg h0, PA.lineT_two, hD, hD2] at hdr
              have h0b : (xr' != 0) = true := by simpa using h0
              obtain ⟨M2, hM2⟩ : ∃ M, M = M1 ++ [32] := ⟨_, rfl⟩
              have kM2 : (⟨List.toArray M1⟩ : ByteArray) ++ ⟨#[32]⟩ = ⟨List.toArray M2⟩ := by rw [hM2]; exact cat_eq M1 [32]
              have lM2 : M2.length = M1.length + 1 := by rw [hM2]; simp only [List.length_append, List.length_cons, List.length_nil]
              have mM2 : ¬ 9223372036854775807 < M1.length + 1 := by omega
              obtain ⟨M3, hM3⟩ : ∃ M, M = M2 ++ D2 := ⟨_, rfl⟩
              have kM3 : (⟨List.toArray M2⟩ : ByteArray) ++ ⟨List.toArray D2⟩ = ⟨List.toArray M3⟩ := by rw [hM3]; exact cat_eq _ _
              have lM3 : M3.length = M2.length + D2.length := by rw [hM3]; simp only [List.length_append]
              have mM3 : ¬ 9223372036854775807 < M2.length + D2.length := by omega
              obtain ⟨M4, hM4⟩ : ∃ M, M = M3 ++ [10] := ⟨_, rfl⟩
              have kM4 : (⟨List.toArray M3⟩ : ByteArray) ++ ⟨#[10]⟩ = ⟨List.toArray M4⟩ := by rw [hM4]; exact cat_eq M3 [10]
              have lM4 : M4.length = M3.length + 1 := by rw [hM4]; simp only [List.length_append, List.length_cons, List.length_nil]
              have mM4 : ¬ 9223372036854775807 < M3.length + 1 := by omega
              have hS2 : Hid (M4 ++ ((c.latches.drop (k + 1)).flatMap PA.latT ++ PA.text2 c) = T) := by
                show _ = _
                rw [← hS.out, hdr, hM4, hM3, hM2, hM1]
                simp only [List.append_assoc]
              have hP3 := Lib.hid (hP2.out w5)
              clear hdr hM1 hM2 hM3 hM4
              go_wp2_with fail
              refine hP3.out.mono ?_
              rintro e w7 ⟨rfl, hb7⟩
              have hb8 : Hid (Below X4.heap.size X4 w7) := Below.of hb6.out hb7
              clear q q0 q1 q2 q3 q4 q5 q6 q7
              clear e2
              go_wp2_with fail
              go_roundg (c.latches.length - (k + 1))
              case measure => exact hmea _ hg
              case rel => exact ⟨k + 1, M4, by omega, by omega, by go_num, rfl, hb8, hS2⟩
          · have hltz : ¬ (k : Int) < (c.latches.length : Int) := by omega
            obtain rfl : k = c.latches.length := by omega
            rw [List.drop_length, List.flatMap_nil, List.nil_append] at hS
            have HB6 := Lib.hid (Below.of HB5.out hbr.out)
            have S6 := Lib.hid (S4.out.mono hbr.out)
            have HOC6 := Lib.hid (HOC4.out.mono hbr.out)
            obtain ⟨X6, hX6⟩ : ∃ X, X = wr := ⟨_, rfl⟩
            subst hX6
            have HPx := Lib.hid (HP.out.mono HB6.out)
            have hS6 : Hid (S ++ ((PA.told c).flatMap PA.oneT ++ PA.text3 c) = T) := hS.out
            clear hk hg hlt hbr hS S4 HOC4 HB5 hS2
            go_wp2_with fail
            clear q q0 q1 q2 q3 q4 q5 q6 q7
            refine wp_region_facts 9 (fun i j => i == 6 && j == 3) (Facts [isV (.slice none 0 0), isV (.pointer (some ⟨w.heap.size, 3, none⟩)), isV (.slice xo c.outputs.length xp),
              (fun v y => y.ownsRow X6.heap.size 3 1 v c.outputs.length (c.outputs.map (Value.int .i64))), isV (.pointer (some ⟨w.heap.size, 4, none⟩)), isV (.slice xb c.bads.length xc),
              (fun v y => y.ownsRow X6.heap.size 3 1 v (c.outputs.length + c.bads.length) (c.outputs.map (Value.int .i64) ++ c.bads.map (Value.int .i64))), isV (.pointer (some ⟨w.heap.size, 5, none⟩)), isV (.slice xv c.invars.length xw)])
              (fun y => Below X6.heap.size X6 y) (by kernel_rfl) (by kernel_rfl) [some 98, some 99, some 100, some 101, some 102, some 103, some 104, some 105, some 106] rfl (Below.refl _ _).drew ?_ ?_
            · refine ⟨fun vs y hy hd => ?_, fun vs y hy hd => ?_, fun vs y hy hd => ?_, fun vs y hy hd => ?_, fun vs y hy hd => ?_, fun vs y hy hd => ?_, fun vs y hy hd => ?_, fun vs y hy hd => ?_, fun vs y hy hd => ?_, trivial⟩
              · (simp only [opens]; try simp only [Nat.reduceAdd])
                go_wp2_with fail
                exact ⟨_, rfl, hy, rfl, by intros; assumption⟩
              · (simp only [opens]; try simp only [Nat.reduceAdd])
                go_wp2_with fail
                exact ⟨_, rfl, hy, rfl, by intros; assumption⟩
              · have g0 : vs 1 = .pointer (some ⟨w.heap.size, 3, none⟩) := hd 1 (by decide) (by kernel_rfl)
                have hc := (S6.out.mono hy).cell 3 _ rfl
                (simp only [opens]; try simp only [Nat.reduceAdd])
                rw [g0]
                go_wp2_with fail
                exact ⟨_, rfl, hy, rfl, by intros; assumption⟩
              · have g0 : vs 0 = .slice none 0 0 := hd 0 (by decide) (by kernel_rfl)
                have g2 : vs 2 = .slice xo c.outputs.length xp := hd 2 (by decide) (by kernel_rfl)
                (simp only [opens]; try simp only [Nat.reduceAdd])
                rw [g0, g2]
                refine app_cells (n := 0) (m := c.outputs.length) rfl _ _ 22 rfl 3 1 8 _ Try.underlying22 infoI rfl (by decide) (B := X6.heap.size) rfl (World.ownsRow_nil _ _ _ _) hy (Nat.le_refl _) hy.size rfl (HPx.out.outputs.mono hy).1 (int_one _) (by omega) (by omega) ?_
                intro v3 w3 hown3 hb3 hbs3 hgr3
                rw [Nat.zero_add, List.nil_append] at hown3
                have hgr3 : y.grownBy w3 none := hgr3
                refine ⟨v3, rfl, hb3, hown3, fun j hj hne hk hf => ?_⟩
                have hjj : j = 0 ∨ j = 1 ∨ j = 2 ∨ j = 4 ∨ j = 5 ∨ j = 6 ∨ j = 7 ∨ j = 8 := by omega
                rcases hjj with rfl | rfl | rfl | rfl | rfl | rfl | rfl | rfl
                · exact hf
                · exact hf
                · exact hf
                · exact hf
                · exact hf
                · exact World.ownsRow.kept (show y.ownsRow X6.heap.size 3 1 (vs 6) (c.outputs.length + c.bads.length) (c.outputs.map (Value.int .i64) ++ c.bads.map (Value.int .i64)) from hf) hgr3 (by cases (vs 6).ownBlock <;> simp)
                · exact hf
                · exact hf
              · (simp only [opens]; try simp only [Nat.reduceAdd])
                go_wp2_with fail
                exact ⟨_, rfl, hy, rfl, by intros; assumption⟩
              · have g0 : vs 4 = .pointer (some ⟨w.heap.size, 4, none⟩) := hd 4 (by decide) (by kernel_rfl)
                have hc := (S6.out.mono hy).cell 4 _ rfl
                (simp only [opens]; try simp only [Nat.reduceAdd])
                rw [g0]
                go_wp2_with fail
                exact ⟨_, rfl, hy, rfl, by intros; assumption⟩
              · have g0 : y.ownsRow X6.heap.size 3 1 (vs 3) c.outputs.length (c.outputs.map (Value.int .i64)) := hd 3 (by decide) (by kernel_rfl)
                have g2 : vs 5 = .slice xb c.bads.length xc := hd 5 (by decide) (by kernel_rfl)
                (simp only [opens]; try simp only [Nat.reduceAdd])
                rw [g2]
                refine app_cells (n := c.outputs.length) (m := c.bads.length) rfl _ _ 22 rfl 3 1 8 _ Try.underlying22 infoI rfl (by decide) (B := X6.heap.size) rfl g0 hy (Nat.le_refl _) hy.size rfl (HPx.out.bads.mono hy).1 (int_one _) (by omega) (by omega) ?_
                intro v3 w3 hown3 hb3 hbs3 hgr3
                refine ⟨v3, rfl, hb3, hown3, fun j hj hne hk hf => ?_⟩
                have hj3 : j ≠ 3 := by rintro rfl; simp at hk
                have hjj : j = 0 ∨ j = 1 ∨ j = 2 ∨ j = 4 ∨ j = 5 ∨ j = 7 ∨ j = 8 := by omega
                rcases hjj with rfl | rfl | rfl | rfl | rfl | rfl | rfl <;> exact hf
              · (simp only [opens]; try simp only [Nat.reduceAdd])
                go_wp2_with fail
                exact ⟨_, rfl, hy, rfl, by intros; assumption⟩
              · have g0 : vs 7 = .pointer (some ⟨w.heap.size, 5, none⟩) := hd 7 (by decide) (by kernel_rfl)
                have hc := (S6.out.mono hy).cell 5 _ rfl
                (simp only [opens]; try simp only [Nat.reduceAdd])
                rw [g0]
                go_wp2_with fail
                exact ⟨_, rfl, hy, rfl, by intros; assumption⟩
            · intro vs y hy hd
              have g0 : y.ownsRow X6.heap.size 3 1 (vs 6) (c.outputs.length + c.bads.length) (c.outputs.map (Value.int .i64) ++ c.bads.map (Value.int .i64)) := hd 6 (by decide) (fun i hi => by simp)
              have g2 : vs 8 = .slice xv c.invars.length xw := hd 8 (by decide) (fun i hi => by simp)
              (simp only [opens]; try simp only [Nat.reduceAdd])
              rw [g2]
              generalize vs 6 = v6 at *
              refine app_cells (n := c.outputs.length + c.bads.length) (m := c.invars.length) rfl _ _ 22 rfl 3 1 8 _ Try.underlying22 infoI rfl (by decide) (B := X6.heap.size) rfl g0 hy (Nat.le_refl _) hy.size rfl (HPx.out.invars.mono hy).1 (int_one _) (by omega) (by omega) ?_
              intro u w6 hown hby _ _
              have hInt : Ints w6 u (PA.told c) := ⟨by
                have := Cells.of_owns hown
                rw [← List.map_append, ← List.map_append, show c.outputs.length + c.bads.length + c.invars.length = (PA.told c).length by simp [PA.told]; omega] at this
                exact this, fun x hx => by have := PA.told_rng HR.out x hx; unfold rng; omega⟩
              have hTL : (PA.told c).length ≤ 192 := by unfold PA.told; simp only [List.length_append]; omega
              have HInt := Lib.hid hInt
              obtain ⟨to_, tcap, rfl, t1, t2, t3⟩ := hInt.open_
              clear t3 hown g0 g2 hd hy
              generalize PA.told c = TL at *
              have HB7 := Lib.hid (Below.of HB6.out hby)
              have S7 := Lib.hid (S6.out.mono hby)
              have HOC7 := Lib.hid (HOC6.out.mono hby)
              clear hby HB6 S6 HOC6 HPx
              go_wp2_with fail
              go_loopg [6, 10] TL.length (fun gg s6 s10 wr => ∃ (k : Nat) (S : List UInt8), k ≤ TL.length ∧ TL.length - k ≤ gg ∧ s10 = .int .i64 k ∧ s6 = .string ⟨S.toArray⟩ ∧ Hid (Below w6.heap.size w6 wr) ∧ Hid (S ++ ((TL.drop k).flatMap PA.oneT ++ PA.text3 c) = T))
              case atStart => exact ⟨0, S, Nat.zero_le _, by omega, rfl, rfl, Below.refl _ _, by rw [List.drop_zero]; exact hS6⟩
              case round =>
                clear hS6 hSl
                obtain ⟨k, S, hk, hg, rfl, rfl, hbr, hS⟩ := hrel
                have hSl := pre_len hS.out HTL.out
                by_cases hlt : k < TL.length
                · obtain ⟨b', off, rfl, hbs, hr0, c0⟩ := HInt.out.at_ k hlt
                  have c0 := (hbr.out.cell hbs).trans c0
                  have hmea : ∀ g : Nat, TL.length - k ≤ g → TL.length - (k + 1) < g := fun g h => by omega
                  have hltz : (k : Int) < (TL.length : Int) := by omega
                  have hdl := PA.decI_len TL[k] hr0.1 hr0.2
                  have hdr : (TL.drop k).flatMap PA.oneT = (P01.decI TL[k] ++ [10]) ++ (TL.drop (k + 1)).flatMap PA.oneT := by
                    rw [List.drop_eq_getElem_cons hlt, List.flatMap_cons, ← PA.lineT_one]
                    rfl
                  have hP := Lib.hid (r01Print_any TL[k] wr hr0.1 hr0.2)
                  generalize TL[k] = xn at *
                  generalize P01.decI xn = D at *
                  obtain ⟨M1, hM1⟩ : ∃ M, M = S ++ D := ⟨_, rfl⟩
                  have kM1 : (⟨List.toArray S⟩ : ByteArray) ++ ⟨List.toArray D⟩ = ⟨List.toArray M1⟩ := by rw [hM1]; exact cat_eq _ _
                  have lM1 : M1.length = S.length + D.length := by rw [hM1]; simp only [List.length_append]
                  have mM1 : ¬ 9223372036854775807 < S.length + D.length := by omega
                  obtain ⟨M2, hM2⟩ : ∃ M, M = M1 ++ [10] := ⟨_, rfl⟩
                  have kM2 : (⟨List.toArray M1⟩ : ByteArray) ++ ⟨#[10]⟩ = ⟨List.toArray M2⟩ := by rw [hM2]; exact cat_eq M1 [10]
                  have lM2 : M2.length = M1.length + 1 := by rw [hM2]; simp only [List.length_append, List.length_cons, List.length_nil]
                  have mM2 : ¬ 9223372036854775807 < M1.length + 1 := by omega
                  have hS2 : Hid (M2 ++ ((TL.drop (k + 1)).flatMap PA.oneT ++ PA.text3 c) = T) := by
                    show _ = _
                    rw [← hS.out, hdr, hM2, hM1]
                    simp only [List.append_assoc]
                  clear hdr hM1 hM2 hr0
                  go_wp2_with (go_at_call 8; refine hP.out.mono ?_; rintro e w5 ⟨rfl, hb5⟩)
                  have hb6 : Hid (Below w6.heap.size w6 w5) := Below.of hbr.out hb5
                  go_roundg (TL.length - (k + 1))
                  case measure => exact hmea _ hg
                  case rel => exact ⟨k + 1, M2, by omega, by omega, by go_num, rfl, hb6, hS2⟩
                · have hltz : ¬ (k : Int) < (TL.length : Int) := by omega
                  obtain rfl : k = TL.length := by omega
                  rw [List.drop_length, List.flatMap_nil, List.nil_append] at hS
                  have HB8 := Lib.hid (Below.of HB7.out hbr.out)
                  have S8 := Lib.hid (S7.out.mono hbr.out)
                  have HOC8 := Lib.hid (HOC7.out.mono hbr.out)
                  obtain ⟨X8, hX8⟩ : ∃ X, X = wr := ⟨_, rfl⟩
                  subst hX8
                  have hS8 : Hid (S ++ (c.ands.flatMap PA.gatT ++ PA.text4 c) = T) := hS.out
                  clear hk hg hlt hbr hS HB7 S7 HOC7
                  go_wp2_with fail
                  go_loopg [6, 11] c.ands.length (fun gg s6 s11 wr => ∃ (k : Nat) (S : List UInt8), k ≤ c.ands.length ∧ c.ands.length - k ≤ gg ∧ s11 = .int .i64 k ∧ s6 = .string ⟨S.toArray⟩ ∧ Hid (Below X8.heap.size X8 wr) ∧ Hid (S ++ ((c.ands.drop k).flatMap PA.gatT ++ PA.text4 c) = T))
                  case atStart => exact ⟨0, S, Nat.zero_le _, by omega, rfl, rfl, Below.refl _ _, by rw [List.drop_zero]; exact hS8⟩
                  case round =>
                    clear hS8 hSl
                    obtain ⟨k, S, hk, hg, rfl, rfl, hbr, hS⟩ := hrel
                    have hSl := pre_len hS.out HTL.out
                    have q6 := (S8.out.mono hbr.out).cell 6 _ rfl
                    by_cases hlt : k < c.ands.length
                    · obtain ⟨b', off, rfl, hbs, ⟨hr0, hr1, hr2⟩, c0, c1, c2⟩ := HP.out.ands.at_ k hlt
                      have hBw := Below.of HB8.out hbr.out
                      obtain ⟨Q, hQ⟩ : ∃ Q, Q = wr := ⟨_, rfl⟩
                      subst hQ
                      have l0 : ∀ x : Later Q, _ := fun x => ((Below.of hBw x.below).cell hbs).trans c0
                      have l1 : ∀ x : Later Q, _ := fun x => ((Below.of hBw x.below).cell hbs).trans c1
                      have l2 : ∀ x : Later Q, _ := fun x => ((Below.of hBw x.below).cell hbs).trans c2
                      have hmea : ∀ g : Nat, c.ands.length - k ≤ g → c.ands.length - (k + 1) < g := fun g h => by omega
                      have hltz : (k : Int) < (c.ands.length : Int) := by omega
                      have hrg := PA.gat_rng HORD.out (List.getElem_mem hlt)
                      have hdr : (c.ands.drop k).flatMap PA.gatT = (PA.grp (c.ands[k].lit - c.ands[k].left).toNat ++ PA.grp (c.ands[k].left - c.ands[k].right).toNat) ++ (c.ands.drop (k + 1)).flatMap PA.gatT := by
                        rw [List.drop_eq_getElem_cons hlt, List.flatMap_cons]
                        rfl
                      clear c0 c1 c2 hr0 hr1 hr2
                      generalize c.ands[k].lit = x at *
                      generalize c.ands[k].left = xl' at *
                      generalize c.ands[k].right = xr' at *
                      obtain ⟨g1, g2, g3, g4, g5, g6, g7, g8⟩ := hrg
                      have gl1 := PA.grp_len (x - xl').toNat (by omega)
                      have gl2 := PA.grp_len (xl' - xr').toNat (by omega)
                      have hG1 : ∀ y, _ := fun y => group05_any (x - xl').toNat y (by omega)
                      have hG2 : ∀ y, _ := fun y => group05_any (xl' - xr').toNat y (by omega)
                      rw [Int.toNat_of_nonneg g1] at hG1
                      rw [Int.toNat_of_nonneg g3] at hG2
                      generalize PA.grp (x - xl').toNat = G1 at *
                      generalize PA.grp (xl' - xr').toNat = G2 at *
                      have hP1 : ∀ z : Later Q, _ := fun z => hG1 z.at_
                      have hP2 : ∀ z : Later Q, _ := fun z => hG2 z.at_
                      have e1 : IntKind.i64.wrap (x - xl') = x - xl' := IntWalk.i64_in _ (by omega)
                      have e2 : IntKind.i64.wrap (xl' - xr') = xl' - xr' := IntWalk.i64_in _ (by omega)
                      obtain ⟨M1, hM1⟩ : ∃ M, M = S ++ G1 := ⟨_, rfl⟩
                      have kM1 : (⟨List.toArray S⟩ : ByteArray) ++ ⟨List.toArray G1⟩ = ⟨List.toArray M1⟩ := by rw [hM1]; exact cat_eq _ _
                      have lM1 : M1.length = S.length + G1.length := by rw [hM1]; simp only [List.length_append]
                      have mM1 : ¬ 9223372036854775807 < S.length + G1.length := by omega
                      obtain ⟨M2, hM2⟩ : ∃ M, M = M1 ++ G2 := ⟨_, rfl⟩
                      have kM2 : (⟨List.toArray M1⟩ : ByteArray) ++ ⟨List.toArray G2⟩ = ⟨List.toArray M2⟩ := by rw [hM2]; exact cat_eq _ _
                      have lM2 : M2.length = M1.length + G2.length := by rw [hM2]; simp only [List.length_append]
                      have mM2 : ¬ 9223372036854775807 < M1.length + G2.length := by omega
                      have hS2 : Hid (M2 ++ ((c.ands.drop (k + 1)).flatMap PA.gatT ++ PA.text4 c) = T) := by
                        show _ = _
                        rw [← hS.out, hdr, hM2, hM1]
                        simp only [List.append_assoc]
                      have n0 : ∀ x : Later Q, _ := fun x => ((S8.out.mono hbr.out).mono x.below).cell 0 _ rfl
                      have n1 : ∀ x : Later Q, _ := fun x => ((S8.out.mono hbr.out).mono x.below).cell 1 _ rfl
                      have n2 : ∀ x : Later Q, _ := fun x => ((S8.out.mono hbr.out).mono x.below).cell 2 _ rfl
                      have n3 : ∀ x : Later Q, _ := fun x => ((S8.out.mono hbr.out).mono x.below).cell 3 _ rfl
                      have n4 : ∀ x : Later Q, _ := fun x => ((S8.out.mono hbr.out).mono x.below).cell 4 _ rfl
                      have n5 : ∀ x : Later Q, _ := fun x => ((S8.out.mono hbr.out).mono x.below).cell 5 _ rfl
                      have n6 : ∀ x : Later Q, _ := fun x => ((S8.out.mono hbr.out).mono x.below).cell 6 _ rfl
                      have n7 : ∀ x : Later Q, _ := fun x => ((S8.out.mono hbr.out).mono x.below).cell 7 _ rfl
                      clear hdr hM1 hM2 hG1 hG2 hBw
                      go_wp2_with fail
                      refine wp_region_later (by kernel_rfl) (by kernel_rfl) ?_; (repeat (go_big_quiet_step ((first | (go_at_call 9; with_reducible exact Calls.later (hP1 _)) | (go_at_call 9; with_reducible exact Calls.later (hP2 _)))))); refine wpQuiet_nil ?_; rintro w3 ⟨⟨_, hb3⟩, rfl⟩
                      have hb6 : Hid (Below X8.heap.size X8 w3) := Below.of hbr.out hb3
                      clear l0 l1 l2 n0 n1 n2 n3 n4 n5 n6 n7 hP1 hP2
                      go_wp2_with fail
                      go_roundg (c.ands.length - (k + 1))
                      case measure => exact hmea _ hg
                      case rel => exact ⟨k + 1, M2, by omega, by omega, by go_num, rfl, hb6, hS2⟩
                    · have hltz : ¬ (k : Int) < (c.ands.length : Int) := by omega
                      obtain rfl : k = c.ands.length := by omega
                      rw [List.drop_length, List.flatMap_nil, List.nil_append] at hS
                      have HB9 := Lib.hid (Below.of HB8.out hbr.out)
                      have S9 := Lib.hid (S8.out.mono hbr.out)
                      have HOC9 := Lib.hid (HOC8.out.mono hbr.out)
                      have hnl := (PA.names_ok HCK.out).1
                      obtain ⟨X9, hX9⟩ : ∃ X, X = wr := ⟨_, rfl⟩
                      subst hX9
                      have hS9 : Hid (S ++ (c.names.flatMap PA.namT ++ []) = T) := by rw [List.append_nil]; exact hS.out
                      clear hk hg hlt hbr hS HB8 S8 HOC8
                      go_wp2_with fail
                      clear q6
                      go_loopg [6, 12] c.names.length (fun gg s6 s12 wr => ∃ (k : Nat) (S : List UInt8), k ≤ c.names.length ∧ c.names.length - k ≤ gg ∧ s12 = .int .i64 k ∧ s6 = .string ⟨S.toArray⟩ ∧ Hid (Below X9.heap.size X9 wr) ∧ Hid (S ++ ((c.names.drop k).flatMap PA.namT ++ []) = T))
                      case atStart => exact ⟨0, S, Nat.zero_le _, by omega, rfl, rfl, Below.refl _ _, by rw [List.drop_zero]; exact hS9⟩
                      case round =>
                        clear hS9 hSl
                        obtain ⟨k, S, hk, hg, rfl, rfl, hbr, hS⟩ := hrel
                        have hSl := pre_len hS.out HTL.out
                        have q7' := (S9.out.mono hbr.out).cell 7 _ rfl
                        by_cases hlt : k < c.names.length
                        · obtain ⟨b', off, rfl, hbs, ⟨hr0, hr1, hr2⟩, c0, c1, c2⟩ := HP.out.names.at_ k hlt
                          have hBw := Below.of HB9.out hbr.out
                          obtain ⟨Q, hQ⟩ : ∃ Q, Q = wr := ⟨_, rfl⟩
                          subst hQ
                          have l0 : ∀ x : Later Q, _ := fun x => ((Below.of hBw x.below).cell hbs).trans c0
                          have l1 : ∀ x : Later Q, _ := fun x => ((Below.of hBw x.below).cell hbs).trans c1
                          have l2 : ∀ x : Later Q, _ := fun x => ((Below.of hBw x.below).cell hbs).trans c2
                          have hmea : ∀ g : Nat, c.names.length - k ≤ g → c.names.length - (k + 1) < g := fun g h => by omega
                          have hltz : (k : Int) < (c.names.length : Int) := by omega
                          have hnt := PA.namT_len HCK.out ((PA.names_ok HCK.out).2 _ (List.getElem_mem hlt))
                          have hdr : (c.names.drop k).flatMap PA.namT = (c.names[k].kind ++ P01.decI c.names[k].at_ ++ [32] ++ c.names[k].text ++ [10]) ++ (c.names.drop (k + 1)).flatMap PA.namT := by
                            rw [List.drop_eq_getElem_cons hlt, List.flatMap_cons]
                            rfl
                          have hdl := PA.decI_len c.names[k].at_ hr0.1 hr0.2
                          have hPr := fun y => r01Print_any c.names[k].at_ y hr0.1 hr0.2
                          unfold PA.namT at hnt
                          simp only [List.length_append, List.length_cons, List.length_nil] at hnt
                          clear c0 c1 c2 hr0 hr1 hr2
                          generalize c.names[k].kind = nk at *
                          generalize c.names[k].at_ = na at *
                          generalize c.names[k].text = nt at *
                          generalize P01.decI na = D at *
                          have hP1 : ∀ z : Later Q, _ := fun z => hPr z.at_
                          obtain ⟨M1, hM1⟩ : ∃ M, M = S ++ nk := ⟨_, rfl⟩
                          have kM1 : (⟨List.toArray S⟩ : ByteArray) ++ ⟨List.toArray nk⟩ = ⟨List.toArray M1⟩ := by rw [hM1]; exact cat_eq _ _
                          have lM1 : M1.length = S.length + nk.length := by rw [hM1]; simp only [List.length_append]
                          have mM1 : ¬ 9223372036854775807 < S.length + nk.length := by omega
                          obtain ⟨M2, hM2⟩ : ∃ M, M = M1 ++ D := ⟨_, rfl⟩
                          have kM2 : (⟨List.toArray M1⟩ : ByteArray) ++ ⟨List.toArray D⟩ = ⟨List.toArray M2⟩ := by rw [hM2]; exact cat_eq _ _
                          have lM2 : M2.length = M1.length + D.length := by rw [hM2]; simp only [List.length_append]
                          have mM2 : ¬ 9223372036854775807 < M1.length + D.length := by omega
                          obtain ⟨M3, hM3⟩ : ∃ M, M = M2 ++ [32] := ⟨_, rfl⟩
                          have kM3 : (⟨List.toArray M2⟩ : ByteArray) ++ ⟨#[32]⟩ = ⟨List.toArray M3⟩ := by rw [hM3]; exact cat_eq M2 [32]
                          have lM3 : M3.length = M2.length + 1 := by rw [hM3]; simp only [List.length_append, List.length_cons, List.length_nil]
                          have mM3 : ¬ 9223372036854775807 < M2.length + 1 := by omega
                          obtain ⟨M4, hM4⟩ : ∃ M, M = M3 ++ nt := ⟨_, rfl⟩
                          have kM4 : (⟨List.toArray M3⟩ : ByteArray) ++ ⟨List.toArray nt⟩ = ⟨List.toArray M4⟩ := by rw [hM4]; exact cat_eq _ _
                          have lM4 : M4.length = M3.length + nt.length := by rw [hM4]; simp only [List.length_append]
                          have mM4 : ¬ 9223372036854775807 < M3.length + nt.length := by omega
                          obtain ⟨M5, hM5⟩ : ∃ M, M = M4 ++ [10] := ⟨_, rfl⟩
                          have kM5 : (⟨List.toArray M4⟩ : ByteArray) ++ ⟨#[10]⟩ = ⟨List.toArray M5⟩ := by rw [hM5]; exact cat_eq M4 [10]
                          have lM5 : M5.length = M4.length + 1 := by rw [hM5]; simp only [List.length_append, List.length_cons, List.length_nil]
                          have mM5 : ¬ 9223372036854775807 < M4.length + 1 := by omega
                          have hS2 : Hid (M5 ++ ((c.names.drop (k + 1)).flatMap PA.namT ++ []) = T) := by
                            show _ = _
                            rw [← hS.out, hdr, hM5, hM4, hM3, hM2, hM1]
                            simp only [List.append_assoc]
                          have n0 : ∀ x : Later Q, _ := fun x => ((S9.out.mono hbr.out).mono x.below).cell 0 _ rfl
                          have n1 : ∀ x : Later Q, _ := fun x => ((S9.out.mono hbr.out).mono x.below).cell 1 _ rfl
                          have n2 : ∀ x : Later Q, _ := fun x => ((S9.out.mono hbr.out).mono x.below).cell 2 _ rfl
                          have n3 : ∀ x : Later Q, _ := fun x => ((S9.out.mono hbr.out).mono x.below).cell 3 _ rfl
                          have n4 : ∀ x : Later Q, _ := fun x => ((S9.out.mono hbr.out).mono x.below).cell 4 _ rfl
                          have n5 : ∀ x : Later Q, _ := fun x => ((S9.out.mono hbr.out).mono x.below).cell 5 _ rfl
                          have n6 : ∀ x : Later Q, _ := fun x => ((S9.out.mono hbr.out).mono x.below).cell 6 _ rfl
                          have n7 : ∀ x : Later Q, _ := fun x => ((S9.out.mono hbr.out).mono x.below).cell 7 _ rfl
                          clear hdr hM1 hM2 hM3 hM4 hM5 hPr hBw hnt
                          go_wp2_with fail
                          clear q7'
                          refine wp_region_later (by kernel_rfl) (by kernel_rfl) ?_; (repeat (go_big_quiet_step ((go_at_call 8; with_reducible exact Calls.later (hP1 _))))); refine wpQuiet_nil ?_; rintro w3 ⟨⟨_, hb3⟩, rfl⟩
                          have hb6 : Hid (Below X9.heap.size X9 w3) := Below.of hbr.out hb3
                          clear l0 l1 l2 n0 n1 n2 n3 n4 n5 n6 n7 hP1
                          clear kM1 kM2 kM3 kM4 kM5
                          go_wp2_with fail
                          go_roundg (c.names.length - (k + 1))
                          case measure => exact hmea _ hg
                          case rel => exact ⟨k + 1, M5, by omega, by omega, by go_num, rfl, hb6, hS2⟩
                        · have hltz : ¬ (k : Int) < (c.names.length : Int) := by omega
                          obtain rfl : k = c.names.length := by omega
                          rw [List.drop_length, List.flatMap_nil, List.nil_append, List.append_nil] at hS
                          obtain rfl := hS.out
                          have hbk := (HOC9.out.mono hbr.out).back
                          have HB10 := Lib.hid (Below.of HB9.out hbr.out)
                          clear hk hg hlt hbr hS HB9 S9 HOC9
                          go_wp2_with fail
                          go_ret
                          exact ⟨by first | rfl | simp, HB10.out⟩

end Go.Proofs.Ytjcaejdokillgaa
