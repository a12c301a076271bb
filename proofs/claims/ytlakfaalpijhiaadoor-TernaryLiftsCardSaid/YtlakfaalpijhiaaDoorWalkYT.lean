/- Contract: the page's Widen; the walk of TernaryLifts. -/
import Derived.Test.YtlakfaalpijhiaaDoorWalkYS
import Derived.Test.YtlakfaalpijhiaaDoorWalkYR
import Derived.Test.YtlakfaalpijhiaaDoorWalkY5
namespace Go.Proofs.YtlakfaalpijhiaaDoor
open Go.RowKit Go.Shelf
attribute [local simp] mk_get

set_option maxRecDepth 100000 in
set_option maxHeartbeats 8000000 in
theorem rWiden_any (c : PC.Circ) (vc : Value) (most : Int) (w : World) (h : IsCirc w vc c) (hf : Fits c) :
    Calls Tryd.prog 25 #[vc, .int .i64 most] w fun e w' => e = .returned (.tuple #[.string ⟨(PC.widL c most).toArray⟩, .int .i64 (PC.widM c most), .int .i64 (PC.widE c most)]) ∧ Below w.heap.size w w' := by
  have hCk := Lib.hid fun w1 (hb : Below w.heap.size w w1) => rCheck_any c vc w1 (h.mono hb) hf
  have hTe := Lib.hid fun s i w1 (hb : Below w.heap.size w w1) => rTernary_any c vc s i w1 (h.mono hb) hf
  clear hf
  obtain ⟨vi, vl, vo, vb, vv, va, vn, rfl, hp, hm⟩ := h
  obtain ⟨ai, capi, rfl, hi1, hi2, _⟩ := hp.inputs.open_
  obtain ⟨al, capl, rfl, hl1, hl2, hl3⟩ := hp.latches.open_
  have HL := Lib.hid hl3
  clear hp hl3
  have hb0 := Lib.hid ((Below.refl w.heap.size w).alloc (Nat.le_refl _) (.cells #[.int .i64 c.max, .slice ai c.inputs.length capi, .slice al c.latches.length capl, vo, vb, vv, va, vn] 27))
  have hbx0 := Lib.hid (Box8.new w (.int .i64 c.max) (.slice ai c.inputs.length capi) (.slice al c.latches.length capl) vo vb vv va vn 27)
  obtain ⟨q0, q1, q2, q3, q4, q5, q6, q7⟩ := hbx0.out
  cases hck : PC.chk c with
  | false =>
    have h0 := PC.widE_false most hck
    have e1 : PC.widL c most = [] := by rw [PC.widL, h0]; rfl
    have e2 : PC.widM c most = 0 := by rw [PC.widM, h0]; rfl
    rw [e1, e2, h0]
    rw [hck] at hCk
    clear h0 e1 e2 hck
    go_enter Tryd.func25, Tryd.ntmps25
    go_wp2_with fail
    refine (hCk.out _ hb0.out).mono ?_
    rintro e w1 ⟨rfl, hb1⟩
    go_wp2_with fail
    go_ret3
    exact ⟨rfl, Below.of hb0.out hb1⟩
  | true =>
    by_cases hm : most < 0 ∨ 80 < most
    · have h0 := PC.widE_off hck hm
      have e1 : PC.widL c most = [] := by rw [PC.widL, h0]; rfl
      have e2 : PC.widM c most = 0 := by rw [PC.widM, h0]; rfl
      rw [e1, e2, h0]
      rw [hck] at hCk
      clear h0 e1 e2 hck
      go_enter Tryd.func25, Tryd.ntmps25
      go_wp2_with fail
      refine (hCk.out _ hb0.out).mono ?_
      rintro e w1 ⟨rfl, hb1⟩
      by_cases h1 : most < 0
      · have hd1 : decide (most < 0) = true := decide_eq_true h1
        go_wp2_with fail
        go_ret3
        exact ⟨rfl, Below.of hb0.out hb1⟩
      · have hd1 : decide (most < 0) = false := decide_eq_false h1
        have hd2 : decide ((80 : Int) < most) = true := decide_eq_true (by omega)
        clear h1
        go_wp2_with fail
        go_ret3
        exact ⟨rfl, Below.of hb0.out hb1⟩
    · have h0 := PC.widE_on hck hm
      obtain ⟨n, rfl⟩ : ∃ n : Nat, most = n := ⟨most.toNat, by omega⟩
      have hn80 : n ≤ 80 := by omega
      obtain ⟨RS, hRS⟩ : ∃ x, x = PC.widS c (PC.widN c n) := ⟨_, rfl⟩
      obtain ⟨RN, hRN⟩ : ∃ x : Int, x = (PC.widN c n : Int) := ⟨_, rfl⟩
      have e1 : PC.widL c (n : Int) = RS := by rw [PC.widL, h0, if_pos rfl, Int.toNat_natCast, hRS]
      have e2 : PC.widM c (n : Int) = RN := by rw [PC.widM, h0, if_pos rfl, Int.toNat_natCast, hRN]
      rw [e1, e2, h0]
      have HRS := Lib.hid hRS
      have HRN := Lib.hid hRN
      rw [hck] at hCk
      have hRt := Lib.hid (PC.right_of c hck)
      have HCK := Lib.hid hck
      clear hRS hRN e1 e2 h0 hck hm
      have hd1 : decide ((n : Int) < 0) = false := decide_eq_false (by omega)
      have hd2 : decide ((80 : Int) < (n : Int)) = false := decide_eq_false (by omega)
      have hll := hRt.out.lats
      have hil := hRt.out.ins
      go_enter Tryd.func25, Tryd.ntmps25
      go_wp2_with fail
      refine (hCk.out _ hb0.out).mono ?_
      rintro e w1 ⟨rfl, hb1⟩
      have hbA := Lib.hid (Below.of hb0.out hb1)
      have hbx1 := Lib.hid (hbx0.out.mono hb1)
      obtain ⟨W1, hW1⟩ : ∃ W, W = w1 := ⟨_, rfl⟩
      subst hW1
      clear hb0 hb1 hbx0 hCk q0 q1 q2 q3 q4 q5 q6 q7
      have hf0 : (PC.fstT c).take 0 = [] := rfl
      go_wp2_with fail
      go_loopg [7, 9] c.latches.length (fun gg s7 s9 wr => ∃ k : Nat, k ≤ c.latches.length ∧ c.latches.length - k ≤ gg ∧ s7 = .string ⟨((PC.fstT c).take k).toArray⟩ ∧ s9 = .int .i64 k ∧ Below W1.heap.size W1 wr)
      case atStart => exact ⟨0, Nat.zero_le _, by omega, rfl, rfl, Below.refl _ _⟩
      case round =>
        obtain ⟨k, hk, hg, rfl, rfl, hbr⟩ := hrel
        have hbWr := Lib.hid (Below.of hbA.out hbr)
        have hbxr := Lib.hid (hbx1.out.mono hbr)
        obtain ⟨q0, q1, q2, q3, q4, q5, q6, q7⟩ := hbxr.out
        by_cases hlt : k < c.latches.length
        · have hmea : Hid (∀ g : Nat, c.latches.length - k ≤ g → c.latches.length - (k + 1) < g) := fun g h => by omega
          have HG := Lib.hid hg
          obtain ⟨b, off, rfl, hbs', _, c0, c1, c2⟩ := HL.out k hlt
          have d0 := (hbWr.out.cell hbs').trans c0
          have d1 := (hbWr.out.cell hbs').trans c1
          have d2 := (hbWr.out.cell hbs').trans c2
          have hfl : k < (PC.fstT c).length := by rw [PC.fst_length]; exact hlt
          have hfg := PC.fst_get c k hlt
          have hcat : ∀ y : UInt8, (PC.fstT c)[k] = y → (ByteArray.mk ((PC.fstT c).take k).toArray) ++ (ByteArray.mk #[y]) = ⟨((PC.fstT c).take (k + 1)).toArray⟩ := fun y h => by rw [PC.take_next k hfl, h]; exact cat_eq _ [_]
          have htl : ((PC.fstT c).take k).length = k := by rw [List.length_take]; omega
          have hk1 : k + 1 ≤ 9223372036854775807 := by omega
          have hk2 : (k : Int) + 1 ≤ 9223372036854775807 := by omega
          have hltz : (k : Int) < (c.latches.length : Int) := by omega
          generalize hx : c.latches[k] = x at *
          clear hx c0 c1 c2 hg
          obtain ⟨x, xn, xr⟩ := x
          simp only at d0 d1 d2 hfg
          have hbel : Hid (∀ o, Below W1.heap.size W1 (wr.alloc o)) := fun o => hbr.alloc hbr.size o
          by_cases h1 : xr = x
          · have e1 : (xr == x) = true := by simp [h1]
            have hy : (PC.fstT c)[k] = 120 := by rw [hfg, if_pos h1]
            clear hfg h1
            have hcat2 := hcat _ hy
            clear hy hcat
            obtain ⟨X, hX⟩ : ∃ X, X = (PC.fstT c).take k := ⟨_, rfl⟩
            obtain ⟨Y, hY⟩ : ∃ Y, Y = (PC.fstT c).take (k + 1) := ⟨_, rfl⟩
            rw [← hX, ← hY] at hcat2
            rw [← hX] at htl ⊢
            have HY := Lib.hid hY
            clear hX hY
            go_wp2_with fail
            go_roundg (c.latches.length - (k + 1))
            case measure => exact hmea.out _ HG.out
            case rel => exact ⟨k + 1, by omega, by omega, by rw [HY.out], by go_num, hbel.out _⟩
          · have e1 : (xr == x) = false := by simpa using h1
            by_cases h2 : xr = 1
            · have hy : (PC.fstT c)[k] = 49 := by rw [hfg, if_neg h1, if_pos h2]
              have e2 : (xr == 1) = true := by simp [h2]
              clear hfg h2 h1
              have hcat2 := hcat _ hy
              clear hy hcat
              obtain ⟨X, hX⟩ : ∃ X, X = (PC.fstT c).take k := ⟨_, rfl⟩
              obtain ⟨Y, hY⟩ : ∃ Y, Y = (PC.fstT c).take (k + 1) := ⟨_, rfl⟩
              rw [← hX, ← hY] at hcat2
              rw [← hX] at htl ⊢
              have HY := Lib.hid hY
              clear hX hY
              go_wp2_with fail
              go_roundg (c.latches.length - (k + 1))
              case measure => exact hmea.out _ HG.out
              case rel => exact ⟨k + 1, by omega, by omega, by rw [HY.out], by go_num, hbel.out _⟩
            · have hy : (PC.fstT c)[k] = 48 := by rw [hfg, if_neg h1, if_neg h2]
              have e2 : (xr == 1) = false := by simpa using h2
              clear hfg h2 h1
              have hcat2 := hcat _ hy
              clear hy hcat
              obtain ⟨X, hX⟩ : ∃ X, X = (PC.fstT c).take k := ⟨_, rfl⟩
              obtain ⟨Y, hY⟩ : ∃ Y, Y = (PC.fstT c).take (k + 1) := ⟨_, rfl⟩
              rw [← hX, ← hY] at hcat2
              rw [← hX] at htl ⊢
              have HY := Lib.hid hY
              clear hX hY
              go_wp2_with fail
              go_roundg (c.latches.length - (k + 1))
              case measure => exact hmea.out _ HG.out
              case rel => exact ⟨k + 1, by omega, by omega, by rw [HY.out], by go_num, hbel.out _⟩
        · have hltz : ¬ (k : Int) < (c.latches.length : Int) := by omega
          obtain rfl : k = c.latches.length := by omega
          obtain ⟨V1, hV1⟩ : ∃ V, V = wr := ⟨_, rfl⟩
          subst hV1
          rw [← PC.fst_length c, List.take_length, PC.fst_length c]
          obtain ⟨F, hF⟩ : ∃ F, F = PC.fstT c := ⟨_, rfl⟩
          rw [← hF]
          have hF0 : Hid (F = PC.widS c 0) := by show _ = _; rw [hF]; rfl
          clear hF hg hk hlt hf0
          go_wp2_with fail
          clear q0 q1 q2 q3 q4 q5 q6 q7
          go_loopg [8, 11] c.inputs.length (fun gg s8 s11 wr => ∃ k : Nat, k ≤ c.inputs.length ∧ c.inputs.length - k ≤ gg ∧ s8 = .string ⟨(PC.xs k).toArray⟩ ∧ s11 = .int .i64 k ∧ V1 = wr)
          case atStart => exact ⟨0, Nat.zero_le _, by omega, rfl, rfl, rfl⟩
          case round =>
            clear hltz
            obtain ⟨k, hk, hg, rfl, rfl, rfl⟩ := hrel
            obtain ⟨q0, q1, q2, q3, q4, q5, q6, q7⟩ := hbxr.out
            by_cases hlt : k < c.inputs.length
            · have hltz : (k : Int) < (c.inputs.length : Int) := by omega
              have hmea : Hid (∀ g : Nat, c.inputs.length - k ≤ g → c.inputs.length - (k + 1) < g) := fun g h => by omega
              have HG := Lib.hid hg
              have hcat2 := xs_succ k
              have htl : (PC.xs k).length = k := by simp [PC.xs]
              have hk1 : k + 1 ≤ 9223372036854775807 := by omega
              have hk2 : (k : Int) + 1 ≤ 9223372036854775807 := by omega
              obtain ⟨X, hX⟩ : ∃ X, X = PC.xs k := ⟨_, rfl⟩
              obtain ⟨Y, hY⟩ : ∃ Y, Y = PC.xs (k + 1) := ⟨_, rfl⟩
              rw [← hX, ← hY] at hcat2
              rw [← hX] at htl ⊢
              have HY := Lib.hid hY
              clear hX hY hg
              go_wp2_with fail
              go_roundg (c.inputs.length - (k + 1))
              case measure => exact hmea.out _ HG.out
              case rel => exact ⟨k + 1, by omega, by omega, by rw [HY.out], by go_num, rfl⟩
            · have hltz : ¬ (k : Int) < (c.inputs.length : Int) := by omega
              obtain rfl : k = c.inputs.length := by omega
              obtain ⟨XB, hXB⟩ : ∃ X, X = PC.xs c.inputs.length := ⟨_, rfl⟩
              have hXl : XB.length = c.inputs.length := by rw [hXB]; simp [PC.xs]
              have hXt : PC.tritsOk XB c.inputs.length = true := by rw [hXB]; exact PC.xs_ok _
              have HXB := Lib.hid hXB
              have HXL := Lib.hid hXl
              have HXT := Lib.hid hXt
              rw [← hXB]
              clear hXB hg hk hlt hXl hXt
              go_wp2_with fail
              clear q0 q1 q2 q3 q4 q5 q6 q7 hltz
              go_loopg [7, 12] n (fun gg s7 s12 wr => ∃ k : Nat, k ≤ n ∧ n - k ≤ gg ∧ s7 = .string ⟨(PC.widS c k).toArray⟩ ∧ s12 = .int .i64 k ∧ Below V1.heap.size V1 wr ∧ Aside (∀ j, j < k → (PC.widNext c (PC.widS c j) == PC.widS c j) = false))
              case atStart => exact ⟨0, Nat.zero_le _, by omega, by rw [hF0.out], rfl, Below.refl _ _, fun j hj => absurd hj (Nat.not_lt_zero _)⟩
              case round =>
                obtain ⟨k, hk, hg, rfl, rfl, hbr3, A⟩ := hrel
                have hbR := Lib.hid (Below.of hbWr.out hbr3)
                have hbxR := Lib.hid (hbxr.out.mono hbr3)
                by_cases hlt : k < n
                · have hltz : (k : Int) < (n : Int) := by omega
                  have hmea : Hid (∀ g : Nat, n - k ≤ g → n - (k + 1) < g) := fun g h => by omega
                  have HG := Lib.hid hg
                  obtain ⟨S, hS⟩ : ∃ S, S = PC.widS c k := ⟨_, rfl⟩
                  obtain ⟨T, hT⟩ : ∃ T, T = PC.widNext c (PC.widS c k) := ⟨_, rfl⟩
                  have hSl : S.length = c.latches.length := by rw [hS]; exact PC.widS_length c k
                  have hSo : PC.tritsOk S c.latches.length = true := by rw [hS]; exact PC.widS_ok c k
                  have hnx : Hid (PC.widS c (k + 1) = T) := by show _ = _; rw [hT]; rfl
                  have hA1 : Hid ((T == S) = false → ∀ j, j < k + 1 → (PC.widNext c (PC.widS c j) == PC.widS c j) = false) := fun hn j hj => by
                    by_cases e : j = k
                    · subst e; rw [← hT, ← hS]; exact hn
                    · exact A.out j (by omega)
                  have hA0 : Hid ((T == S) = true → PC.widN c n = k) := fun hn => PC.widN_hit c n k hlt A.out (by rw [← hT, ← hS]; exact hn)
                  have hTS : T = PC.widNext c S := by rw [hT, hS]
                  rw [← hS]
                  have HS := Lib.hid hS
                  have hTe1 := Lib.hid fun w1 (hb : Below w.heap.size w w1) => hTe.out S XB w1 hb (by omega) (by rw [HXL.out]; omega)
                  have hTE : PC.ternE c S XB = 0 := by
                    unfold PC.ternE
                    rw [if_neg (by rw [HCK.out]; decide), if_neg (by rw [hSo, HXT.out]; decide)]
                  have hTR : PC.ternS c S XB = PC.tvals c S XB := by rw [PC.ternS, if_pos hTE]
                  rw [hTE, hTR] at hTe1
                  have hTvt := Lib.hid (PC.tvals_trits c S XB (PC.tritsOk_mem hSo).1 (PC.tritsOk_mem HXT.out).1)
                  have hmx := hRt.out.max1
                  have hTvl : (PC.tvals c S XB).length ≤ 9223372036854775807 := by rw [PC.tvals_length]; omega
                  have hTl : Hid (T.length = c.latches.length) := by show _ = _; rw [hTS, PC.widNext_length c S hSl]
                  have hTg : Hid (∀ (j : Nat) (h : j < c.latches.length) (h1 : j < T.length) (h2 : j < S.length), T[j] = if S[j] = PC.ofT (PC.tvals c S XB) c.latches[j].next then S[j] else 120) := fun j h h1 h2 => by
                    have := PC.widNext_get c S hSl j h
                    rw [HXB.out]
                    simp only [hTS]
                    exact this
                  have HSL := Lib.hid hSl
                  have HLT : Hid (k + 1 ≤ n) := hlt
                  clear hS hT hTS hSo hTE hTR A hg hmx hlt hSl
                  generalize PC.tvals c S XB = V at *
                  obtain ⟨q0, q1, q2, q3, q4, q5, q6, q7⟩ := hbxR.out
                  go_wp2_with fail
                  refine (hTe1.out _ hbR.out).mono ?_
                  rintro e w4 ⟨rfl, hb4⟩
                  have hbS := Lib.hid (Below.of hbR.out hb4)
                  have hbr4 := Lib.hid (Below.of hbr3 hb4)
                  have hbx4 := Lib.hid (hbxR.out.mono hb4)
                  obtain ⟨V2, hV2⟩ : ∃ V, V = w4 := ⟨_, rfl⟩
                  subst hV2
                  clear q0 q1 q2 q3 q4 q5 q6 q7 hTe1 hb4 hbr3 hltz
                  go_wp2_with fail
                  go_loopg [15, 16] c.latches.length (fun gg s15 s16 wr => ∃ i : Nat, i ≤ c.latches.length ∧ c.latches.length - i ≤ gg ∧ s15 = .string ⟨(T.take i).toArray⟩ ∧ s16 = .int .i64 i ∧ Below V2.heap.size V2 wr)
                  case atStart => exact ⟨0, Nat.zero_le _, by omega, rfl, rfl, Below.refl _ _⟩
                  case round =>
                    obtain ⟨i, hi, hgi, rfl, rfl, hbr5⟩ := hrel
                    have hbT := Lib.hid (Below.of hbS.out hbr5)
                    have hbx5 := Lib.hid (hbx4.out.mono hbr5)
                    obtain ⟨q0, q1, q2, q3, q4, q5, q6, q7⟩ := hbx5.out
                    have hSL := HSL.out
                    have hTL := hTl.out
                    by_cases hlti : i < c.latches.length
                    · have hltz : (i : Int) < (c.latches.length : Int) := by omega
                      have hltz2 : (i : Int) < (S.length : Int) := by omega
                      have hmea2 : Hid (∀ g : Nat, c.latches.length - i ≤ g → c.latches.length - (i + 1) < g) := fun g h => by omega
                      have HGI := Lib.hid hgi
                      obtain ⟨b, off, rfl, hbs', ⟨_, hnr, _⟩, c0, c1, c2⟩ := HL.out i hlti
                      have c1 := (hbT.out.cell hbs').trans c1
                      have hT1 : i < T.length := by omega
                      have hS1 : i < S.length := by omega
                      have hget := hTg.out i hlti hT1 hS1
                      have htk := PC.take_next (l := T) i hT1
                      have htl : (T.take i).length = i := by rw [List.length_take]; omega
                      have hk1 : i + 1 ≤ 9223372036854775807 := by omega
                      have hk2 : (i : Int) + 1 ≤ 9223372036854775807 := by omega
                      obtain ⟨z, hz⟩ : ∃ z, S[i] = z := ⟨_, rfl⟩
                      rw [hz] at hget
                      generalize hx : c.latches[i].next = xn at *
                      have hO := Lib.hid (rOf_any V xn wr hnr hTvl hTvt.out)
                      generalize PC.ofT V xn = y at *
                      rw [hget] at htk
                      clear hx c0 c2 hgi hget hSL hTL
                      obtain ⟨X, hX⟩ : ∃ X, X = T.take i := ⟨_, rfl⟩
                      obtain ⟨Y, hY⟩ : ∃ Y, Y = T.take (i + 1) := ⟨_, rfl⟩
                      rw [← hX, ← hY] at htk
                      rw [← hX] at htl ⊢
                      have HY := Lib.hid hY
                      clear hX hY
                      by_cases hyz : z = y
                      · have e1 : ((y.toNat : Int) != (z.toNat : Int)) = false := by rw [hyz]; simp
                        rw [if_pos hyz, hyz] at htk
                        have hcat2 : (ByteArray.mk X.toArray) ++ (ByteArray.mk #[y]) = ⟨Y.toArray⟩ := by rw [htk]; exact cat_eq _ [_]
                        have hcv := conv_one wr y y.toNat rfl
                        clear hyz htk
                        go_wp2_with (go_at_call 18; refine hO.out.mono ?_; rintro e w4 ⟨rfl, rfl⟩)
                        go_roundg (c.latches.length - (i + 1))
                        case measure => exact hmea2.out _ HGI.out
                        case rel => exact ⟨i + 1, by omega, by omega, by rw [HY.out], by go_num, hbr5.alloc hbr5.size _⟩
                      · have e1 : ((y.toNat : Int) != (z.toNat : Int)) = true := bne_iff_ne.2 fun e => hyz (UInt8.toNat_inj.1 (by omega))
                        rw [if_neg hyz] at htk
                        have hcat2 : (ByteArray.mk X.toArray) ++ (ByteArray.mk #[120]) = ⟨Y.toArray⟩ := by rw [htk]; exact cat_eq _ [_]
                        have hcv := conv_one wr 120 120 rfl
                        clear hyz htk
                        go_wp2_with (go_at_call 18; refine hO.out.mono ?_; rintro e w4 ⟨rfl, rfl⟩)
                        go_roundg (c.latches.length - (i + 1))
                        case measure => exact hmea2.out _ HGI.out
                        case rel => exact ⟨i + 1, by omega, by omega, by rw [HY.out], by go_num, hbr5.alloc hbr5.size _⟩
                    · have hltz : ¬ (i : Int) < (c.latches.length : Int) := by omega
                      obtain rfl : i = c.latches.length := by omega
                      have hTk : T.take c.latches.length = T := List.take_of_length_le (by omega)
                      rw [hTk]
                      clear hTk hgi hi hlti hSL hTL
                      cases hts : (T == S) with
                      | true =>
                        have hw := hA0.out hts
                        have ets : T = S := beq_iff_eq.1 hts
                        subst ets
                        have eq1 : (T == T) = true := by simp
                        clear hts hA0 hA1
                        go_wp2_with fail
                        go_ret3
                        exact ⟨by rw [HRS.out, HRN.out, hw, ← HS.out]; rfl, hbT.out⟩
                      | false =>
                        have hA2 := Lib.hid (hA1.out hts)
                        clear hA0 hA1
                        go_wp2_with fail
                        go_roundg (n - (k + 1))
                        case measure => exact hmea.out _ HG.out
                        case rel => exact ⟨k + 1, HLT.out, by omega, by rw [hnx.out], by go_num, Below.of hbr4.out hbr5, hA2.out⟩
                · have hltz : ¬ (k : Int) < (n : Int) := by omega
                  obtain rfl : k = n := by omega
                  have hw := Lib.hid (PC.widN_miss c k A.out)
                  go_wp2_with fail
                  go_ret3
                  exact ⟨by rw [HRS.out, HRN.out, hw.out]; rfl, hbR.out⟩

set_option maxRecDepth 100000 in
set_option maxHeartbeats 8000000 in
theorem lifts_walk (c : PC.Circ) (vc : Value) (st inp : List UInt8) (vh : Value) (hold : List Int) (most : Int) (w : World) (h : IsCirc w vc c) (hf : Fits c) (hs : st.length ≤ 9223372036854775806) (hi : inp.length ≤ 9223372036854775806) (hH : Ints w vh hold) (_hr : rng most) :
    Calls Tryd.prog 7 #[vc, .string ⟨st.toArray⟩, .string ⟨inp.toArray⟩, vh, .int .i64 most] w fun e w' => e = .returned (.bool true) ∧ Below w.heap.size w w' := by
  have h1 := Lib.hid fun w1 (hb : Below w.heap.size w w1) => lift_any c vc vh st inp hold w1 (h.mono hb) (hH.mono hb) (by omega) (by omega)
  have h2 := Lib.hid fun w1 (hb : Below w.heap.size w w1) => rLift_any c vc vh st inp hold w1 (h.mono hb) hf (hH.mono hb) hs hi
  have h3 := Lib.hid fun w1 (hb : Below w.heap.size w w1) => widen_all c vc most w1 (h.mono hb)
  have h4 := Lib.hid fun w1 (hb : Below w.heap.size w w1) => rWiden_any c vc most w1 (h.mono hb) hf
  obtain ⟨vi, vl, vo, vb, vv, va, vn, rfl, hp, hm⟩ := h
  obtain ⟨ah, caph, rfl, _, _, _⟩ := id hH.open_
  clear hp hH
  have hb0 := Lib.hid ((Below.refl w.heap.size w).alloc (Nat.le_refl _) (.cells #[.int .i64 c.max, vi, vl, vo, vb, vv, va, vn] 27))
  have hbx0 := Lib.hid (Box8.new w (.int .i64 c.max) vi vl vo vb vv va vn 27)
  generalize PC.liftS c st inp hold = LS at *
  generalize PC.liftE c st inp hold = LE at *
  generalize PC.widL c most = WS at *
  generalize PC.widM c most = WM at *
  generalize PC.widE c most = WE at *
  have e1 : (LS == LS) = true := by simp
  have e2 : (WS == WS) = true := by simp
  have e3 : (LE == LE) = true := by simp
  have e4 : (WM == WM) = true := by simp
  have e5 : (WE == WE) = true := by simp
  obtain ⟨q0, q1, q2, q3, q4, q5, q6, q7⟩ := hbx0.out
  go_enter Tryd.func7, Tryd.ntmps7
  go_wp2_with fail
  refine (h1.out _ hb0.out).mono ?_
  rintro e w1 ⟨rfl, hbk⟩
  have hbA := Lib.hid (Below.of hb0.out hbk)
  have hbx1 := Lib.hid (hbx0.out.mono hbk)
  clear hb0 hbk hbx0 h1 q0 q1 q2 q3 q4 q5 q6 q7
  obtain ⟨q0, q1, q2, q3, q4, q5, q6, q7⟩ := hbx1.out
  go_wp2_with fail
  refine (h2.out _ hbA.out).mono ?_
  rintro e w2 ⟨rfl, hbk⟩
  have hbB := Lib.hid (Below.of hbA.out hbk)
  have hbx2 := Lib.hid (hbx1.out.mono hbk)
  clear hbA hbk hbx1 h2 q0 q1 q2 q3 q4 q5 q6 q7
  obtain ⟨q0, q1, q2, q3, q4, q5, q6, q7⟩ := hbx2.out
  go_wp2_with fail
  refine (h3.out _ hbB.out).mono ?_
  rintro e w3 ⟨rfl, hbk⟩
  have hbC := Lib.hid (Below.of hbB.out hbk)
  have hbx3 := Lib.hid (hbx2.out.mono hbk)
  clear hbB hbk hbx2 h3 q0 q1 q2 q3 q4 q5 q6 q7
  obtain ⟨q0, q1, q2, q3, q4, q5, q6, q7⟩ := hbx3.out
  go_wp2_with fail
  refine (h4.out _ hbC.out).mono ?_
  rintro e w4 ⟨rfl, hbk⟩
  have hbD := Lib.hid (Below.of hbC.out hbk)
  clear hbC hbk hbx3 h4 q0 q1 q2 q3 q4 q5 q6 q7
  obtain ⟨V4, hV4⟩ : ∃ W, W = w4 := ⟨_, rfl⟩
  subst hV4
  go_wp2_with (first | (go_at_call 10; refine (num08_any _ _).mono ?_; rintro e w3 ⟨rfl, rfl⟩) | (go_at_call 8; refine (alive08_any _).mono ?_; rintro e w3 ⟨rfl, hb3⟩))
  go_ret
  exact ⟨by simp, Below.of hbD.out hb3⟩

end Go.Proofs.YtlakfaalpijhiaaDoor
