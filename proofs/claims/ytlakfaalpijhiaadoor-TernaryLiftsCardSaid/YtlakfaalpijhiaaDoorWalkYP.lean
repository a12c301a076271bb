/- Contract: what is known always. -/
import Derived.Test.YtlakfaalpijhiaaDoorWalkYO
import Derived.Test.YtlakfaalpijhiaaDoorShelfR
import Derived.OwnWalk
namespace Go.Proofs.YtlakfaalpijhiaaDoor
open Go.RowKit Go.Shelf
attribute [local simp] mk_get

theorem repeat_xs (n : Nat) : Lib.repeatL [120] n = PC.xs n := by
  unfold PC.xs
  induction n with
  | zero => rfl
  | succ n ih => first | (rw [Lib.repeatL, ih, List.replicate_succ]; rfl) | (simp [Lib.repeatL] at *)

theorem repeat_x (n : Nat) (w : World) (hn : n ≤ 4096) : Calls Tryd.prog 40 #[.string ⟨#[120]⟩, .int .i64 n] w fun e w' => e = .returned (.string ⟨(PC.xs n).toArray⟩) ∧ Below w.heap.size w w' := by
  have h := Tryd.strings_Repeat ⟨#[120]⟩ n w (by omega) (by show 1 * n ≤ _; omega)
  have e : Lib.repeatL (⟨#[120]⟩ : ByteArray).data.toList n = PC.xs n := repeat_xs n
  rw [e] at h
  exact h

set_option maxRecDepth 100000 in
set_option maxHeartbeats 8000000 in
theorem widen_any (c : PC.Circ) (vc : Value) (most : Nat) (w : World) (h : IsCirc w vc c) (hm80 : most ≤ 80) :
    Calls Tryd.prog 22 #[vc, .int .i64 (most : Int)] w fun e w' => e = .returned (.tuple #[.string ⟨(if PC.chk c = true then PC.widS c (PC.widN c most) else []).toArray⟩, .int .i64 (if PC.chk c = true then (PC.widN c most : Int) else 0), .int .i64 (if PC.chk c = true then 0 else 9)]) ∧ Below w.heap.size w w' := by
  have hCk := Lib.hid fun w1 (hb : Below w.heap.size w w1) => cCheck_any c vc w1 (h.mono hb)
  rw [PC.pchk_eq] at hCk
  have hFi := Lib.hid fun w1 (hb : Below w.heap.size w w1) => terFirst_any c vc w1 (h.mono hb)
  have hRu := Lib.hid fun s i w1 (hb : Below w.heap.size w w1) => run_any c vc s i w1 (h.mono hb)
  have hNx := Lib.hid fun m w1 (hb : Below w.heap.size w w1) => ternext_any c vc m w1 (h.mono hb)
  obtain ⟨vi, vl, vo, vb, vv, va, vn, rfl, hp, hm⟩ := h
  obtain ⟨ai, capi, rfl, hi1, hi2, _⟩ := hp.inputs.open_
  clear hp
  obtain ⟨RS, hRS⟩ : ∃ x, x = if PC.chk c = true then PC.widS c (PC.widN c most) else [] := ⟨_, rfl⟩
  obtain ⟨RN, hRN⟩ : ∃ x : Int, x = if PC.chk c = true then (PC.widN c most : Int) else 0 := ⟨_, rfl⟩
  obtain ⟨RE, hRE⟩ : ∃ x : Int, x = if PC.chk c = true then 0 else 9 := ⟨_, rfl⟩
  rw [← hRS, ← hRN, ← hRE]
  have HRS := Lib.hid hRS
  have HRN := Lib.hid hRN
  have HRE := Lib.hid hRE
  clear hRS hRN hRE
  have hb0 := Lib.hid ((Below.refl w.heap.size w).alloc (Nat.le_refl _) (.cells #[.int .i64 c.max, .slice ai c.inputs.length capi, vl, vo, vb, vv, va, vn] 27))
  have hbx0 := Lib.hid (Box8.new w (.int .i64 c.max) (.slice ai c.inputs.length capi) vl vo vb vv va vn 27)
  go_enter Tryd.func22, Tryd.ntmps22
  go_wp2_with fail
  cases hck : PC.chk c with
  | false =>
    rw [hck] at hCk
    refine (hCk.out _ hb0.out).mono ?_
    rintro e w1 ⟨rfl, hb1⟩
    have hn : ¬ PC.chk c = true := by rw [hck]; decide
    have e1 : RS = [] := by rw [HRS.out, if_neg hn]
    have e2 : RN = 0 := by rw [HRN.out, if_neg hn]
    have e3 : RE = 9 := by rw [HRE.out, if_neg hn]
    go_wp2_with fail
    go_ret3
    exact ⟨by rw [e1, e2, e3]; rfl, Below.of hb0.out hb1⟩
  | true =>
    rw [hck] at hCk
    have hR := Lib.hid (PC.right_of c hck)
    have e1 : Hid (RS = PC.widS c (PC.widN c most)) := by show _ = _; rw [HRS.out, if_pos hck]
    have e2 : Hid (RN = PC.widN c most) := by show _ = _; rw [HRN.out, if_pos hck]
    have e3 : RE = 0 := by rw [HRE.out, if_pos hck]
    subst e3
    clear hck
    refine (hCk.out _ hb0.out).mono ?_
    rintro e w1 ⟨rfl, hbk⟩
    have hbA := Lib.hid (Below.of hb0.out hbk)
    have hbx1 := Lib.hid (hbx0.out.mono hbk)
    clear hb0 hbk hbx0 hCk
    obtain ⟨q0, q1, q2, q3, q4, q5, q6, q7⟩ := hbx1.out
    have hd1 : decide ((most : Int) < 0) = false := decide_eq_false (by omega)
    have hd2 : decide ((80 : Int) < (most : Int)) = false := decide_eq_false (by omega)
    go_wp2_with fail
    refine (hFi.out _ hbA.out hR.out).mono ?_
    rintro e w2 ⟨rfl, hbk⟩
    have hbB := Lib.hid (Below.of hbA.out hbk)
    have hbx2 := Lib.hid (hbx1.out.mono hbk)
    clear hbA hbk hbx1 q0 q1 q2 q3 q4 q5 q6 q7 hFi
    obtain ⟨q0, q1, q2, q3, q4, q5, q6, q7⟩ := hbx2.out
    have hin := hR.out.ins
    have hRp := Lib.hid fun w1 => repeat_x c.inputs.length w1 (by omega)
    go_wp2_with fail
    refine (hRp.out _).mono ?_
    rintro e w3 ⟨rfl, hbk⟩
    have hbC := Lib.hid (Below.of hbB.out hbk)
    have hbx3 := Lib.hid (hbx2.out.mono hbk)
    clear hbB hbk hbx2 q0 q1 q2 q3 q4 q5 q6 q7 hRp
    obtain ⟨W3, hW3⟩ : ∃ W, W = w3 := ⟨_, rfl⟩
    subst hW3
    go_wp2_with fail
    go_loopg [8, 30] most (fun gg s8 s30 wr => ∃ k : Nat, k ≤ most ∧ most - k ≤ gg ∧ s30 = .int .i64 k ∧ s8 = .string ⟨(PC.widS c k).toArray⟩ ∧ Below W3.heap.size W3 wr ∧ Aside (∀ j, j < k → (PC.widNext c (PC.widS c j) == PC.widS c j) = false))
    case atStart => exact ⟨0, Nat.zero_le _, by omega, rfl, rfl, Below.refl _ _, fun j hj => absurd hj (Nat.not_lt_zero _)⟩
    case round =>
      obtain ⟨k, hk, hg, rfl, rfl, hbr, A⟩ := hrel
      have hbWr := Lib.hid (Below.of hbC.out hbr)
      have hbxr := Lib.hid (hbx3.out.mono hbr)
      by_cases hlt : k < most
      · have hmea : Hid (∀ g : Nat, most - k ≤ g → most - (k + 1) < g) := fun g h => by omega
        have HG := Lib.hid hg
        have hltz : (k : Int) < (most : Int) := by omega
        obtain ⟨S, hS⟩ : ∃ S, S = PC.widS c k := ⟨_, rfl⟩
        obtain ⟨T, hT⟩ : ∃ T, T = PC.widNext c (PC.widS c k) := ⟨_, rfl⟩
        have hSl : S.length = c.latches.length := by rw [hS]; exact PC.widS_length c k
        have hll := hR.out.lats
        have hmx := hR.out.max1
        have hTl : (PC.tvals c S (PC.xs c.inputs.length)).length ≤ 9223372036854775807 := by rw [PC.tvals_length]; omega
        have hR1 : ∀ y : Later wr, Calls _ _ _ _ _ := fun y => hRu.out S (PC.xs c.inputs.length) y.at_ (Below.of hbWr.out y.below) hR.out hSl (by simp [PC.xs])
        have hN1 : ∀ y : Later wr, Calls _ _ _ _ _ := fun y => hNx.out (PC.tvals c S (PC.xs c.inputs.length)) y.at_ (Below.of hbWr.out y.below) hll hTl
        have hJ1 : ∀ y : Later wr, Calls _ _ _ _ _ := fun y => joined_any S (PC.tnexts c (PC.tvals c S (PC.xs c.inputs.length))) y.at_ (by rw [PC.tnexts_length, hSl]) (by omega)
        have eT : PC.joinT S (PC.tnexts c (PC.tvals c S (PC.xs c.inputs.length))) = T := by rw [hT, ← hS]; rfl
        rw [eT] at hJ1
        generalize PC.tnexts c (PC.tvals c S (PC.xs c.inputs.length)) = V2 at *
        generalize PC.tvals c S (PC.xs c.inputs.length) = V1 at *
        have hnx : Hid (PC.widS c (k + 1) = T) := by show _ = _; rw [hT]; rfl
        have hA1 : Hid ((T == S) = false → ∀ j, j < k + 1 → (PC.widNext c (PC.widS c j) == PC.widS c j) = false) := fun hn j hj => by
          by_cases e : j = k
          · subst e; rw [← hT, ← hS]; exact hn
          · exact A.out j (by omega)
        have hA0 : Hid ((T == S) = true → PC.widN c most = k) := fun hn => PC.widN_hit c most k hlt A.out (by rw [← hT, ← hS]; exact hn)
        rw [← hS]
        have HS := Lib.hid hS
        obtain ⟨q0, q1, q2, q3, q4, q5, q6, q7⟩ := hbxr.out.later
        clear hS hT hSl eT hTl A hg hll hmx
        go_wp2_with fail
        refine wp_region_later (by kernel_rfl) (by kernel_rfl) ?_; (repeat (go_big_quiet_step ((first | (go_at_call 27; with_reducible exact Calls.later (hR1 _)) | (go_at_call 34; with_reducible exact Calls.later (hN1 _)) | (go_at_call 41; with_reducible exact Calls.later (hJ1 _)))))); refine wpQuiet_nil ?_; rintro w3 ⟨⟨_, hb3⟩, rfl⟩
        clear q0 q1 q2 q3 q4 q5 q6 q7 hR1 hN1 hJ1
        cases hts : (T == S) with
        | true =>
          have hw := hA0.out hts
          have ets : T = S := beq_iff_eq.1 hts
          subst ets
          have eq1 : (T == T) = true := by simp
          clear hts hA0 hA1
          go_wp2_with fail
          go_ret3
          exact ⟨by rw [e1.out, e2.out, hw, ← HS.out]; rfl, Below.of hbWr.out hb3⟩
        | false =>
          have hA2 := Lib.hid (hA1.out hts)
          clear hA0 hA1
          go_wp2_with fail
          go_roundg (most - (k + 1))
          case measure => exact hmea.out _ HG.out
          case rel => exact ⟨k + 1, by omega, by omega, by go_num, by rw [hnx.out], Below.of hbr hb3, hA2.out⟩
      · have hltz : ¬ (k : Int) < (most : Int) := by omega
        obtain rfl : k = most := by omega
        have hw := Lib.hid (PC.widN_miss c k A.out)
        go_wp2_with fail
        go_ret3
        exact ⟨by rw [e1.out, e2.out, hw.out]; rfl, hbWr.out⟩

end Go.Proofs.YtlakfaalpijhiaaDoor
