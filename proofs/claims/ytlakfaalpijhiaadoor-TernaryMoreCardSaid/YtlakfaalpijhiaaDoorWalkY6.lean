/- The walk of TernaryMore. -/
import Derived.Test.YtlakfaalpijhiaaDoorWalkY5
namespace Go.Proofs.YtlakfaalpijhiaaDoor
open Go.RowKit Go.Shelf

set_option maxRecDepth 100000 in
set_option maxHeartbeats 8000000 in
theorem more_walk (c : PC.Circ) (vc : Value) (sa sb inp : List UInt8) (w : World) (h : IsCirc w vc c) (ha : sa.length ≤ 9223372036854775807) (hb : sb.length ≤ 9223372036854775807) (hi : inp.length ≤ 9223372036854775807) :
    Calls Tryd.prog 5 #[vc, .string ⟨sa.toArray⟩, .string ⟨sb.toArray⟩, .string ⟨inp.toArray⟩] w fun e w' => e = .returned (.bool true) ∧ Below w.heap.size w w' := by
  have hVa := Lib.hid fun w1 (hb : Below w.heap.size w w1) => terValues_any c vc sa inp w1 (h.mono hb) ha hi
  have hVb := Lib.hid fun w1 (hb1 : Below w.heap.size w w1) => terValues_any c vc sb inp w1 (h.mono hb1) hb hi
  have hNa := Lib.hid fun w1 (hb : Below w.heap.size w w1) => terNext_any c vc sa inp w1 (h.mono hb) ha hi
  have hNb := Lib.hid fun w1 (hb1 : Below w.heap.size w w1) => terNext_any c vc sb inp w1 (h.mono hb1) hb hi
  have hC0 := Lib.hid fun w1 => terCovers_any sa sb w1 ha hb
  have hC1 := Lib.hid fun w1 => terCovers_any (PC.ternS c sa inp) (PC.ternS c sb inp) w1
  have hC2 := Lib.hid fun w1 => terCovers_any (PC.tnextS c sa inp) (PC.tnextS c sb inp) w1
  obtain ⟨vi, vl, vo, vb, vv, va, vn, rfl, hp, hm⟩ := h
  clear hp
  have hb0 : Below w.heap.size w (w.alloc (.cells #[.int .i64 c.max, vi, vl, vo, vb, vv, va, vn] 27)) := (Below.refl _ _).alloc (Nat.le_refl _) _
  have hbx0 := Lib.hid (Box8.new w (.int .i64 c.max) vi vl vo vb vv va vn 27)
  obtain ⟨EA, hEA⟩ : ∃ x, x = PC.ternE c sa inp := ⟨_, rfl⟩
  obtain ⟨EB, hEB⟩ : ∃ x, x = PC.ternE c sb inp := ⟨_, rfl⟩
  rw [← hEA] at hVa hNa
  rw [← hEB] at hVb hNb
  have HEA := Lib.hid hEA
  have HEB := Lib.hid hEB
  obtain ⟨VA, hVA⟩ : ∃ x, x = PC.ternS c sa inp := ⟨_, rfl⟩
  obtain ⟨VB, hVB⟩ : ∃ x, x = PC.ternS c sb inp := ⟨_, rfl⟩
  obtain ⟨NA, hNA⟩ : ∃ x, x = PC.tnextS c sa inp := ⟨_, rfl⟩
  obtain ⟨NB, hNB⟩ : ∃ x, x = PC.tnextS c sb inp := ⟨_, rfl⟩
  rw [← hVA] at hVa hC1
  rw [← hVB] at hVb hC1
  rw [← hNA] at hNa hC2
  rw [← hNB] at hNb hC2
  have HVA := Lib.hid hVA
  have HVB := Lib.hid hVB
  have HNA := Lib.hid hNA
  have HNB := Lib.hid hNB
  clear hEA hEB hVA hVB hNA hNB
  go_enter Tryd.func5, Tryd.ntmps5
  go_wp2_with fail
  refine (alive08_any _).mono ?_
  rintro e w1 ⟨rfl, hb1⟩
  have hb01 := Lib.hid (Below.of hb0 hb1)
  have hbx1 := Lib.hid (hbx0.out.mono hb1)
  obtain ⟨q0, q1, q2, q3, q4, q5, q6, q7⟩ := hbx1.out
  clear hb0 hb1 hbx0
  go_wp2_with fail
  refine (hVa.out _ hb01.out).mono ?_
  rintro e w2 ⟨rfl, hb2⟩
  have hb02 := Lib.hid (Below.of hb01.out hb2)
  have hbx2 := Lib.hid (hbx1.out.mono hb2)
  clear hb01 hb2 hbx1 hVa q0 q1 q2 q3 q4 q5 q6 q7
  obtain ⟨q0, q1, q2, q3, q4, q5, q6, q7⟩ := hbx2.out
  go_wp2_with fail
  refine (hVb.out _ hb02.out).mono ?_
  rintro e w3 ⟨rfl, hb3⟩
  have hb03 := Lib.hid (Below.of hb02.out hb3)
  have hbx3 := Lib.hid (hbx2.out.mono hb3)
  clear hb02 hb3 hbx2 hVb q0 q1 q2 q3 q4 q5 q6 q7
  by_cases hz : EA = 0
  · by_cases hzb : EB = 0
    · have cA := PC.chk_of_ternE c sa inp (HEA.out.symm.trans hz)
      have hmx := (PC.right_of c cA.1).max1
      have hmn := (PC.right_of c cA.1).max0
      have hlt := (PC.right_of c cA.1).lats
      have eVA : VA = PC.tvals c sa inp := by rw [HVA.out, PC.ternS, if_pos (HEA.out.symm.trans hz)]
      have eVB : VB = PC.tvals c sb inp := by rw [HVB.out, PC.ternS, if_pos (HEB.out.symm.trans hzb)]
      have eNA : NA = PC.tnexts c (PC.tvals c sa inp) := by rw [HNA.out, PC.tnextS, if_pos (HEA.out.symm.trans hz)]
      have eNB : NB = PC.tnexts c (PC.tvals c sb inp) := by rw [HNB.out, PC.tnextS, if_pos (HEB.out.symm.trans hzb)]
      have lVA : VA.length ≤ 9223372036854775807 := by rw [eVA, PC.tvals_length]; omega
      have lVB : VB.length ≤ 9223372036854775807 := by rw [eVB, PC.tvals_length]; omega
      have lNA : NA.length ≤ 9223372036854775807 := by rw [eNA, PC.tnexts_length]; omega
      have lNB : NB.length ≤ 9223372036854775807 := by rw [eNB, PC.tnexts_length]; omega
      have hC1 := Lib.hid fun w1 => hC1.out w1 lVA lVB
      have hC2 := Lib.hid fun w1 => hC2.out w1 lNA lNB
      have hlaw : Hid (PC.covers sa sb = true → PC.covers VA VB = true ∧ PC.covers NA NB = true) := fun hcv => by
        have := PC.more_known c (i := inp) ((PC.covers_iff _ _).1 hcv)
        rw [PC.covers_iff, PC.covers_iff, eVA, eVB, eNA, eNB]
        exact this
      clear cA hmx hmn hlt eVA eVB eNA eNB lVA lVB lNA lNB
      subst hz
      subst hzb
      cases hcv : PC.covers sa sb with
      | false =>
        rw [hcv] at hC0
        go_wp2_with (first | (go_at_call 10; refine (num08_any _ _).mono ?_; rintro e w4 ⟨rfl, rfl⟩) | (go_at_call 13; refine (hC0.out _).mono ?_; rintro e w4 ⟨rfl, hb4⟩))
        go_ret
        exact ⟨rfl, Below.of hb03.out hb4⟩
      | true =>
        rw [hcv] at hC0
        obtain ⟨l1, l2⟩ := hlaw.out hcv
        rw [l1] at hC1
        rw [l2] at hC2
        clear hcv l1 l2 hlaw
        obtain ⟨q0, q1, q2, q3, q4, q5, q6, q7⟩ := hbx3.out
        go_wp2_with (first | (go_at_call 10; refine (num08_any _ _).mono ?_; rintro e w4 ⟨rfl, rfl⟩))
        refine (hC0.out _).mono ?_
        rintro e w4 ⟨rfl, hb4⟩
        have hb04 := Lib.hid (Below.of hb03.out hb4)
        have hbx4 := Lib.hid (hbx3.out.mono hb4)
        clear hb03 hb4 hbx3 q0 q1 q2 q3 q4 q5 q6 q7
        obtain ⟨q0, q1, q2, q3, q4, q5, q6, q7⟩ := hbx4.out
        go_wp2_with fail
        refine (hNa.out _ hb04.out).mono ?_
        rintro e w5 ⟨rfl, hb5⟩
        have hb05 := Lib.hid (Below.of hb04.out hb5)
        have hbx5 := Lib.hid (hbx4.out.mono hb5)
        clear hb04 hb5 hbx4 q0 q1 q2 q3 q4 q5 q6 q7
        obtain ⟨q0, q1, q2, q3, q4, q5, q6, q7⟩ := hbx5.out
        go_wp2_with fail
        refine (hNb.out _ hb05.out).mono ?_
        rintro e w6 ⟨rfl, hb6⟩
        have hb06 := Lib.hid (Below.of hb05.out hb6)
        clear hb05 hb6 hbx5 q0 q1 q2 q3 q4 q5 q6 q7
        go_wp2_with fail
        refine (hC1.out _).mono ?_
        rintro e w7 ⟨rfl, hb7⟩
        have hb07 := Lib.hid (Below.of hb06.out hb7)
        go_wp2_with fail
        refine (hC2.out _).mono ?_
        rintro e w8 ⟨rfl, hb8⟩
        go_wp2_with fail
        go_ret
        exact ⟨rfl, Below.of hb07.out hb8⟩
    · have hz1 : (EB == 0) = false := by simpa using hzb
      have hz2 : (EB != 0) = true := by simpa using hzb
      subst hz
      go_wp2_with (go_at_call 10; refine (num08_any _ _).mono ?_; rintro e w5 ⟨rfl, rfl⟩)
      go_ret
      exact ⟨rfl, hb03.out⟩
  · have hz1 : (EA == 0) = false := by simpa using hz
    have hz2 : (EA != 0) = true := by simpa using hz
    go_wp2_with (go_at_call 10; refine (num08_any _ _).mono ?_; rintro e w5 ⟨rfl, rfl⟩)
    go_ret
    exact ⟨rfl, hb03.out⟩

end Go.Proofs.YtlakfaalpijhiaaDoor
