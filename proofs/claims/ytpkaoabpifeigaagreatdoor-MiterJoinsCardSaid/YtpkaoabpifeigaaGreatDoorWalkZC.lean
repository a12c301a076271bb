/- The page's Next, together, unlike, first; at which step two circuits differ is as it is, step by step. -/
import Derived.Test.YtpkaoabpifeigaaGreatDoorWalkM5
import Derived.Test.YtpkaoabpifeigaaGreatDoorWalkV2
import Derived.Test.YtpkaoabpifeigaaGreatDoorWalkZB
namespace Go.Proofs.YtpkaoabpifeigaaGreatDoor
open Go.RowKit Go.Shelf
attribute [local simp] mk_get

theorem rbit_any (b : Bool) (w : World) : Calls Tryz.prog 49 #[.bool b] w fun e w' => e = .returned (.string ⟨#[PC.bitB b]⟩) ∧ w = w' := by
  cases b with
  | true =>
    go_enter Tryz.func49, Tryz.ntmps49
    go_wp2
    go_ret
    exact ⟨rfl, rfl⟩
  | false =>
    go_enter Tryz.func49, Tryz.ntmps49
    go_wp2
    go_ret
    exact ⟨rfl, rfl⟩

set_option maxRecDepth 100000 in
set_option maxHeartbeats 4000000 in
theorem rNext_any (c : PC.Circ) (vc : Value) (st inp : List UInt8) (w : World) (h : IsCirc w vc c) (hf : Fits c) (hs : st.length ≤ 9223372036854775806) (hi : inp.length ≤ 9223372036854775806) :
    Calls Tryz.prog 17 #[vc, .string ⟨st.toArray⟩, .string ⟨inp.toArray⟩] w fun e w' => e = .returned (.tuple #[.string ⟨(nextS c st inp).toArray⟩, .int .i64 (PC.valuesE c st inp)]) ∧ Below w.heap.size w w' := by
  have hVal := Lib.hid fun w1 (hb : Below w.heap.size w w1) => rValues_any c vc st inp w1 (h.mono hb) hf hs hi
  obtain ⟨vi, vl, vo, vb, vv, va, vn, rfl, hp, hm⟩ := h
  obtain ⟨al, capl, rfl, hl1, hl2, hl3⟩ := hp.latches.open_
  clear hp
  have HL := Lib.hid hl3
  clear hl3
  have hb0 : Below w.heap.size w (w.alloc (.cells #[.int .i64 c.max, vi, .slice al c.latches.length capl, vo, vb, vv, va, vn] 27)) := (Below.refl _ _).alloc (Nat.le_refl _) _
  have hbx0 := Lib.hid (Box8.new w (.int .i64 c.max) vi (.slice al c.latches.length capl) vo vb vv va vn 27)
  obtain ⟨VE, hVE⟩ : ∃ x, x = PC.valuesE c st inp := ⟨_, rfl⟩
  obtain ⟨VS, hVS⟩ : ∃ x, x = PC.valuesS c st inp := ⟨_, rfl⟩
  obtain ⟨NS, hNS⟩ : ∃ x, x = nextS c st inp := ⟨_, rfl⟩
  rw [← hVE, ← hVS] at hVal
  rw [← hVE, ← hNS]
  have HVE := Lib.hid hVE
  have HVS := Lib.hid hVS
  have HNS := Lib.hid hNS
  clear hVE hVS hNS
  go_enter Tryz.func17, Tryz.ntmps17
  go_wp2_with fail
  refine (hVal.out _ (by exact hb0)).mono ?_
  rintro e w1 ⟨rfl, hb1⟩
  have hb01 := Lib.hid (Below.of hb0 hb1)
  have hbx1 := Lib.hid (hbx0.out.mono hb1)
  clear hb0 hb1 hbx0 hVal
  by_cases hz : VE = 0
  · have hc := PC.chk_of_valuesE c st inp (HVE.out.symm.trans hz)
    have hR := Lib.hid (PC.right_of c hc.1)
    have hVS0 : Hid (VS = PC.vals c st inp) := by show _ = _; rw [HVS.out, PC.valuesS, ← HVE.out, hz]; rfl
    have hNS0 : Hid (NS = c.latches.map fun x => PC.bitB (PC.tru VS x.next)) := by
      show _ = _
      rw [HNS.out, nextS, ← HVE.out, if_pos hz, hVS0.out]; rfl
    have hVl : VS.length ≤ 9223372036854775807 := by rw [hVS0.out, PC.vals_length]; have := hR.out.max1; omega
    have hNl : NS.length = c.latches.length := by rw [hNS0.out, List.length_map]
    have hll := hR.out.lats
    have HNl := Lib.hid hNl
    clear hc hNl
    subst hz
    go_wp2_with fail
    go_loopg [10, 11] c.latches.length (fun gg s10 s11 wr => ∃ k : Nat, k ≤ c.latches.length ∧ c.latches.length - k ≤ gg ∧ s10 = .string ⟨(NS.take k).toArray⟩ ∧ s11 = .int .i64 k ∧ w1 = wr)
    case atStart => exact ⟨0, Nat.zero_le _, by omega, rfl, rfl, rfl⟩
    case round =>
      obtain ⟨k, hk, hg, rfl, rfl, rfl⟩ := hrel
      obtain ⟨q0, q1, q2, q3, q4, q5, q6, q7⟩ := hbx1.out
      by_cases hlt : k < c.latches.length
      · have hmea : ∀ g : Nat, c.latches.length - k ≤ g → c.latches.length - (k + 1) < g := fun g h => by omega
        obtain ⟨b, off, rfl, hbs', ⟨_, hnr, _⟩, c0, c1, c2⟩ := HL.out k hlt
        have c1 := (hb01.out.cell hbs').trans c1
        clear c0 c2
        have hkn : k < NS.length := by rw [HNl.out]; exact hlt
        have hnx : NS[k] = PC.bitB (PC.tru VS c.latches[k].next) := by simp only [hNS0.out, List.getElem_map]
        generalize hx : c.latches[k].next = xn at *
        clear hx
        have hst : NS.take (k + 1) = NS.take k ++ [PC.bitB (PC.tru VS xn)] := by rw [List.take_succ_eq_append_getElem hkn, hnx]
        have hcat : (ByteArray.mk (NS.take k).toArray) ++ (ByteArray.mk #[PC.bitB (PC.tru VS xn)]) = ⟨(NS.take (k + 1)).toArray⟩ := by rw [hst]; exact cat_eq _ [_]
        have htl : (NS.take k).length = k := by rw [List.length_take]; omega
        have hk1 : k + 1 ≤ 9223372036854775807 := by omega
        have hk2 : (k : Int) + 1 ≤ 9223372036854775807 := by omega
        have hltz : (k : Int) < (c.latches.length : Int) := by omega
        have hT := Lib.hid (rTrue_any VS xn w1 hnr hVl)
        have hB := Lib.hid (rbit_any (PC.tru VS xn) w1)
        obtain ⟨X, hX⟩ : ∃ X, X = NS.take k := ⟨_, rfl⟩
        rw [← hX] at hcat htl ⊢
        generalize PC.bitB (PC.tru VS xn) = y at *
        generalize PC.tru VS xn = tb at *
        clear hnx hst hX
        go_wp2_with (first | (go_at_call 20; refine hT.out.mono ?_; rintro e w4 ⟨rfl, rfl⟩) | (go_at_call 49; refine hB.out.mono ?_; rintro e w5 ⟨rfl, rfl⟩))
        go_roundg (c.latches.length - (k + 1))
        case measure => exact hmea _ hg
        case rel => exact ⟨k + 1, by omega, by omega, rfl, by go_num, rfl⟩
      · have hltz : ¬ (k : Int) < (c.latches.length : Int) := by omega
        obtain rfl : k = c.latches.length := by omega
        have hnl := HNl.out
        go_wp2_with fail
        go_ret2
        rw [← hnl, List.take_length]
        exact ⟨rfl, hb01.out⟩
  · have hz1 : (VE == 0) = false := by simpa using hz
    have hz2 : (VE != 0) = true := by simpa using hz
    have e2 : NS = [] := by rw [HNS.out, nextS, ← HVE.out, if_neg hz]
    subst e2
    go_wp2_with fail
    go_ret2
    exact ⟨rfl, hb01.out⟩

end Go.Proofs.YtpkaoabpifeigaaGreatDoor

namespace Go.Proofs.YtpkaoabpifeigaaGreatDoor
open Go.RowKit Go.Shelf
attribute [local simp] mk_get

theorem lenb (a b : Nat) : (((a : Int) != (b : Int)) = true ↔ a ≠ b) ∧ (((a : Int) != (b : Int)) = false ↔ a = b) := by
  constructor
  · rw [bne_iff_ne]; omega
  · rw [bne_eq_false_iff_eq]; omega

set_option maxRecDepth 100000 in
set_option maxHeartbeats 4000000 in
theorem together36_any (a b : PC.Circ) (va vb : Value) (w : World) (ha : IsCirc w va a) (hb : IsCirc w vb b) (fa : Fits a) (fb : Fits b) :
    Calls Tryz.prog 14 #[va, vb] w fun e w' => e = .returned (.int .i64 (PC.togE a b)) ∧ Below w.heap.size w w' := by
  have HA := Lib.hid ha
  have HB := Lib.hid hb
  obtain ⟨xi, xj, xl, xm, xo, xp, xb, xc, xv, xw, xa, xq, xn, xr, rfl, hpa⟩ := row_slices ha
  obtain ⟨yi, yj, yl, ym, yo, yp, yb, yc, yv, yw, ya, yq, yn, yr, rfl, hpb⟩ := row_slices hb
  have HPA := Lib.hid hpa
  have HPB := Lib.hid hpb
  clear ha hb hpa hpb
  have r1 := (RowL.new (T := 27) w [.int .i64 a.max, .slice xi a.inputs.length xj, .slice xl a.latches.length xm, .slice xo a.outputs.length xp, .slice xb a.bads.length xc, .slice xv a.invars.length xw, .slice xa a.ands.length xq, .slice xn a.names.length xr]).mono ((Below.refl _ _).alloc (Nat.le_refl _) (.cells #[.int .i64 b.max, .slice yi b.inputs.length yj, .slice yl b.latches.length ym, .slice yo b.outputs.length yp, .slice yb b.bads.length yc, .slice yv b.invars.length yw, .slice ya b.ands.length yq, .slice yn b.names.length yr] 27))
  have r2 := RowL.new (T := 27) (w.alloc (.cells #[.int .i64 a.max, .slice xi a.inputs.length xj, .slice xl a.latches.length xm, .slice xo a.outputs.length xp, .slice xb a.bads.length xc, .slice xv a.invars.length xw, .slice xa a.ands.length xq, .slice xn a.names.length xr] 27)) [.int .i64 b.max, .slice yi b.inputs.length yj, .slice yl b.latches.length ym, .slice yo b.outputs.length yp, .slice yb b.bads.length yc, .slice yv b.invars.length yw, .slice ya b.ands.length yq, .slice yn b.names.length yr]
  rw [World.size_alloc] at r2
  have hb0 := ((Below.refl w.heap.size w).alloc (Nat.le_refl _) (.cells #[.int .i64 a.max, .slice xi a.inputs.length xj, .slice xl a.latches.length xm, .slice xo a.outputs.length xp, .slice xb a.bads.length xc, .slice xv a.invars.length xw, .slice xa a.ands.length xq, .slice xn a.names.length xr] 27)).alloc (by simp) (.cells #[.int .i64 b.max, .slice yi b.inputs.length yj, .slice yl b.latches.length ym, .slice yo b.outputs.length yp, .slice yb b.bads.length yc, .slice yv b.invars.length yw, .slice ya b.ands.length yq, .slice yn b.names.length yr] 27)
  obtain ⟨W, hW⟩ : ∃ W, W = (w.alloc (.cells #[.int .i64 a.max, .slice xi a.inputs.length xj, .slice xl a.latches.length xm, .slice xo a.outputs.length xp, .slice xb a.bads.length xc, .slice xv a.invars.length xw, .slice xa a.ands.length xq, .slice xn a.names.length xr] 27)).alloc (.cells #[.int .i64 b.max, .slice yi b.inputs.length yj, .slice yl b.latches.length ym, .slice yo b.outputs.length yp, .slice yb b.bads.length yc, .slice yv b.invars.length yw, .slice ya b.ands.length yq, .slice yn b.names.length yr] 27) := ⟨_, rfl⟩
  rw [← hW] at r1 r2 hb0
  have HW := Lib.hid hW
  have R1 := Lib.hid r1
  have R2 := Lib.hid r2
  have HB0 := Lib.hid hb0
  clear hW r1 r2 hb0
  have hCa := Lib.hid (rCheck_any a _ W (HA.out.mono HB0.out) fa)
  have hCb : Hid (∀ y, Below W.heap.size W y → _) := fun y hy => rCheck_any b _ y (HB.out.mono (Below.of HB0.out hy)) fb
  cases hca : PC.chk a with
  | false =>
    have eT : Hid (PC.togE a b = 9) := by show _ = _; rw [PC.togE, if_pos (Or.inl hca)]
    rw [hca] at hCa
    go_enter Tryz.func14, Tryz.ntmps14
    go_wp2_with fail
    rw [← HW.out]
    have q := R1.out
    have q0 := q.cell 0 _ rfl
    have q1 := q.cell 1 _ rfl
    have q2 := q.cell 2 _ rfl
    have q3 := q.cell 3 _ rfl
    have q4 := q.cell 4 _ rfl
    have q5 := q.cell 5 _ rfl
    have q6 := q.cell 6 _ rfl
    have q7 := q.cell 7 _ rfl
    go_wp2_with (go_at_call 9; refine hCa.out.mono ?_; rintro e w3 ⟨rfl, hb3⟩)
    go_ret
    exact ⟨by rw [eT.out]; rfl, Below.of HB0.out hb3⟩
  | true =>
    rw [hca] at hCa
    cases hcb : PC.chk b with
    | false =>
      have eT : Hid (PC.togE a b = 9) := by show _ = _; rw [PC.togE, if_pos (Or.inr hcb)]
      rw [hcb] at hCb
      go_enter Tryz.func14, Tryz.ntmps14
      go_wp2_with fail
      rw [← HW.out]
      have q := R1.out
      have q0 := q.cell 0 _ rfl
      have q1 := q.cell 1 _ rfl
      have q2 := q.cell 2 _ rfl
      have q3 := q.cell 3 _ rfl
      have q4 := q.cell 4 _ rfl
      have q5 := q.cell 5 _ rfl
      have q6 := q.cell 6 _ rfl
      have q7 := q.cell 7 _ rfl
      go_wp2_with fail
      refine hCa.out.mono ?_
      rintro e w3 ⟨rfl, hb3⟩
      clear q q0 q1 q2 q3 q4 q5 q6 q7
      have q := R2.out.mono hb3
      have q0 := q.cell 0 _ rfl
      have q1 := q.cell 1 _ rfl
      have q2 := q.cell 2 _ rfl
      have q3 := q.cell 3 _ rfl
      have q4 := q.cell 4 _ rfl
      have q5 := q.cell 5 _ rfl
      have q6 := q.cell 6 _ rfl
      have q7 := q.cell 7 _ rfl
      have hC2 := Lib.hid (hCb.out w3 hb3)
      go_wp2_with (go_at_call 9; refine hC2.out.mono ?_; rintro e w4 ⟨rfl, hb4⟩)
      go_ret
      exact ⟨by rw [eT.out]; rfl, Below.of HB0.out (Below.of hb3 hb4)⟩
    | true =>
      rw [hcb] at hCb
      have hno : ¬ (PC.chk a = false ∨ PC.chk b = false) := by rw [hca, hcb]; simp
      have hE : ∀ v : Int, (if a.inputs.length ≠ b.inputs.length ∨ a.outputs.length ≠ b.outputs.length then 3 else 0) = v → PC.togE a b = v := fun v h => by rw [PC.togE, if_neg hno]; exact h
      by_cases h1 : a.inputs.length = b.inputs.length
      · have g1 := (lenb a.inputs.length b.inputs.length).2.2 h1
        by_cases h2 : a.outputs.length = b.outputs.length
        · have g2 := (lenb a.outputs.length b.outputs.length).2.2 h2
          have eT := Lib.hid (hE 0 (if_neg (by rw [not_or, Decidable.not_not, Decidable.not_not]; exact ⟨h1, h2⟩)))
          clear hE hno h1 h2
          go_enter Tryz.func14, Tryz.ntmps14
          go_wp2_with fail
          rw [← HW.out]
          have q := R1.out
          have q0 := q.cell 0 _ rfl
          have q1 := q.cell 1 _ rfl
          have q2 := q.cell 2 _ rfl
          have q3 := q.cell 3 _ rfl
          have q4 := q.cell 4 _ rfl
          have q5 := q.cell 5 _ rfl
          have q6 := q.cell 6 _ rfl
          have q7 := q.cell 7 _ rfl
          go_wp2_with fail
          refine hCa.out.mono ?_
          rintro e w3 ⟨rfl, hb3⟩
          clear q q0 q1 q2 q3 q4 q5 q6 q7
          have q := R2.out.mono hb3
          have q0 := q.cell 0 _ rfl
          have q1 := q.cell 1 _ rfl
          have q2 := q.cell 2 _ rfl
          have q3 := q.cell 3 _ rfl
          have q4 := q.cell 4 _ rfl
          have q5 := q.cell 5 _ rfl
          have q6 := q.cell 6 _ rfl
          have q7 := q.cell 7 _ rfl
          have hC2 := Lib.hid (hCb.out w3 hb3)
          have hB3 := Lib.hid hb3
          go_wp2_with fail
          refine hC2.out.mono ?_
          rintro e w4 ⟨rfl, hb4⟩
          clear q q0 q1 q2 q3 q4 q5 q6 q7
          have z1 := ((R1.out.mono hB3.out).mono hb4).cell 1 _ rfl
          have z3 := ((R1.out.mono hB3.out).mono hb4).cell 3 _ rfl
          have y1 := ((R2.out.mono hB3.out).mono hb4).cell 1 _ rfl
          have y3 := ((R2.out.mono hB3.out).mono hb4).cell 3 _ rfl
          go_wp2_with fail
          go_ret
          exact ⟨by rw [eT.out]; rfl, Below.of HB0.out (Below.of hb3 hb4)⟩
        · have g2 := (lenb a.outputs.length b.outputs.length).1.2 h2
          have eT := Lib.hid (hE 3 (if_pos (Or.inr h2)))
          clear hE hno h1 h2
          go_enter Tryz.func14, Tryz.ntmps14
          go_wp2_with fail
          rw [← HW.out]
          have q := R1.out
          have q0 := q.cell 0 _ rfl
          have q1 := q.cell 1 _ rfl
          have q2 := q.cell 2 _ rfl
          have q3 := q.cell 3 _ rfl
          have q4 := q.cell 4 _ rfl
          have q5 := q.cell 5 _ rfl
          have q6 := q.cell 6 _ rfl
          have q7 := q.cell 7 _ rfl
          go_wp2_with fail
          refine hCa.out.mono ?_
          rintro e w3 ⟨rfl, hb3⟩
          clear q q0 q1 q2 q3 q4 q5 q6 q7
          have q := R2.out.mono hb3
          have q0 := q.cell 0 _ rfl
          have q1 := q.cell 1 _ rfl
          have q2 := q.cell 2 _ rfl
          have q3 := q.cell 3 _ rfl
          have q4 := q.cell 4 _ rfl
          have q5 := q.cell 5 _ rfl
          have q6 := q.cell 6 _ rfl
          have q7 := q.cell 7 _ rfl
          have hC2 := Lib.hid (hCb.out w3 hb3)
          have hB3 := Lib.hid hb3
          go_wp2_with fail
          refine hC2.out.mono ?_
          rintro e w4 ⟨rfl, hb4⟩
          clear q q0 q1 q2 q3 q4 q5 q6 q7
          have z1 := ((R1.out.mono hB3.out).mono hb4).cell 1 _ rfl
          have z3 := ((R1.out.mono hB3.out).mono hb4).cell 3 _ rfl
          have y1 := ((R2.out.mono hB3.out).mono hb4).cell 1 _ rfl
          have y3 := ((R2.out.mono hB3.out).mono hb4).cell 3 _ rfl
          go_wp2_with fail
          go_ret
          exact ⟨by rw [eT.out]; rfl, Below.of HB0.out (Below.of hb3 hb4)⟩
      · have g1 := (lenb a.inputs.length b.inputs.length).1.2 h1
        have eT := Lib.hid (hE 3 (if_pos (Or.inl h1)))
        clear hE hno h1
        go_enter Tryz.func14, Tryz.ntmps14
        go_wp2_with fail
        rw [← HW.out]
        have q := R1.out
        have q0 := q.cell 0 _ rfl
        have q1 := q.cell 1 _ rfl
        have q2 := q.cell 2 _ rfl
        have q3 := q.cell 3 _ rfl
        have q4 := q.cell 4 _ rfl
        have q5 := q.cell 5 _ rfl
        have q6 := q.cell 6 _ rfl
        have q7 := q.cell 7 _ rfl
        go_wp2_with fail
        refine hCa.out.mono ?_
        rintro e w3 ⟨rfl, hb3⟩
        clear q q0 q1 q2 q3 q4 q5 q6 q7
        have q := R2.out.mono hb3
        have q0 := q.cell 0 _ rfl
        have q1 := q.cell 1 _ rfl
        have q2 := q.cell 2 _ rfl
        have q3 := q.cell 3 _ rfl
        have q4 := q.cell 4 _ rfl
        have q5 := q.cell 5 _ rfl
        have q6 := q.cell 6 _ rfl
        have q7 := q.cell 7 _ rfl
        have hC2 := Lib.hid (hCb.out w3 hb3)
        have hB3 := Lib.hid hb3
        go_wp2_with fail
        refine hC2.out.mono ?_
        rintro e w4 ⟨rfl, hb4⟩
        clear q q0 q1 q2 q3 q4 q5 q6 q7
        have z1 := ((R1.out.mono hB3.out).mono hb4).cell 1 _ rfl
        have z3 := ((R1.out.mono hB3.out).mono hb4).cell 3 _ rfl
        have y1 := ((R2.out.mono hB3.out).mono hb4).cell 1 _ rfl
        have y3 := ((R2.out.mono hB3.out).mono hb4).cell 3 _ rfl
        go_wp2_with fail
        go_ret
        exact ⟨by rw [eT.out]; rfl, Below.of HB0.out (Below.of hb3 hb4)⟩

/-- is an output unlike? -/
def unlikeB (a b : PC.Circ) (v u : List UInt8) : Bool := (a.outputs.zip b.outputs).any fun p => PC.tru v p.1 != PC.tru u p.2

theorem bit_inj {x y : Bool} : PC.bitB x = PC.bitB y ↔ x = y := by cases x <;> cases y <;> decide

theorem unlike_outs : ∀ (l m : List Int) (v u : List UInt8), l.length = m.length → (((l.zip m).any fun p => PC.tru v p.1 != PC.tru u p.2) = false ↔ (l.map fun x => PC.bitB (PC.tru v x)) = m.map fun x => PC.bitB (PC.tru u x))
  | [], [], _, _, _ => by simp
  | x :: l, y :: m, v, u, h => by
    have ih := unlike_outs l m v u (by simpa using h)
    simp only [List.zip_cons_cons, List.any_cons, Bool.or_eq_false_iff, List.map_cons, List.cons.injEq, ih, bit_inj, bne_eq_false_iff_eq]
  | [], y :: m, _, _, h => by simp at h
  | x :: l, [], _, _, h => by simp at h

set_option maxRecDepth 100000 in
set_option maxHeartbeats 4000000 in
theorem unlike36_any (a b : PC.Circ) (va vb : Value) (v u : List UInt8) (w : World) (ha : IsCirc w va a) (hb : IsCirc w vb b) (hl : a.outputs.length = b.outputs.length) (hv : v.length ≤ 9223372036854775807) (hu : u.length ≤ 9223372036854775807) :
    Calls Tryz.prog 21 #[va, vb, .string ⟨v.toArray⟩, .string ⟨u.toArray⟩] w fun e w' => e = .returned (.bool (unlikeB a b v u)) ∧ Below w.heap.size w w' := by
  have HA := Lib.hid ha
  have HB := Lib.hid hb
  obtain ⟨xi, xj, xl, xm, xo, xp, xb, xc, xv, xw, xa, xq, xn, xr, rfl, hpa⟩ := row_slices ha
  obtain ⟨yi, yj, yl, ym, yo, yp, yb, yc, yv, yw, ya, yq, yn, yr, rfl, hpb⟩ := row_slices hb
  have HPA := Lib.hid hpa
  have HPB := Lib.hid hpb
  clear ha hb hpa hpb
  have r1 := (RowL.new (T := 27) w [.int .i64 a.max, .slice xi a.inputs.length xj, .slice xl a.latches.length xm, .slice xo a.outputs.length xp, .slice xb a.bads.length xc, .slice xv a.invars.length xw, .slice xa a.ands.length xq, .slice xn a.names.length xr]).mono ((Below.refl _ _).alloc (Nat.le_refl _) (.cells #[.int .i64 b.max, .slice yi b.inputs.length yj, .slice yl b.latches.length ym, .slice yo b.outputs.length yp, .slice yb b.bads.length yc, .slice yv b.invars.length yw, .slice ya b.ands.length yq, .slice yn b.names.length yr] 27))
  have r2 := RowL.new (T := 27) (w.alloc (.cells #[.int .i64 a.max, .slice xi a.inputs.length xj, .slice xl a.latches.length xm, .slice xo a.outputs.length xp, .slice xb a.bads.length xc, .slice xv a.invars.length xw, .slice xa a.ands.length xq, .slice xn a.names.length xr] 27)) [.int .i64 b.max, .slice yi b.inputs.length yj, .slice yl b.latches.length ym, .slice yo b.outputs.length yp, .slice yb b.bads.length yc, .slice yv b.invars.length yw, .slice ya b.ands.length yq, .slice yn b.names.length yr]
  rw [World.size_alloc] at r2
  have hb0 := ((Below.refl w.heap.size w).alloc (Nat.le_refl _) (.cells #[.int .i64 a.max, .slice xi a.inputs.length xj, .slice xl a.latches.length xm, .slice xo a.outputs.length xp, .slice xb a.bads.length xc, .slice xv a.invars.length xw, .slice xa a.ands.length xq, .slice xn a.names.length xr] 27)).alloc (by simp) (.cells #[.int .i64 b.max, .slice yi b.inputs.length yj, .slice yl b.latches.length ym, .slice yo b.outputs.length yp, .slice yb b.bads.length yc, .slice yv b.invars.length yw, .slice ya b.ands.length yq, .slice yn b.names.length yr] 27)
  obtain ⟨W, hW⟩ : ∃ W, W = (w.alloc (.cells #[.int .i64 a.max, .slice xi a.inputs.length xj, .slice xl a.latches.length xm, .slice xo a.outputs.length xp, .slice xb a.bads.length xc, .slice xv a.invars.length xw, .slice xa a.ands.length xq, .slice xn a.names.length xr] 27)).alloc (.cells #[.int .i64 b.max, .slice yi b.inputs.length yj, .slice yl b.latches.length ym, .slice yo b.outputs.length yp, .slice yb b.bads.length yc, .slice yv b.invars.length yw, .slice ya b.ands.length yq, .slice yn b.names.length yr] 27) := ⟨_, rfl⟩
  rw [← hW] at r1 r2 hb0
  have HW := Lib.hid hW
  have R1 := Lib.hid r1
  have R2 := Lib.hid r2
  have HB0 := Lib.hid hb0
  clear hW r1 r2 hb0
  have hAo : Hid (∀ j (hj : j < a.outputs.length), ∃ b off, xo = some ⟨b, off, none⟩ ∧ b < w.heap.size ∧ rng a.outputs[j] ∧ w.cell? ⟨b, off + j, none⟩ = some (.int .i64 a.outputs[j])) := by
    obtain ⟨_, _, e, _, _, h⟩ := HPA.out.outputs.open_
    cases e
    exact h
  have hBo : Hid (∀ j (hj : j < b.outputs.length), ∃ q off, yo = some ⟨q, off, none⟩ ∧ q < w.heap.size ∧ rng b.outputs[j] ∧ w.cell? ⟨q, off + j, none⟩ = some (.int .i64 b.outputs[j])) := by
    obtain ⟨_, _, e, _, _, h⟩ := HPB.out.outputs.open_
    cases e
    exact h
  have hcap : a.outputs.length ≤ 9223372036854775807 := by
    obtain ⟨_, _, e, h1, h2, _⟩ := HPA.out.outputs.open_
    omega
  have hzl : (a.outputs.zip b.outputs).length = a.outputs.length := by rw [List.length_zip]; omega
  obtain ⟨Z, hZ⟩ : ∃ Z, Z = a.outputs.zip b.outputs := ⟨_, rfl⟩
  have hz : Hid (∀ k (hk : k < a.outputs.length) (hk2 : k < Z.length) (hk3 : k < b.outputs.length), Z[k] = (a.outputs[k], b.outputs[k])) := fun k hk hk2 hk3 => by subst hZ; simp
  rw [← hZ] at hzl
  obtain ⟨R, hR⟩ : ∃ R, R = unlikeB a b v u := ⟨_, rfl⟩
  have HR : Hid (R = Z.any fun p => PC.tru v p.1 != PC.tru u p.2) := by show _ = _; rw [hR, hZ]; rfl
  rw [← hR]
  clear hR hZ
  have HL := Lib.hid hl
  have HZL := Lib.hid hzl
  clear hl hzl
  go_enter Tryz.func21, Tryz.ntmps21
  go_wp2_with fail
  rw [← HW.out]
  go_loopg [9] a.outputs.length (fun gg s9 wr => ∃ k : Nat, k ≤ a.outputs.length ∧ a.outputs.length - k ≤ gg ∧ s9 = .int .i64 k ∧ Hid (Below W.heap.size W wr) ∧ Aside (∀ j (_ : j < k) (h : j < Z.length), (PC.tru v Z[j].1 != PC.tru u Z[j].2) = false))
  case atStart => exact ⟨0, Nat.zero_le _, by omega, rfl, Below.refl _ _, fun j hj => absurd hj (Nat.not_lt_zero _)⟩
  case round =>
    obtain ⟨k, hk, hg, rfl, hbr, hA⟩ := hrel
    have p3 := (R1.out.mono hbr.out).cell 3 _ rfl
    by_cases hlt : k < a.outputs.length
    · have hmea : ∀ g : Nat, a.outputs.length - k ≤ g → a.outputs.length - (k + 1) < g := fun g h => by omega
      have hlb : k < b.outputs.length := by rw [← HL.out]; exact hlt
      obtain ⟨b1, o1, rfl, hl1, hr1, hc1⟩ := hAo.out k hlt
      obtain ⟨b2, o2, rfl, hl2, hr2, hc2⟩ := hBo.out k hlb
      have hBw := Below.of HB0.out hbr.out
      have l3 : ∀ x : Later wr, _ := fun x => (R1.out.mono (Below.of hbr.out x.below)).cell 3 _ rfl
      have m3 : ∀ x : Later wr, _ := fun x => (R2.out.mono (Below.of hbr.out x.below)).cell 3 _ rfl
      have hc1 : ∀ x : Later wr, x.at_.cell? ⟨b1, o1 + k, none⟩ = some (.int .i64 a.outputs[k]) := fun x => ((Below.of hBw x.below).cell hl1).trans hc1
      have hc2 : ∀ x : Later wr, x.at_.cell? ⟨b2, o2 + k, none⟩ = some (.int .i64 b.outputs[k]) := fun x => ((Below.of hBw x.below).cell hl2).trans hc2
      have hzk := Lib.hid (hz.out k hlt (by rw [HZL.out]; exact hlt) hlb)
      have HBW := Lib.hid hBw
      generalize a.outputs[k] = s at *
      generalize b.outputs[k] = t at *
      have t1 : ∀ x : Later wr, _ := fun x => rTrue_any v s x.at_ hr1 hv
      have t2 : ∀ x : Later wr, _ := fun x => rTrue_any u t x.at_ hr2 hu
      have hltz : (k : Int) < (a.outputs.length : Int) := by omega
      have hltb : (k : Int) < (b.outputs.length : Int) := by omega
      obtain ⟨tb, htb⟩ : ∃ x, x = PC.tru v s := ⟨_, rfl⟩
      obtain ⟨ub, hub⟩ : ∃ x, x = PC.tru u t := ⟨_, rfl⟩
      have htu : Hid ((PC.tru v s != PC.tru u t) = (tb != ub)) := by show _ = _; rw [htb, hub]
      rw [← htb] at t1
      rw [← hub] at t2
      clear htb hub hBw hr1 hr2
      cases hq : (tb != ub) with
      | true =>
        rw [hq] at htu
        have hq2 : (!(tb == ub)) = true := hq
        clear hq
        go_wp2_with fail
        refine wp_region_later (by kernel_rfl) (by kernel_rfl) ?_; (repeat (go_big_quiet_step ((first | (go_at_call 20; with_reducible exact Calls.later_same (t1 _)) | (go_at_call 20; with_reducible exact Calls.later_same (t2 _)))))); refine wpQuiet_nil ?_; rintro w3 ⟨⟨_, hb3⟩, rfl⟩
        go_wp2_with fail
        go_ret
        have hRt : R = true := by
          rw [HR.out, List.any_eq_true]
          exact ⟨_, List.getElem_mem (show k < Z.length by rw [HZL.out]; exact hlt), by rw [hzk.out]; exact htu.out⟩
        exact ⟨by rw [hRt]; rfl, Below.of HBW.out hb3⟩
      | false =>
        rw [hq] at htu
        have hq2 : (!(tb == ub)) = false := hq
        clear hq
        go_wp2_with fail
        refine wp_region_later (by kernel_rfl) (by kernel_rfl) ?_; (repeat (go_big_quiet_step ((first | (go_at_call 20; with_reducible exact Calls.later_same (t1 _)) | (go_at_call 20; with_reducible exact Calls.later_same (t2 _)))))); refine wpQuiet_nil ?_; rintro w3 ⟨⟨_, hb3⟩, rfl⟩
        have HB3 := Lib.hid (Below.of hbr.out hb3)
        go_wp2_with fail
        go_roundg (a.outputs.length - (k + 1))
        case measure => exact hmea _ hg
        case rel =>
          refine ⟨k + 1, by omega, by omega, by go_num, HB3.out, (show Aside _ from fun j hj h => ?_)⟩
          by_cases e : j = k
          · subst e; rw [hzk.out]; exact htu.out
          · exact hA.out j (by omega) h
    · have hltz : ¬ (k : Int) < (a.outputs.length : Int) := by omega
      obtain rfl : k = a.outputs.length := by omega
      go_wp2_with fail
      go_ret
      have hRf : R = false := by
        rw [HR.out, List.any_eq_false]
        intro p hp
        obtain ⟨j, hj, rfl⟩ := List.getElem_of_mem hp
        rw [hA.out j (by rw [HZL.out] at hj; exact hj) hj]
        decide
      exact ⟨by rw [hRf]; rfl, Below.of HB0.out hbr.out⟩

def firstL (c : PC.Circ) : List UInt8 := c.latches.map fun x => if x.reset = 1 then 49 else 48

theorem first_eq (c : PC.Circ) (h : PC.chk c = true) : fst0 c = firstL c := by
  rw [(fst0_ok c h).2]
  unfold firstR firstL
  apply List.ext_getElem
  · simp
  · intro k h1 h2
    simp only [List.getElem_map, List.getElem_zip, List.getElem_replicate]
    have hk : k < c.latches.length := by simpa using h2
    have := (PC.right_of c h).defs _ (PC.mem_defs_lat c _ (List.getElem_mem hk))
    unfold rst
    split
    · rename_i e
      rw [if_neg (by omega)]
    · rfl

set_option maxRecDepth 100000 in
set_option maxHeartbeats 4000000 in
theorem first36_any (c : PC.Circ) (vc : Value) (w : World) (h : IsCirc w vc c) (hl : c.latches.length ≤ 64) :
    Calls Tryz.prog 23 #[vc] w fun e w' => e = .returned (.string ⟨(firstL c).toArray⟩) ∧ Below w.heap.size w w' := by
  obtain ⟨xi, xj, xl, xm, xo, xp, xb, xc, xv, xw, xa, xq, xn, xr, rfl, hp⟩ := row_slices h
  have hL : Hid (∀ j (hj : j < c.latches.length), ∃ b off, xl = some ⟨b, off, none⟩ ∧ b < w.heap.size ∧ (rng c.latches[j].lit ∧ rng c.latches[j].next ∧ rng c.latches[j].reset) ∧ w.cell? ⟨b, off + j * 3, none⟩ = some (.int .i64 c.latches[j].lit) ∧ w.cell? ⟨b, off + j * 3 + 1, none⟩ = some (.int .i64 c.latches[j].next) ∧ w.cell? ⟨b, off + j * 3 + 2, none⟩ = some (.int .i64 c.latches[j].reset)) := by
    obtain ⟨_, _, e, _, _, h⟩ := hp.latches.open_
    cases e
    exact h
  clear h hp
  have r1 := RowL.new (T := 27) w [.int .i64 c.max, .slice xi c.inputs.length xj, .slice xl c.latches.length xm, .slice xo c.outputs.length xp, .slice xb c.bads.length xc, .slice xv c.invars.length xw, .slice xa c.ands.length xq, .slice xn c.names.length xr]
  have hb0 := (Below.refl w.heap.size w).alloc (Nat.le_refl _) (.cells #[.int .i64 c.max, .slice xi c.inputs.length xj, .slice xl c.latches.length xm, .slice xo c.outputs.length xp, .slice xb c.bads.length xc, .slice xv c.invars.length xw, .slice xa c.ands.length xq, .slice xn c.names.length xr] 27)
  obtain ⟨W, hW⟩ : ∃ W, W = w.alloc (.cells #[.int .i64 c.max, .slice xi c.inputs.length xj, .slice xl c.latches.length xm, .slice xo c.outputs.length xp, .slice xb c.bads.length xc, .slice xv c.invars.length xw, .slice xa c.ands.length xq, .slice xn c.names.length xr] 27) := ⟨_, rfl⟩
  rw [← hW] at r1 hb0
  have p2 := r1.cell 2 _ rfl
  have HB0 := Lib.hid hb0
  have HW := Lib.hid hW
  have hfl : Hid ((firstL c).length = c.latches.length) := by show _ = _; simp [firstL]
  obtain ⟨F, hF⟩ : ∃ F, F = firstL c := ⟨_, rfl⟩
  have hFg : Hid (∀ k (hk : k < c.latches.length) (hk2 : k < F.length), F[k] = if c.latches[k].reset = 1 then 49 else 48) := fun k hk hk2 => by subst hF; simp [firstL]
  rw [← hF] at hfl ⊢
  clear hW r1 hb0 hF
  go_enter Tryz.func23, Tryz.ntmps23
  go_wp2_with fail
  rw [← HW.out]
  go_loopg [3, 4] c.latches.length (fun gg s3 s4 wr => ∃ k : Nat, k ≤ c.latches.length ∧ c.latches.length - k ≤ gg ∧ s3 = .string ⟨(F.take k).toArray⟩ ∧ s4 = .int .i64 k ∧ W = wr)
  case atStart => exact ⟨0, Nat.zero_le _, by omega, rfl, rfl, rfl⟩
  case round =>
    obtain ⟨k, hk, hg, rfl, rfl, rfl⟩ := hrel
    by_cases hlt : k < c.latches.length
    · have hmea : ∀ g : Nat, c.latches.length - k ≤ g → c.latches.length - (k + 1) < g := fun g h => by omega
      obtain ⟨b, off, rfl, hbs, _, _, _, c2⟩ := hL.out k hlt
      have c2 := (HB0.out.cell hbs).trans c2
      have hkn : k < F.length := by rw [hfl.out]; exact hlt
      have hnx := hFg.out k hlt hkn
      have hst : F.take (k + 1) = F.take k ++ [F[k]] := List.take_succ_eq_append_getElem hkn
      rw [hnx] at hst
      have htl : (F.take k).length = k := by rw [List.length_take]; omega
      have hltz : (k : Int) < (c.latches.length : Int) := by omega
      have hk1 : k + 1 ≤ 9223372036854775807 := by omega
      have hk2 : (k : Int) + 1 ≤ 9223372036854775807 := by omega
      generalize c.latches[k].reset = r at *
      clear hnx
      by_cases hr : r = 1
      · have hrb : (r == 1) = true := by simpa using hr
        rw [if_pos hr] at hst
        have hcat : (ByteArray.mk (F.take k).toArray) ++ (ByteArray.mk #[49]) = ⟨(F.take (k + 1)).toArray⟩ := by rw [hst]; exact cat_eq _ [_]
        obtain ⟨X, hX⟩ : ∃ X, X = F.take k := ⟨_, rfl⟩
        rw [← hX] at hcat htl ⊢
        clear hst hX hr
        go_wp2_with fail
        go_roundg (c.latches.length - (k + 1))
        case measure => exact hmea _ hg
        case rel => exact ⟨k + 1, by omega, by omega, rfl, by go_num, rfl⟩
      · have hrb : (r == 1) = false := by simpa using hr
        rw [if_neg hr] at hst
        have hcat : (ByteArray.mk (F.take k).toArray) ++ (ByteArray.mk #[48]) = ⟨(F.take (k + 1)).toArray⟩ := by rw [hst]; exact cat_eq _ [_]
        obtain ⟨X, hX⟩ : ∃ X, X = F.take k := ⟨_, rfl⟩
        rw [← hX] at hcat htl ⊢
        clear hst hX hr
        go_wp2_with fail
        go_roundg (c.latches.length - (k + 1))
        case measure => exact hmea _ hg
        case rel => exact ⟨k + 1, by omega, by omega, rfl, by go_num, rfl⟩
    · have hltz : ¬ (k : Int) < (c.latches.length : Int) := by omega
      obtain rfl : k = c.latches.length := by omega
      have hfl2 := hfl.out
      go_wp2_with fail
      go_ret
      rw [← hfl2, List.take_length]
      exact ⟨rfl, HB0.out⟩

end Go.Proofs.YtpkaoabpifeigaaGreatDoor

namespace Go.Proofs.YtpkaoabpifeigaaGreatDoor
open Go.RowKit Go.Shelf
attribute [local simp] mk_get

theorem dif_facts (a b : PC.Circ) (ins : List (List UInt8)) : (PC.togE a b ≠ 0 → PC.difE a b ins = PC.togE a b ∧ difV a b ins = 0) ∧
    (PC.togE a b = 0 → PC.badIns a.inputs.length ins = true → PC.difE a b ins = 5 ∧ difV a b ins = 0) ∧
    (PC.togE a b = 0 → PC.badIns a.inputs.length ins = false → PC.difE a b ins = 0 ∧ difV a b ins = PC.difN a b (fst0 a) (fst0 b) ins 0) := by
  refine ⟨fun h => ?_, fun h hb => ?_, fun h hb => ?_⟩
  · have : PC.difE a b ins = PC.togE a b := by rw [PC.difE, if_pos h]
    exact ⟨this, by rw [difV, this, if_pos h]⟩
  · have : PC.difE a b ins = 5 := by rw [PC.difE, if_neg (by rw [h]; decide), if_pos hb]
    exact ⟨this, by rw [difV, this, if_pos (by decide)]⟩
  · have : PC.difE a b ins = 0 := by rw [PC.difE, if_neg (by rw [h]; decide), if_neg (by rw [hb]; decide)]
    exact ⟨this, by rw [difV, this, if_neg (by decide)]⟩

theorem vals_ok {c : PC.Circ} {st inp : List UInt8} (hck : PC.chk c = true) (hs : PC.bitsOk st c.latches.length = true) (hi : PC.bitsOk inp c.inputs.length = true) :
    PC.valuesE c st inp = 0 ∧ PC.valuesS c st inp = PC.vals c st inp ∧ nextS c st inp = PC.nexts c (PC.vals c st inp) := by
  have hE : PC.valuesE c st inp = 0 := by unfold PC.valuesE; rw [if_neg (by rw [hck]; decide), if_neg (by rw [hs, hi]; decide)]
  exact ⟨hE, by unfold PC.valuesS; rw [if_pos hE], by unfold nextS; rw [if_pos hE]⟩

set_option maxRecDepth 100000 in
set_option maxHeartbeats 16000000 in
theorem mDiffers_walk (a : PC.Circ) (va : Value) (b : PC.Circ) (vb vs : Value) (ins : List (List UInt8)) (w : World) (ha : IsCirc w va a) (fa : Fits a) (hb : IsCirc w vb b) (fb : Fits b) (hs : Strs w vs ins) :
    Calls Tryz.prog 6 #[va, vb, vs] w fun e w' => e = .returned (.bool true) ∧ Below w.heap.size w w' := by
  have HA := Lib.hid ha
  have HB := Lib.hid hb
  obtain ⟨xi, xj, xl, xm, xo, xp, xb, xc, xv, xw, xa, xq, xn, xr, rfl, hpa⟩ := row_slices ha
  obtain ⟨yi, yj, yl, ym, yo, yp, yb, yc, yv, yw, ya, yq, yn, yr, rfl, hpb⟩ := row_slices hb
  have HPA := Lib.hid hpa
  have HPB := Lib.hid hpb
  clear ha hb hpa hpb
  have r1 := (RowL.new (T := 27) w [.int .i64 a.max, .slice xi a.inputs.length xj, .slice xl a.latches.length xm, .slice xo a.outputs.length xp, .slice xb a.bads.length xc, .slice xv a.invars.length xw, .slice xa a.ands.length xq, .slice xn a.names.length xr]).mono ((Below.refl _ _).alloc (Nat.le_refl _) (.cells #[.int .i64 b.max, .slice yi b.inputs.length yj, .slice yl b.latches.length ym, .slice yo b.outputs.length yp, .slice yb b.bads.length yc, .slice yv b.invars.length yw, .slice ya b.ands.length yq, .slice yn b.names.length yr] 27))
  have r2 := RowL.new (T := 27) (w.alloc (.cells #[.int .i64 a.max, .slice xi a.inputs.length xj, .slice xl a.latches.length xm, .slice xo a.outputs.length xp, .slice xb a.bads.length xc, .slice xv a.invars.length xw, .slice xa a.ands.length xq, .slice xn a.names.length xr] 27)) [.int .i64 b.max, .slice yi b.inputs.length yj, .slice yl b.latches.length ym, .slice yo b.outputs.length yp, .slice yb b.bads.length yc, .slice yv b.invars.length yw, .slice ya b.ands.length yq, .slice yn b.names.length yr]
  rw [World.size_alloc] at r2
  have hb0 := ((Below.refl w.heap.size w).alloc (Nat.le_refl _) (.cells #[.int .i64 a.max, .slice xi a.inputs.length xj, .slice xl a.latches.length xm, .slice xo a.outputs.length xp, .slice xb a.bads.length xc, .slice xv a.invars.length xw, .slice xa a.ands.length xq, .slice xn a.names.length xr] 27)).alloc (by simp) (.cells #[.int .i64 b.max, .slice yi b.inputs.length yj, .slice yl b.latches.length ym, .slice yo b.outputs.length yp, .slice yb b.bads.length yc, .slice yv b.invars.length yw, .slice ya b.ands.length yq, .slice yn b.names.length yr] 27)
  obtain ⟨W, hW⟩ : ∃ W, W = (w.alloc (.cells #[.int .i64 a.max, .slice xi a.inputs.length xj, .slice xl a.latches.length xm, .slice xo a.outputs.length xp, .slice xb a.bads.length xc, .slice xv a.invars.length xw, .slice xa a.ands.length xq, .slice xn a.names.length xr] 27)).alloc (.cells #[.int .i64 b.max, .slice yi b.inputs.length yj, .slice yl b.latches.length ym, .slice yo b.outputs.length yp, .slice yb b.bads.length yc, .slice yv b.invars.length yw, .slice ya b.ands.length yq, .slice yn b.names.length yr] 27) := ⟨_, rfl⟩
  rw [← hW] at r1 r2 hb0
  have HW := Lib.hid hW
  have R1 := Lib.hid r1
  have R2 := Lib.hid r2
  have HB0 := Lib.hid hb0
  clear hW r1 r2 hb0
  have HSt := Lib.hid hs
  obtain ⟨so, sc, rfl, hs1, hs2, hs3⟩ := hs.open_
  have HS3 := Lib.hid hs3
  clear hs hs3
  obtain ⟨f1, f2, f3⟩ := dif_facts a b ins
  have F1 := Lib.hid f1
  have F2 := Lib.hid f2
  have F3 := Lib.hid f3
  clear f1 f2 f3
  obtain ⟨T, hT⟩ : ∃ T, T = PC.togE a b := ⟨_, rfl⟩
  obtain ⟨E, hE⟩ : ∃ E, E = PC.difE a b ins := ⟨_, rfl⟩
  obtain ⟨V, hV⟩ : ∃ V, V = difV a b ins := ⟨_, rfl⟩
  rw [← hT, ← hE, ← hV] at F1 F2 F3
  go_enter Tryz.func6, Tryz.ntmps6
  go_wp2_with fail
  rw [← HW.out]
  refine (alive36_any _).mono ?_
  rintro e w1 ⟨rfl, hb1⟩
  have HB1 := Lib.hid (Below.of HB0.out hb1)
  have S1 := Lib.hid (R1.out.mono hb1)
  have S2 := Lib.hid (R2.out.mono hb1)
  clear hb1 R1 R2 HB0 HW
  have hD := Lib.hid (mDiffer_any a b _ _ _ ins w1 (HA.out.mono HB1.out) (HB.out.mono HB1.out) (HSt.out.mono HB1.out))
  rw [← hE, ← hV] at hD
  have hTg : Hid (∀ y, Below w1.heap.size w1 y → _) := fun y hy => together36_any a b _ _ y (HA.out.mono (Below.of HB1.out hy)) (HB.out.mono (Below.of HB1.out hy)) fa fb
  rw [← hT] at hTg
  have HT := Lib.hid hT
  clear hT hE hV
  have q := S1.out
  have q0 := q.cell 0 _ rfl
  have q1 := q.cell 1 _ rfl
  have q2 := q.cell 2 _ rfl
  have q3 := q.cell 3 _ rfl
  have q4 := q.cell 4 _ rfl
  have q5 := q.cell 5 _ rfl
  have q6 := q.cell 6 _ rfl
  have q7 := q.cell 7 _ rfl
  have z := S2.out
  have z0 := z.cell 0 _ rfl
  have z1 := z.cell 1 _ rfl
  have z2 := z.cell 2 _ rfl
  have z3 := z.cell 3 _ rfl
  have z4 := z.cell 4 _ rfl
  have z5 := z.cell 5 _ rfl
  have z6 := z.cell 6 _ rfl
  have z7 := z.cell 7 _ rfl
  go_wp2_with fail
  refine hD.out.mono ?_
  rintro e w2 ⟨rfl, hb2⟩
  clear q q0 q1 q2 q3 q4 q5 q6 q7
  clear z z0 z1 z2 z3 z4 z5 z6 z7
  have hT2 := Lib.hid (hTg.out w2 hb2)
  have HB2 := Lib.hid (Below.of HB1.out hb2)
  have T1 := Lib.hid (S1.out.mono hb2)
  have T2 := Lib.hid (S2.out.mono hb2)
  clear hb2 S1 S2 HB1 hD hTg
  have q := T1.out
  have q0 := q.cell 0 _ rfl
  have q1 := q.cell 1 _ rfl
  have q2 := q.cell 2 _ rfl
  have q3 := q.cell 3 _ rfl
  have q4 := q.cell 4 _ rfl
  have q5 := q.cell 5 _ rfl
  have q6 := q.cell 6 _ rfl
  have q7 := q.cell 7 _ rfl
  have z := T2.out
  have z0 := z.cell 0 _ rfl
  have z1 := z.cell 1 _ rfl
  have z2 := z.cell 2 _ rfl
  have z3 := z.cell 3 _ rfl
  have z4 := z.cell 4 _ rfl
  have z5 := z.cell 5 _ rfl
  have z6 := z.cell 6 _ rfl
  have z7 := z.cell 7 _ rfl
  go_wp2_with fail
  refine hT2.out.mono ?_
  rintro e w3 ⟨rfl, hb3⟩
  clear q q0 q1 q2 q3 q4 q5 q6 q7
  clear z z0 z1 z2 z3 z4 z5 z6 z7
  have HB3 := Lib.hid (Below.of HB2.out hb3)
  have U1 := Lib.hid (T1.out.mono hb3)
  have U2 := Lib.hid (T2.out.mono hb3)
  clear hb3 T1 T2 HB2 hT2
  obtain ⟨X, hX⟩ : ∃ X, X = w3 := ⟨_, rfl⟩
  subst hX
  have hNum := Lib.hid fun x w => num36_any x w
  by_cases hz : T = 0
  case neg =>
    have hzb : (T != 0) = true := by simpa using hz
    obtain ⟨rfl, rfl⟩ := F1.out hz
    have hee : (E == E) = true := by simp
    clear hz
    go_wp2_with (go_at_call 15; refine (hNum.out _ _).mono ?_; rintro e w4 ⟨rfl, rfl⟩)
    go_ret
    exact ⟨by simp, HB3.out⟩
  case pos =>
    have hzb : (T != 0) = false := by simpa using hz
    have hO := Lib.hid (PC.tog_ok (HT.out.symm.trans hz))
    have G2 := Lib.hid (F2.out hz)
    have G3 := Lib.hid (F3.out hz)
    clear F1 F2 F3 HT
    subst hz
    have hiL := Lib.hid (PC.right_of a hO.out.1).ins
    cases hbi : PC.badIns a.inputs.length ins with
    | true =>
      obtain ⟨rfl, rfl⟩ := G2.out hbi
      have HBI := Lib.hid hbi
      clear hbi G2 G3
      go_wp2_with fail
      go_loopg [10] ins.length (fun gg s10 wr => ∃ k : Nat, k ≤ ins.length ∧ ins.length - k ≤ gg ∧ s10 = .int .i64 k ∧ Hid (Below X.heap.size X wr) ∧ Aside (∀ j (_ : j < k) (h : j < ins.length), PC.bitsOk ins[j] a.inputs.length = true))
      case atStart => exact ⟨0, Nat.zero_le _, by omega, rfl, Below.refl _ _, fun j hj => absurd hj (Nat.not_lt_zero _)⟩
      case round =>
        obtain ⟨k, hk, hg, rfl, hbr, hA⟩ := hrel
        by_cases hlt : k < ins.length
        · have hmea : ∀ g : Nat, ins.length - k ≤ g → ins.length - (k + 1) < g := fun g h => by omega
          obtain ⟨b1, o1, rfl, hl1, hr1, hc1⟩ := HS3.out k hlt
          have hBw := Below.of HB3.out hbr.out
          have l1 : ∀ x : Later wr, _ := fun x => (U1.out.mono (Below.of hbr.out x.below)).cell 1 _ rfl
          have hc1 : ∀ x : Later wr, x.at_.cell? ⟨b1, o1 + k, none⟩ = some (.string ⟨(ins[k]).toArray⟩) := fun x => ((Below.of hBw x.below).cell hl1).trans hc1
          have hB : ∀ x : Later wr, _ := fun x => rBits_any ins[k] a.inputs.length x.at_ hr1
          have hltz : (k : Int) < (ins.length : Int) := by omega
          have hkk := Lib.hid (rfl : PC.bitsOk ins[k] a.inputs.length = PC.bitsOk ins[k] a.inputs.length)
          obtain ⟨bo, hbo⟩ : ∃ x, x = PC.bitsOk ins[k] a.inputs.length := ⟨_, rfl⟩
          rw [← hbo] at hB
          have HBO := Lib.hid hbo
          have hmem := Lib.hid (List.getElem_mem hlt)
          clear hbo hBw hr1 hkk
          cases bo with
          | false =>
            go_wp2_with fail
            refine wp_region_later (by kernel_rfl) (by kernel_rfl) ?_; (repeat (go_big_quiet_step ((go_at_call 22; with_reducible exact Calls.later_same (hB _))))); refine wpQuiet_nil ?_; rintro w3 ⟨⟨_, hb3⟩, rfl⟩
            go_wp2_with fail
            go_ret
            exact ⟨rfl, Below.of (Below.of HB3.out hbr.out) hb3⟩
          | true =>
            go_wp2_with fail
            refine wp_region_later (by kernel_rfl) (by kernel_rfl) ?_; (repeat (go_big_quiet_step ((go_at_call 22; with_reducible exact Calls.later_same (hB _))))); refine wpQuiet_nil ?_; rintro w3 ⟨⟨_, hb3⟩, rfl⟩
            have HBn := Lib.hid (Below.of hbr.out hb3)
            go_wp2_with fail
            go_roundg (ins.length - (k + 1))
            case measure => exact hmea _ hg
            case rel =>
              refine ⟨k + 1, by omega, by omega, by go_num, HBn.out, (show Aside _ from fun j hj h => ?_)⟩
              by_cases e : j = k
              · subst e; exact HBO.out.symm
              · exact hA.out j (by omega) h
        · have hltz : ¬ (k : Int) < (ins.length : Int) := by omega
          obtain rfl : k = ins.length := by omega
          exfalso
          obtain ⟨s, hs, hx⟩ := List.any_eq_true.1 HBI.out
          obtain ⟨j, hj, rfl⟩ := List.getElem_of_mem hs
          have := hA.out j hj hj
          rw [this] at hx
          cases hx
    | false =>
      obtain ⟨rfl, hVd⟩ := G3.out hbi
      have HV := Lib.hid hVd
      have hIn : Hid (∀ s ∈ ins, PC.bitsOk s a.inputs.length = true) := fun s hs => by
        have := List.any_eq_false.1 hbi s hs
        simpa using this
      clear hbi G2 G3 hVd
      go_wp2_with fail
      go_loopg [10] ins.length (fun gg s10 wr => ∃ k : Nat, k ≤ ins.length ∧ ins.length - k ≤ gg ∧ s10 = .int .i64 k ∧ Hid (Below X.heap.size X wr) ∧ Aside (∀ j (_ : j < k) (h : j < ins.length), PC.bitsOk ins[j] a.inputs.length = true))
      case atStart => exact ⟨0, Nat.zero_le _, by omega, rfl, Below.refl _ _, fun j hj => absurd hj (Nat.not_lt_zero _)⟩
      case round =>
        obtain ⟨k, hk, hg, rfl, hbr, hA⟩ := hrel
        by_cases hlt : k < ins.length
        · have hmea : ∀ g : Nat, ins.length - k ≤ g → ins.length - (k + 1) < g := fun g h => by omega
          obtain ⟨b1, o1, rfl, hl1, hr1, hc1⟩ := HS3.out k hlt
          have hBw := Below.of HB3.out hbr.out
          have l1 : ∀ x : Later wr, _ := fun x => (U1.out.mono (Below.of hbr.out x.below)).cell 1 _ rfl
          have hc1 : ∀ x : Later wr, x.at_.cell? ⟨b1, o1 + k, none⟩ = some (.string ⟨(ins[k]).toArray⟩) := fun x => ((Below.of hBw x.below).cell hl1).trans hc1
          have hB : ∀ x : Later wr, _ := fun x => rBits_any ins[k] a.inputs.length x.at_ hr1
          have hltz : (k : Int) < (ins.length : Int) := by omega
          have hkk := Lib.hid (rfl : PC.bitsOk ins[k] a.inputs.length = PC.bitsOk ins[k] a.inputs.length)
          obtain ⟨bo, hbo⟩ : ∃ x, x = PC.bitsOk ins[k] a.inputs.length := ⟨_, rfl⟩
          rw [← hbo] at hB
          have HBO := Lib.hid hbo
          have hmem := Lib.hid (List.getElem_mem hlt)
          clear hbo hBw hr1 hkk
          have hbt := hIn.out _ hmem.out
          rw [← HBO.out] at hbt
          subst hbt
          go_wp2_with fail
          refine wp_region_later (by kernel_rfl) (by kernel_rfl) ?_; (repeat (go_big_quiet_step ((go_at_call 22; with_reducible exact Calls.later_same (hB _))))); refine wpQuiet_nil ?_; rintro w3 ⟨⟨_, hb3⟩, rfl⟩
          have HBn := Lib.hid (Below.of hbr.out hb3)
          go_wp2_with fail
          go_roundg (ins.length - (k + 1))
          case measure => exact hmea _ hg
          case rel =>
            refine ⟨k + 1, by omega, by omega, by go_num, HBn.out, (show Aside _ from fun j hj h => ?_)⟩
            by_cases e : j = k
            · subst e; exact HBO.out.symm
            · exact hA.out j (by omega) h
        · have hltz : ¬ (k : Int) < (ins.length : Int) := by omega
          obtain rfl : k = ins.length := by omega
          obtain ⟨Y, hY⟩ : ∃ Y, Y = wr := ⟨_, rfl⟩
          subst hY
          have HBY := Lib.hid (Below.of HB3.out hbr.out)
          have Y1 := Lib.hid (U1.out.mono hbr.out)
          have Y2 := Lib.hid (U2.out.mono hbr.out)
          have hF1 : ∀ x : Later Y, _ := fun x => first36_any a _ x.at_ (HA.out.mono (Below.of HBY.out x.below)) (PC.right_of a hO.out.1).lats
          have hF2 : ∀ x : Later Y, _ := fun x => first36_any b _ x.at_ (HB.out.mono (Below.of HBY.out x.below)) (PC.right_of b hO.out.2.1).lats
          rw [← first_eq a hO.out.1] at hF1
          rw [← first_eq b hO.out.2.1] at hF2
          have hb1 := Lib.hid (fst0_ok a hO.out.1).1
          have hb2 := Lib.hid (fst0_ok b hO.out.2.1).1
          generalize fst0 a = xa0 at *
          generalize fst0 b = xb0 at *
          have l0 : ∀ x : Later Y, _ := fun x => (Y1.out.mono x.below).cell 0 _ rfl
          have l1 : ∀ x : Later Y, _ := fun x => (Y1.out.mono x.below).cell 1 _ rfl
          have l2 : ∀ x : Later Y, _ := fun x => (Y1.out.mono x.below).cell 2 _ rfl
          have l3 : ∀ x : Later Y, _ := fun x => (Y1.out.mono x.below).cell 3 _ rfl
          have l4 : ∀ x : Later Y, _ := fun x => (Y1.out.mono x.below).cell 4 _ rfl
          have l5 : ∀ x : Later Y, _ := fun x => (Y1.out.mono x.below).cell 5 _ rfl
          have l6 : ∀ x : Later Y, _ := fun x => (Y1.out.mono x.below).cell 6 _ rfl
          have l7 : ∀ x : Later Y, _ := fun x => (Y1.out.mono x.below).cell 7 _ rfl
          have m0 : ∀ x : Later Y, _ := fun x => (Y2.out.mono x.below).cell 0 _ rfl
          have m1 : ∀ x : Later Y, _ := fun x => (Y2.out.mono x.below).cell 1 _ rfl
          have m2 : ∀ x : Later Y, _ := fun x => (Y2.out.mono x.below).cell 2 _ rfl
          have m3 : ∀ x : Later Y, _ := fun x => (Y2.out.mono x.below).cell 3 _ rfl
          have m4 : ∀ x : Later Y, _ := fun x => (Y2.out.mono x.below).cell 4 _ rfl
          have m5 : ∀ x : Later Y, _ := fun x => (Y2.out.mono x.below).cell 5 _ rfl
          have m6 : ∀ x : Later Y, _ := fun x => (Y2.out.mono x.below).cell 6 _ rfl
          have m7 : ∀ x : Later Y, _ := fun x => (Y2.out.mono x.below).cell 7 _ rfl
          clear hg hk hlt hA hbr U1 U2 HB3
          go_wp2_with fail
          refine wp_region_later (by kernel_rfl) (by kernel_rfl) ?_; (repeat (go_big_quiet_step ((first | (go_at_call 23; with_reducible exact Calls.later (hF1 _)) | (go_at_call 23; with_reducible exact Calls.later (hF2 _)))))); refine wpQuiet_nil ?_; rintro w3 ⟨⟨_, hb3⟩, rfl⟩
          have HBZ := Lib.hid (Below.of HBY.out hb3)
          have Z1 := Lib.hid (Y1.out.mono hb3)
          have Z2 := Lib.hid (Y2.out.mono hb3)
          clear l0 l1 l2 l3 l4 l5 l6 l7 m0 m1 m2 m3 m4 m5 m6 m7 hF1 hF2 hb3 Y1 Y2 HBY
          obtain ⟨Z, hZ⟩ : ∃ Z, Z = w3 := ⟨_, rfl⟩
          subst hZ
          go_wp2_with fail
          go_loopg [11, 12, 13] ins.length (fun gg s11 s12 s13 wr => ∃ (k : Nat) (x y : List UInt8), k ≤ ins.length ∧ ins.length - k ≤ gg ∧ s13 = .int .i64 k ∧ s11 = .string ⟨x.toArray⟩ ∧ s12 = .string ⟨y.toArray⟩ ∧ Hid (Below Z.heap.size Z wr) ∧ Hid (PC.bitsOk x a.latches.length = true ∧ PC.bitsOk y b.latches.length = true) ∧ Hid (V = PC.difN a b x y (ins.drop k) k))
          case atStart => exact ⟨0, _, _, Nat.zero_le _, by omega, rfl, rfl, rfl, Below.refl _ _, ⟨hb1.out, hb2.out⟩, by show _ = _; rw [List.drop_zero]; exact HV.out⟩
          case round =>
            obtain ⟨k, x, y, hk, hg, rfl, rfl, rfl, hbr, hbt, hdf⟩ := hrel
            have HBw := Lib.hid (Below.of HBZ.out hbr.out)
            have V1 := Lib.hid (Z1.out.mono hbr.out)
            have V2 := Lib.hid (Z2.out.mono hbr.out)
            by_cases hlt : k < ins.length
            · have hmea : ∀ g : Nat, ins.length - k ≤ g → ins.length - (k + 1) < g := fun g h => by omega
              have hdr : Hid (ins.drop k = ins[k] :: ins.drop (k + 1)) := List.drop_eq_getElem_cons hlt
              have hib := hIn.out _ (List.getElem_mem hlt)
              obtain ⟨bq, oq, rfl, hl1, hr1, hc1⟩ := HS3.out k hlt
              have hcell : Hid (∀ y, Below wr.heap.size wr y → y.cell? ⟨bq, oq + k, none⟩ = some (.string ⟨(ins[k]).toArray⟩)) := fun y hy => ((Below.of HBw.out hy).cell hl1).trans hc1
              generalize ins[k] = s at *
              obtain ⟨a1, a2, a3⟩ := vals_ok hO.out.1 hbt.out.1 hib
              obtain ⟨c1, c2, c3⟩ := vals_ok hO.out.2.1 hbt.out.2 (by rw [← hO.out.2.2.1]; exact hib)
              have hla := (PC.bitsOk_mem hbt.out.1).2
              have hlb := (PC.bitsOk_mem hbt.out.2).2
              have hli := (PC.bitsOk_mem hib).2
              have q64a := (PC.right_of a hO.out.1).lats
              have q64b := (PC.right_of b hO.out.2.1).lats
              have hi64 := hiL.out
              have hVa : Hid (∀ y, Below wr.heap.size wr y → _) := fun z hz => rValues_any a _ x s z (HA.out.mono (Below.of HBw.out hz)) fa (by omega) (by omega)
              have hVb : Hid (∀ y, Below wr.heap.size wr y → _) := fun z hz => rValues_any b _ y s z (HB.out.mono (Below.of HBw.out hz)) fb (by omega) (by omega)
              have hNa : Hid (∀ y, Below wr.heap.size wr y → _) := fun z hz => rNext_any a _ x s z (HA.out.mono (Below.of HBw.out hz)) fa (by omega) (by omega)
              have hNb : Hid (∀ y, Below wr.heap.size wr y → _) := fun z hz => rNext_any b _ y s z (HB.out.mono (Below.of HBw.out hz)) fb (by omega) (by omega)
              rw [a1, a2] at hVa
              rw [c1, c2] at hVb
              rw [a1, a3] at hNa
              rw [c1, c3] at hNb
              have hvl1 : (PC.vals a x s).length ≤ 9223372036854775807 := by rw [PC.vals_length]; have := (PC.right_of a hO.out.1).max1; omega
              have hvl2 : (PC.vals b y s).length ≤ 9223372036854775807 := by rw [PC.vals_length]; have := (PC.right_of b hO.out.2.1).max1; omega
              have hUn : Hid (∀ y', Below wr.heap.size wr y' → _) := fun z hz => unlike36_any a b _ _ (PC.vals a x s) (PC.vals b y s) z (HA.out.mono (Below.of HBw.out hz)) (HB.out.mono (Below.of HBw.out hz)) hO.out.2.2.2 hvl1 hvl2
              have hst : Hid (PC.difN a b x y (s :: ins.drop (k + 1)) k = if unlikeB a b (PC.vals a x s) (PC.vals b y s) = false then PC.difN a b (PC.nexts a (PC.vals a x s)) (PC.nexts b (PC.vals b y s)) (ins.drop (k + 1)) (k + 1) else k) := by
                show _ = _
                rw [PC.difN]
                have e := unlike_outs a.outputs b.outputs (PC.vals a x s) (PC.vals b y s) hO.out.2.2.2
                by_cases hq : unlikeB a b (PC.vals a x s) (PC.vals b y s) = false
                · rw [if_pos hq, if_pos (show PC.outsB a _ = PC.outsB b _ from e.1 hq)]
                · rw [if_neg hq, if_neg (show ¬ PC.outsB a _ = PC.outsB b _ from fun h => hq (e.2 h))]
              have hnA := Lib.hid (PC.nexts_bits a (PC.vals a x s))
              have hnB := Lib.hid (PC.nexts_bits b (PC.vals b y s))
              generalize PC.nexts a (PC.vals a x s) = NA at *
              generalize PC.nexts b (PC.vals b y s) = NB at *
              obtain ⟨U, hU⟩ : ∃ U, U = unlikeB a b (PC.vals a x s) (PC.vals b y s) := ⟨_, rfl⟩
              rw [← hU] at hUn hst
              clear hU
              generalize PC.vals a x s = VA at *
              generalize PC.vals b y s = VB at *
              have hltz : (k : Int) < (ins.length : Int) := by omega
              clear a1 a2 a3 c1 c2 c3 hla hlb hli q64a q64b hi64 hvl1 hvl2 hib hr1 hc1
              obtain ⟨Q, hQ⟩ : ∃ Q, Q = wr := ⟨_, rfl⟩
              subst hQ
              have d1 : ∀ x : Later Q, _ := fun x => hVa.out x.at_ x.below
              have d0 : ∀ x : Later Q, _ := fun x => hcell.out x.at_ x.below
              have l0 : ∀ x : Later Q, _ := fun x => (V1.out.mono x.below).cell 0 _ rfl
              have l1 : ∀ x : Later Q, _ := fun x => (V1.out.mono x.below).cell 1 _ rfl
              have l2 : ∀ x : Later Q, _ := fun x => (V1.out.mono x.below).cell 2 _ rfl
              have l3 : ∀ x : Later Q, _ := fun x => (V1.out.mono x.below).cell 3 _ rfl
              have l4 : ∀ x : Later Q, _ := fun x => (V1.out.mono x.below).cell 4 _ rfl
              have l5 : ∀ x : Later Q, _ := fun x => (V1.out.mono x.below).cell 5 _ rfl
              have l6 : ∀ x : Later Q, _ := fun x => (V1.out.mono x.below).cell 6 _ rfl
              have l7 : ∀ x : Later Q, _ := fun x => (V1.out.mono x.below).cell 7 _ rfl
              go_wp2_with fail
              refine wp_region_later (by kernel_rfl) (by kernel_rfl) ?_; (repeat (go_big_quiet_step ((go_at_call 16; with_reducible exact Calls.later (d1 _))))); refine wpQuiet_nil ?_; rintro w3 ⟨⟨_, hb3⟩, rfl⟩
              have B1 := Lib.hid hb3
              clear l0 l1 l2 l3 l4 l5 l6 l7 d0 d1 hb3
              obtain ⟨Q1, hQ⟩ : ∃ Q1, Q1 = w3 := ⟨_, rfl⟩
              subst hQ
              have d1 : ∀ x : Later Q1, _ := fun x => hVb.out x.at_ (Below.of B1.out x.below)
              have d0 : ∀ x : Later Q1, _ := fun x => hcell.out x.at_ (Below.of B1.out x.below)
              have rw1 := Lib.hid (V2.out.mono B1.out)
              have l0 : ∀ x : Later Q1, _ := fun x => (rw1.out.mono x.below).cell 0 _ rfl
              have l1 : ∀ x : Later Q1, _ := fun x => (rw1.out.mono x.below).cell 1 _ rfl
              have l2 : ∀ x : Later Q1, _ := fun x => (rw1.out.mono x.below).cell 2 _ rfl
              have l3 : ∀ x : Later Q1, _ := fun x => (rw1.out.mono x.below).cell 3 _ rfl
              have l4 : ∀ x : Later Q1, _ := fun x => (rw1.out.mono x.below).cell 4 _ rfl
              have l5 : ∀ x : Later Q1, _ := fun x => (rw1.out.mono x.below).cell 5 _ rfl
              have l6 : ∀ x : Later Q1, _ := fun x => (rw1.out.mono x.below).cell 6 _ rfl
              have l7 : ∀ x : Later Q1, _ := fun x => (rw1.out.mono x.below).cell 7 _ rfl
              go_wp2_with fail
              refine wp_region_later (by kernel_rfl) (by kernel_rfl) ?_; (repeat (go_big_quiet_step ((go_at_call 16; with_reducible exact Calls.later (d1 _))))); refine wpQuiet_nil ?_; rintro w3 ⟨⟨_, hb3⟩, rfl⟩
              have B2 := Lib.hid (Below.of B1.out hb3)
              clear l0 l1 l2 l3 l4 l5 l6 l7 d0 d1 hb3
              obtain ⟨Q2, hQ⟩ : ∃ Q, Q = w3 := ⟨_, rfl⟩
              subst hQ
              have hU2 := Lib.hid (hUn.out Q2 B2.out)
              have q := V1.out.mono B2.out
              have q0 := q.cell 0 _ rfl
              have q1 := q.cell 1 _ rfl
              have q2 := q.cell 2 _ rfl
              have q3 := q.cell 3 _ rfl
              have q4 := q.cell 4 _ rfl
              have q5 := q.cell 5 _ rfl
              have q6 := q.cell 6 _ rfl
              have q7 := q.cell 7 _ rfl
              have z := V2.out.mono B2.out
              have z0 := z.cell 0 _ rfl
              have z1 := z.cell 1 _ rfl
              have z2 := z.cell 2 _ rfl
              have z3 := z.cell 3 _ rfl
              have z4 := z.cell 4 _ rfl
              have z5 := z.cell 5 _ rfl
              have z6 := z.cell 6 _ rfl
              have z7 := z.cell 7 _ rfl
              go_wp2_with fail
              refine hU2.out.mono ?_
              rintro e w4 ⟨rfl, hb4⟩
              clear q q0 q1 q2 q3 q4 q5 q6 q7
              clear z z0 z1 z2 z3 z4 z5 z6 z7
              have B3 := Lib.hid (Below.of B2.out hb4)
              clear hb4
              obtain ⟨Q3, hQ⟩ : ∃ Q, Q = w4 := ⟨_, rfl⟩
              subst hQ
              cases U with
              | true =>
                have hVk : V = (k : Int) := by rw [hdf.out, hdr.out, hst.out, if_neg (by decide)]
                have hvb : (V == (k : Int)) = true := by simpa using hVk
                clear hVk
                go_wp2_with fail
                go_ret
                exact ⟨by simp, Below.of HBw.out B3.out⟩
              | false =>
                have d1 : ∀ x : Later Q3, _ := fun x => hNa.out x.at_ (Below.of B3.out x.below)
                have d0 : ∀ x : Later Q3, _ := fun x => hcell.out x.at_ (Below.of B3.out x.below)
                have rw3 := Lib.hid (V1.out.mono B3.out)
                have l0 : ∀ x : Later Q3, _ := fun x => (rw3.out.mono x.below).cell 0 _ rfl
                have l1 : ∀ x : Later Q3, _ := fun x => (rw3.out.mono x.below).cell 1 _ rfl
                have l2 : ∀ x : Later Q3, _ := fun x => (rw3.out.mono x.below).cell 2 _ rfl
                have l3 : ∀ x : Later Q3, _ := fun x => (rw3.out.mono x.below).cell 3 _ rfl
                have l4 : ∀ x : Later Q3, _ := fun x => (rw3.out.mono x.below).cell 4 _ rfl
                have l5 : ∀ x : Later Q3, _ := fun x => (rw3.out.mono x.below).cell 5 _ rfl
                have l6 : ∀ x : Later Q3, _ := fun x => (rw3.out.mono x.below).cell 6 _ rfl
                have l7 : ∀ x : Later Q3, _ := fun x => (rw3.out.mono x.below).cell 7 _ rfl
                go_wp2_with fail
                refine wp_region_later (by kernel_rfl) (by kernel_rfl) ?_; (repeat (go_big_quiet_step ((go_at_call 17; with_reducible exact Calls.later (d1 _))))); refine wpQuiet_nil ?_; rintro w3 ⟨⟨_, hb3⟩, rfl⟩
                have B4 := Lib.hid (Below.of B3.out hb3)
                clear l0 l1 l2 l3 l4 l5 l6 l7 d0 d1 hb3
                obtain ⟨Q4, hQ⟩ : ∃ Q, Q = w3 := ⟨_, rfl⟩
                subst hQ
                have d1 : ∀ x : Later Q4, _ := fun x => hNb.out x.at_ (Below.of B4.out x.below)
                have d0 : ∀ x : Later Q4, _ := fun x => hcell.out x.at_ (Below.of B4.out x.below)
                have rw4 := Lib.hid (V2.out.mono B4.out)
                have l0 : ∀ x : Later Q4, _ := fun x => (rw4.out.mono x.below).cell 0 _ rfl
                have l1 : ∀ x : Later Q4, _ := fun x => (rw4.out.mono x.below).cell 1 _ rfl
                have l2 : ∀ x : Later Q4, _ := fun x => (rw4.out.mono x.below).cell 2 _ rfl
                have l3 : ∀ x : Later Q4, _ := fun x => (rw4.out.mono x.below).cell 3 _ rfl
                have l4 : ∀ x : Later Q4, _ := fun x => (rw4.out.mono x.below).cell 4 _ rfl
                have l5 : ∀ x : Later Q4, _ := fun x => (rw4.out.mono x.below).cell 5 _ rfl
                have l6 : ∀ x : Later Q4, _ := fun x => (rw4.out.mono x.below).cell 6 _ rfl
                have l7 : ∀ x : Later Q4, _ := fun x => (rw4.out.mono x.below).cell 7 _ rfl
                go_wp2_with fail
                refine wp_region_later (by kernel_rfl) (by kernel_rfl) ?_; (repeat (go_big_quiet_step ((go_at_call 17; with_reducible exact Calls.later (d1 _))))); refine wpQuiet_nil ?_; rintro w3 ⟨⟨_, hb3⟩, rfl⟩
                have B5 := Lib.hid (Below.of B4.out hb3)
                clear l0 l1 l2 l3 l4 l5 l6 l7 d0 d1 hb3
                obtain ⟨Q5, hQ⟩ : ∃ Q, Q = w3 := ⟨_, rfl⟩
                subst hQ
                go_wp2_with fail
                go_roundg (ins.length - (k + 1))
                case measure => exact hmea _ hg
                case rel =>
                  refine ⟨k + 1, NA, NB, by omega, by omega, by go_num, rfl, rfl, Below.of hbr.out B5.out, ⟨hnA.out, hnB.out⟩, ?_⟩
                  show _ = _
                  rw [hdf.out, hdr.out, hst.out]
                  first | exact if_pos rfl | exact if_pos trivial
            · have hltz : ¬ (k : Int) < (ins.length : Int) := by omega
              obtain rfl : k = ins.length := by omega
              have hVm : V = -1 := by rw [hdf.out, List.drop_length]; rfl
              subst hVm
              go_wp2_with fail
              go_ret
              exact ⟨rfl, HBw.out⟩

end Go.Proofs.YtpkaoabpifeigaaGreatDoor
