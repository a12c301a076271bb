/- Contract: two circuits' miter. -/
import Derived.Test.YtpkaoabpifeigaaGreatDoorWalkZ6
import Derived.Test.YtpkaoabpifeigaaGreatDoorPlainZ3
namespace Go.Proofs.YtpkaoabpifeigaaGreatDoor
open Go.RowKit Go.Shelf

theorem shiftE_join {a b : PC.Circ} (ha : PC.Right a) (hb : PC.chk b = true) (h : a.inputs.length = b.inputs.length) : PC.shiftE b a.inputs a.max = 0 := by
  have h0 := ha.max0
  have h1 := ha.max1
  unfold PC.shiftE
  rw [if_neg (by rw [hb]; decide), if_neg (by omega), if_neg (by omega), if_neg]
  intro hs
  obtain ⟨t, ht, hx⟩ := List.any_eq_true.1 hs
  have := PC.ins_even a ha t ht
  simp only [PC.strangeL, Bool.or_eq_true, decide_eq_true_eq] at hx
  omega

theorem lat_one (l : List PC.Lat) : ∀ u ∈ l.flatMap latCells, u.oneCell' = true := fun u hu => by
  obtain ⟨x, _, hx⟩ := List.mem_flatMap.1 hu
  simp only [latCells, List.mem_cons, List.mem_nil_iff, or_false] at hx
  rcases hx with rfl | rfl | rfl <;> rfl
theorem gat_one (l : List PC.Gat) : ∀ u ∈ l.flatMap gatCells, u.oneCell' = true := fun u hu => by
  obtain ⟨x, _, hx⟩ := List.mem_flatMap.1 hu
  simp only [gatCells, List.mem_cons, List.mem_nil_iff, or_false] at hx
  rcases hx with rfl | rfl | rfl <;> rfl
theorem int_one (l : List Int) : ∀ u ∈ l.map (Value.int .i64), u.oneCell' = true := fun u hu => by
  obtain ⟨x, _, rfl⟩ := List.mem_map.1 hu
  rfl

/-- a circuit's three lists in memory, whatever else it is -/
theorem row_slices {w : World} {v : Value} {c : PC.Circ} (h : IsCirc w v c) : ∃ i j l m o p b d vv ww a q n r, v = .agg #[.int .i64 c.max, .slice i c.inputs.length j, .slice l c.latches.length m, .slice o c.outputs.length p, .slice b c.bads.length d, .slice vv c.invars.length ww, .slice a c.ands.length q, .slice n c.names.length r] ∧
    CircParts w c (.slice i c.inputs.length j) (.slice l c.latches.length m) (.slice o c.outputs.length p) (.slice b c.bads.length d) (.slice vv c.invars.length ww) (.slice a c.ands.length q) (.slice n c.names.length r) := by
  obtain ⟨vi, vl, vo, vb, vv, va, vn, rfl, hp, _⟩ := h
  have hq := hp
  obtain ⟨i, j, rfl, _⟩ := hp.inputs.open_
  obtain ⟨l, m, rfl, _⟩ := hp.latches.open_
  obtain ⟨o, p, rfl, _⟩ := hp.outputs.open_
  obtain ⟨b, d, rfl, _⟩ := hp.bads.open_
  obtain ⟨v, ww, rfl, _⟩ := hp.invars.open_
  obtain ⟨a, q, rfl, _⟩ := hp.ands.open_
  obtain ⟨n, r, rfl, _⟩ := hp.names.open_
  exact ⟨i, j, l, m, o, p, b, d, v, ww, a, q, n, r, rfl, hq⟩

set_option maxRecDepth 100000 in
set_option maxHeartbeats 16000000 in
theorem mJoin_any (a b : PC.Circ) (va vb : Value) (w : World) (ha : IsCirc w va a) (hb : IsCirc w vb b) :
    Calls Tryz.prog 13 #[va, vb] w (CircE w (PC.joinE a b) (PC.joinD a b)) := by
  have HA := Lib.hid ha
  have HB := Lib.hid hb
  obtain ⟨xi, xj, xl, xm, xo, xp, xb, xc, xv, xw, xa, xq, xn, xr, rfl, hpa⟩ := row_slices ha
  obtain ⟨yi, yj, yl, ym, yo, yp, yb, yc, yv, yw, ya, yq, yn, yr, rfl, hpb⟩ := row_slices hb
  have HPA := Lib.hid hpa
  have HPB := Lib.hid hpb
  clear ha hb hpa hpb
  have hW : ∃ W, W = ((w.alloc (.cells #[.int .i64 a.max, .slice xi a.inputs.length xj, .slice xl a.latches.length xm, .slice xo a.outputs.length xp, .slice xb a.bads.length xc, .slice xv a.invars.length xw, .slice xa a.ands.length xq, .slice xn a.names.length xr] 27)).alloc (.cells #[.int .i64 b.max, .slice yi b.inputs.length yj, .slice yl b.latches.length ym, .slice yo b.outputs.length yp, .slice yb b.bads.length yc, .slice yv b.invars.length yw, .slice ya b.ands.length yq, .slice yn b.names.length yr] 27)).alloc (.cells #[.int .i64 0, .slice none 0 0, .slice none 0 0, .slice none 0 0, .slice none 0 0, .slice none 0 0, .slice none 0 0, .slice none 0 0] 27) := ⟨_, rfl⟩
  obtain ⟨W, hW⟩ := hW
  have r1 : RowL 27 W w.heap.size [.int .i64 a.max, .slice xi a.inputs.length xj, .slice xl a.latches.length xm, .slice xo a.outputs.length xp, .slice xb a.bads.length xc, .slice xv a.invars.length xw, .slice xa a.ands.length xq, .slice xn a.names.length xr] := by
    rw [hW]
    exact ((RowL.new w _).mono ((Below.refl _ _).alloc (Nat.le_refl _) _)).mono ((Below.refl _ _).alloc (Nat.le_refl _) _)
  have r2 : RowL 27 W (w.heap.size + 1) [.int .i64 b.max, .slice yi b.inputs.length yj, .slice yl b.latches.length ym, .slice yo b.outputs.length yp, .slice yb b.bads.length yc, .slice yv b.invars.length yw, .slice ya b.ands.length yq, .slice yn b.names.length yr] := by
    rw [hW]
    have := RowL.new (T := 27) (w.alloc (.cells #[.int .i64 a.max, .slice xi a.inputs.length xj, .slice xl a.latches.length xm, .slice xo a.outputs.length xp, .slice xb a.bads.length xc, .slice xv a.invars.length xw, .slice xa a.ands.length xq, .slice xn a.names.length xr] 27)) [.int .i64 b.max, .slice yi b.inputs.length yj, .slice yl b.latches.length ym, .slice yo b.outputs.length yp, .slice yb b.bads.length yc, .slice yv b.invars.length yw, .slice ya b.ands.length yq, .slice yn b.names.length yr]
    rw [World.size_alloc] at this
    exact this.mono ((Below.refl _ _).alloc (Nat.le_refl _) _)
  have r3 : RowL 27 W (w.heap.size + 1 + 1) [.int .i64 0, .slice none 0 0, .slice none 0 0, .slice none 0 0, .slice none 0 0, .slice none 0 0, .slice none 0 0, .slice none 0 0] := by
    rw [hW]
    have := RowL.new (T := 27) ((w.alloc (.cells #[.int .i64 a.max, .slice xi a.inputs.length xj, .slice xl a.latches.length xm, .slice xo a.outputs.length xp, .slice xb a.bads.length xc, .slice xv a.invars.length xw, .slice xa a.ands.length xq, .slice xn a.names.length xr] 27)).alloc (.cells #[.int .i64 b.max, .slice yi b.inputs.length yj, .slice yl b.latches.length ym, .slice yo b.outputs.length yp, .slice yb b.bads.length yc, .slice yv b.invars.length yw, .slice ya b.ands.length yq, .slice yn b.names.length yr] 27)) [.int .i64 0, .slice none 0 0, .slice none 0 0, .slice none 0 0, .slice none 0 0, .slice none 0 0, .slice none 0 0, .slice none 0 0]
    rw [World.size_alloc, World.size_alloc] at this
    exact this
  have hb0 : Below w.heap.size w W := by
    rw [hW]
    exact (((Below.refl _ _).alloc (Nat.le_refl _) _).alloc (by simp) _).alloc (by simp; omega) _
  have HW := Lib.hid hW
  have R1 := Lib.hid r1
  have R2 := Lib.hid r2
  have R3 := Lib.hid r3
  have HB0 := Lib.hid hb0
  clear hW r1 r2 r3 hb0
  have hTg := Lib.hid (mTogether_any a b _ _ W (HA.out.mono HB0.out) (HB.out.mono HB0.out))
  go_enter Tryz.func13, Tryz.ntmps13
  go_wp2_with fail
  rw [← HW.out]
  refine hTg.out.mono ?_
  rintro e w1 ⟨rfl, hb1⟩
  have HB1 := Lib.hid (Below.of HB0.out hb1)
  have S1 := Lib.hid (R1.out.mono hb1)
  have S2 := Lib.hid (R2.out.mono hb1)
  have S3 := Lib.hid (R3.out.mono hb1)
  clear hb1 R1 R2 R3 HB0 HW hTg
  obtain ⟨E, hE⟩ : ∃ E : Int, E = PC.togE a b := ⟨_, rfl⟩
  rw [← hE]
  by_cases hz : E = 0
  case neg =>
    have eE : Hid (PC.joinE a b = E) := by show _ = _; rw [PC.joinE, if_pos (by rw [← hE]; exact hz), hE]
    have eD : Hid (PC.joinD a b = PC.noC) := by show _ = _; rw [PC.joinD, eE.out, if_neg hz]
    have hzb : (E != 0) = true := by simpa using hz
    clear hE hz
    obtain ⟨⟨k0, k1, k2, k3, k4, k5, k6, k7, k8, k9, k10, k11, k12, k13, k14, k15⟩, hR, hG⟩ := (S3.out).put8 (.int .i64 0) (.slice none 0 0) (.slice none 0 0) (.slice none 0 0) (.slice none 0 0) (.slice none 0 0) (.slice none 0 0) (.slice none 0 0)
    have HG := Lib.hid hG
    have q0 := hR.cell 0 _ rfl
    have q1 := hR.cell 1 _ rfl
    have q2 := hR.cell 2 _ rfl
    have q3 := hR.cell 3 _ rfl
    have q4 := hR.cell 4 _ rfl
    have q5 := hR.cell 5 _ rfl
    have q6 := hR.cell 6 _ rfl
    have q7 := hR.cell 7 _ rfl
    unfold set8 at q0 q1 q2 q3 q4 q5 q6 q7
    clear hR hG
    go_wp2_with fail
    refine bodyPost_ret (v := .tuple #[.agg #[.int .i64 0, .slice none 0 0, .slice none 0 0, .slice none 0 0, .slice none 0 0, .slice none 0 0, .slice none 0 0, .slice none 0 0], .int .i64 E]) (by simp [results, Tryz.results13, go_sem, q0, q1, q2, q3, q4, q5, q6, q7]) rfl ?_
    exact ⟨_, by rw [eE.out], by rw [eD.out]; exact noC_is _, (HB1.out).grown HG.out (HB1.out).size fun k e => by cases e; omega⟩
  case pos =>
    have hzb : (E != 0) = false := by simpa using hz
    have hT : PC.togE a b = 0 := hE.symm.trans hz
    have hck : (PC.chk a = true ∧ PC.chk b = true) ∧ a.inputs.length = b.inputs.length ∧ a.outputs.length = b.outputs.length := by
      unfold PC.togE at hT
      split at hT
      · cases hT
      · rename_i h1
        split at hT
        · cases hT
        · rename_i h2
          refine ⟨⟨?_, ?_⟩, ?_, ?_⟩
          · cases h : PC.chk a with
            | true => rfl
            | false => exact absurd (Or.inl h) h1
          · cases h : PC.chk b with
            | true => rfl
            | false => exact absurd (Or.inr h) h1
          · by_cases h : a.inputs.length = b.inputs.length
            · exact h
            · exact absurd (Or.inl h) h2
          · by_cases h : a.outputs.length = b.outputs.length
            · exact h
            · exact absurd (Or.inr h) h2
    obtain ⟨⟨hca, hcb⟩, hil, hol⟩ := hck
    have hRa := PC.right_of a hca
    have hRb := PC.right_of b hcb
    have a0 := hRa.max0
    have a1 := hRa.max1
    have b0 := hRb.max0
    have b1 := hRb.max1
    have aol := hRa.outs
    have hRm := Lib.hid fun w => mRoom_any a.outputs.length w (by omega)
    have L0 : ∀ x : Later w1, _ := fun x => (S1.out.mono x.below).cell 0 _ rfl
    have L2 : ∀ x : Later w1, _ := fun x => (S1.out.mono x.below).cell 2 _ rfl
    have L3 : ∀ x : Later w1, _ := fun x => (S1.out.mono x.below).cell 3 _ rfl
    have L5 : ∀ x : Later w1, _ := fun x => (S1.out.mono x.below).cell 5 _ rfl
    have M0 : ∀ x : Later w1, _ := fun x => (S2.out.mono x.below).cell 0 _ rfl
    have M2 : ∀ x : Later w1, _ := fun x => (S2.out.mono x.below).cell 2 _ rfl
    have M5 : ∀ x : Later w1, _ := fun x => (S2.out.mono x.below).cell 5 _ rfl
    have e1 : IntKind.i64.wrap (a.max + b.max) = a.max + b.max := IntWalk.i64_in _ (by omega)
    have e2 : IntKind.i64.wrap (a.max + b.max + 4 * (a.outputs.length : Int)) = a.max + b.max + 4 * (a.outputs.length : Int) := IntWalk.i64_in _ (by omega)
    have e3 : IntKind.i64.wrap ((a.latches.length : Int) + (b.latches.length : Int)) = (a.latches.length : Int) + (b.latches.length : Int) := IntWalk.i64_in _ (by have := hRa.lats; have := hRb.lats; omega)
    have e4 : IntKind.i64.wrap ((a.invars.length : Int) + (b.invars.length : Int)) = (a.invars.length : Int) + (b.invars.length : Int) := IntWalk.i64_in _ (by have := hRa.invs; have := hRb.invs; omega)
    have hTT := Lib.hid hT
    have hRRa := Lib.hid hRa
    have hRRb := Lib.hid hRb
    have HIL := Lib.hid hil
    have HOL := Lib.hid hol
    have HCB := Lib.hid hcb
    have hbds : Hid (0 ≤ a.max ∧ a.max ≤ 2048 ∧ 0 ≤ b.max ∧ b.max ≤ 2048 ∧ a.outputs.length ≤ 64) := ⟨a0, a1, b0, b1, aol⟩
    clear hE hT hca hcb hil hol hRa hRb a0 a1 b0 b1 aol
    subst hz
    have hj5 : Hid ((a.max + b.max + 4 * (a.outputs.length : Int) > 2048 ∨ a.latches.length + b.latches.length > 64 ∨ a.invars.length + b.invars.length > 64) → PC.joinE a b = 5 ∧ PC.joinD a b = PC.noC) := fun h => by
      have : PC.joinE a b = 5 := by rw [PC.joinE, if_neg (by rw [hTT.out]; decide), if_pos h]
      exact ⟨this, by rw [PC.joinD, this]; rfl⟩
    by_cases c1 : a.max + b.max + 4 * (a.outputs.length : Int) > 2048
    · have d1 : decide (a.max + b.max + 4 * (a.outputs.length : Int) > 2048) = true := by simpa using c1
      have eE : Hid (PC.joinE a b = 5) := (hj5.out (Or.inl c1)).1
      have eD : Hid (PC.joinD a b = PC.noC) := (hj5.out (Or.inl c1)).2
      go_wp2_with fail
      refine wp_region_later (by kernel_rfl) (by kernel_rfl) ?_; (repeat (go_big_quiet_step ((go_at_call 42; with_reducible exact Calls.later_same (hRm.out _))))); refine wpQuiet_nil ?_; rintro w3 ⟨⟨_, hb3⟩, rfl⟩
      have HB4 := Lib.hid (Below.of HB1.out hb3)
      have S34 := Lib.hid (S3.out.mono hb3)
      obtain ⟨⟨k0, k1, k2, k3, k4, k5, k6, k7, k8, k9, k10, k11, k12, k13, k14, k15⟩, hR, hG⟩ := (S34.out).put8 (.int .i64 0) (.slice none 0 0) (.slice none 0 0) (.slice none 0 0) (.slice none 0 0) (.slice none 0 0) (.slice none 0 0) (.slice none 0 0)
      have HG := Lib.hid hG
      have q0 := hR.cell 0 _ rfl
      have q1 := hR.cell 1 _ rfl
      have q2 := hR.cell 2 _ rfl
      have q3 := hR.cell 3 _ rfl
      have q4 := hR.cell 4 _ rfl
      have q5 := hR.cell 5 _ rfl
      have q6 := hR.cell 6 _ rfl
      have q7 := hR.cell 7 _ rfl
      unfold set8 at q0 q1 q2 q3 q4 q5 q6 q7
      clear hR hG
      go_wp2_with fail
      refine bodyPost_ret (v := .tuple #[.agg #[.int .i64 0, .slice none 0 0, .slice none 0 0, .slice none 0 0, .slice none 0 0, .slice none 0 0, .slice none 0 0, .slice none 0 0], .int .i64 5]) (by simp [results, Tryz.results13, go_sem, q0, q1, q2, q3, q4, q5, q6, q7]) rfl ?_
      exact ⟨_, by rw [eE.out], by rw [eD.out]; exact noC_is _, (HB4.out).grown HG.out (HB4.out).size fun k e => by cases e; omega⟩
    · have d1 : decide (a.max + b.max + 4 * (a.outputs.length : Int) > 2048) = false := by simpa using c1
      by_cases c2 : a.latches.length + b.latches.length > 64
      · have d2 : decide ((a.latches.length : Int) + (b.latches.length : Int) > 64) = true := by rw [decide_eq_true_eq]; omega
        have eE : Hid (PC.joinE a b = 5) := (hj5.out (Or.inr (Or.inl c2))).1
        have eD : Hid (PC.joinD a b = PC.noC) := (hj5.out (Or.inr (Or.inl c2))).2
        clear c2
        go_wp2_with fail
        refine wp_region_later (by kernel_rfl) (by kernel_rfl) ?_; (repeat (go_big_quiet_step ((go_at_call 42; with_reducible exact Calls.later_same (hRm.out _))))); refine wpQuiet_nil ?_; rintro w3 ⟨⟨_, hb3⟩, rfl⟩
        have HB4 := Lib.hid (Below.of HB1.out hb3)
        have S34 := Lib.hid (S3.out.mono hb3)
        obtain ⟨⟨k0, k1, k2, k3, k4, k5, k6, k7, k8, k9, k10, k11, k12, k13, k14, k15⟩, hR, hG⟩ := (S34.out).put8 (.int .i64 0) (.slice none 0 0) (.slice none 0 0) (.slice none 0 0) (.slice none 0 0) (.slice none 0 0) (.slice none 0 0) (.slice none 0 0)
        have HG := Lib.hid hG
        have q0 := hR.cell 0 _ rfl
        have q1 := hR.cell 1 _ rfl
        have q2 := hR.cell 2 _ rfl
        have q3 := hR.cell 3 _ rfl
        have q4 := hR.cell 4 _ rfl
        have q5 := hR.cell 5 _ rfl
        have q6 := hR.cell 6 _ rfl
        have q7 := hR.cell 7 _ rfl
        unfold set8 at q0 q1 q2 q3 q4 q5 q6 q7
        clear hR hG
        go_wp2_with fail
        refine bodyPost_ret (v := .tuple #[.agg #[.int .i64 0, .slice none 0 0, .slice none 0 0, .slice none 0 0, .slice none 0 0, .slice none 0 0, .slice none 0 0, .slice none 0 0], .int .i64 5]) (by simp [results, Tryz.results13, go_sem, q0, q1, q2, q3, q4, q5, q6, q7]) rfl ?_
        exact ⟨_, by rw [eE.out], by rw [eD.out]; exact noC_is _, (HB4.out).grown HG.out (HB4.out).size fun k e => by cases e; omega⟩
      · have d2 : decide ((a.latches.length : Int) + (b.latches.length : Int) > 64) = false := by rw [decide_eq_false_iff_not]; omega
        by_cases c3 : a.invars.length + b.invars.length > 64
        · have d3 : decide ((a.invars.length : Int) + (b.invars.length : Int) > 64) = true := by rw [decide_eq_true_eq]; omega
          have eE : Hid (PC.joinE a b = 5) := (hj5.out (Or.inr (Or.inr c3))).1
          have eD : Hid (PC.joinD a b = PC.noC) := (hj5.out (Or.inr (Or.inr c3))).2
          clear c2 c3
          go_wp2_with fail
          refine wp_region_later (by kernel_rfl) (by kernel_rfl) ?_; (repeat (go_big_quiet_step ((go_at_call 42; with_reducible exact Calls.later_same (hRm.out _))))); refine wpQuiet_nil ?_; rintro w3 ⟨⟨_, hb3⟩, rfl⟩
          have HB4 := Lib.hid (Below.of HB1.out hb3)
          have S34 := Lib.hid (S3.out.mono hb3)
          obtain ⟨⟨k0, k1, k2, k3, k4, k5, k6, k7, k8, k9, k10, k11, k12, k13, k14, k15⟩, hR, hG⟩ := (S34.out).put8 (.int .i64 0) (.slice none 0 0) (.slice none 0 0) (.slice none 0 0) (.slice none 0 0) (.slice none 0 0) (.slice none 0 0) (.slice none 0 0)
          have HG := Lib.hid hG
          have q0 := hR.cell 0 _ rfl
          have q1 := hR.cell 1 _ rfl
          have q2 := hR.cell 2 _ rfl
          have q3 := hR.cell 3 _ rfl
          have q4 := hR.cell 4 _ rfl
          have q5 := hR.cell 5 _ rfl
          have q6 := hR.cell 6 _ rfl
          have q7 := hR.cell 7 _ rfl
          unfold set8 at q0 q1 q2 q3 q4 q5 q6 q7
          clear hR hG
          go_wp2_with fail
          refine bodyPost_ret (v := .tuple #[.agg #[.int .i64 0, .slice none 0 0, .slice none 0 0, .slice none 0 0, .slice none 0 0, .slice none 0 0, .slice none 0 0, .slice none 0 0], .int .i64 5]) (by simp [results, Tryz.results13, go_sem, q0, q1, q2, q3, q4, q5, q6, q7]) rfl ?_
          exact ⟨_, by rw [eE.out], by rw [eD.out]; exact noC_is _, (HB4.out).grown HG.out (HB4.out).size fun k e => by cases e; omega⟩
        · have d3 : decide ((a.invars.length : Int) + (b.invars.length : Int) > 64) = false := by rw [decide_eq_false_iff_not]; omega
          have eE : Hid (PC.joinE a b = 0) := by
            show _ = _
            rw [PC.joinE, if_neg (by rw [hTT.out]; decide), if_neg (by omega)]
          have eD : Hid (PC.joinD a b = PC.joinC a b) := by show _ = _; rw [PC.joinD, eE.out]; rfl
          have hsz : Hid (a.max + b.max + 4 * (a.outputs.length : Int) ≤ 2048 ∧ a.latches.length + b.latches.length ≤ 64 ∧ a.invars.length + b.invars.length ≤ 64) := ⟨by omega, by omega, by omega⟩
          clear c1 c2 c3 hj5
          go_wp2_with fail
          refine wp_region_later (by kernel_rfl) (by kernel_rfl) ?_; (repeat (go_big_quiet_step ((go_at_call 42; with_reducible exact Calls.later_same (hRm.out _))))); refine wpQuiet_nil ?_; rintro w3 ⟨⟨_, hb3⟩, rfl⟩
          have HB4 := Lib.hid (Below.of HB1.out hb3)
          have T1 := Lib.hid (S1.out.mono hb3)
          have T2 := Lib.hid (S2.out.mono hb3)
          have T3 := Lib.hid (S3.out.mono hb3)
          have hSh := Lib.hid (mShift_any b a.inputs a.max _ _ _ (HB.out.mono HB4.out) (HPA.out.inputs.mono HB4.out) (by have := hbds.out; unfold rng; omega))
          have hs0 := shiftE_join hRRa.out HCB.out HIL.out
          rw [PC.shiftD, hs0, if_pos rfl] at hSh
          clear hs0 L0 L2 L3 L5 M0 M2 M5 d1 d2 d3 e3 e4 hzb hb3 hRm S1 S2 S3 HB1
          obtain ⟨DD, hDD⟩ : ∃ D, D = PC.shiftC b a.inputs a.max := ⟨_, rfl⟩
          rw [← hDD] at hSh
          have HDD := Lib.hid hDD
          clear hDD
          obtain ⟨W4, hW4⟩ : ∃ W4, W4 = w3 := ⟨_, rfl⟩
          subst hW4
          have p10 := T1.out.cell 0 _ rfl
          have p11 := T1.out.cell 1 _ rfl
          have z0 := T2.out.cell 0 _ rfl
          have z1 := T2.out.cell 1 _ rfl
          have z2 := T2.out.cell 2 _ rfl
          have z3 := T2.out.cell 3 _ rfl
          have z4 := T2.out.cell 4 _ rfl
          have z5 := T2.out.cell 5 _ rfl
          have z6 := T2.out.cell 6 _ rfl
          have z7 := T2.out.cell 7 _ rfl
          go_wp2_with fail
          refine hSh.out.mono ?_
          rintro e w5 ⟨u, rfl, hU, hb5⟩
          obtain ⟨di, dj, dl, dm, dO, dp, db, dc, dv, dw, da, dq, dn, dr, rfl, hpd⟩ := row_slices hU
          have hb6 : Below w5.heap.size w5 (w5.alloc (.cells #[.int .i64 DD.max, .slice di DD.inputs.length dj, .slice dl DD.latches.length dm, .slice dO DD.outputs.length dp, .slice db DD.bads.length dc, .slice dv DD.invars.length dw, .slice da DD.ands.length dq, .slice dn DD.names.length dr] 27)) := (Below.refl _ _).alloc (Nat.le_refl _) _
          have HPD := Lib.hid (hpd.mono hb6)
          have t1 := (T1.out.mono hb5).mono hb6
          have t2 := (T2.out.mono hb5).mono hb6
          have t3 := (T3.out.mono hb5).mono hb6
          have t4 := RowL.new (T := 27) w5 [.int .i64 DD.max, .slice di DD.inputs.length dj, .slice dl DD.latches.length dm, .slice dO DD.outputs.length dp, .slice db DD.bads.length dc, .slice dv DD.invars.length dw, .slice da DD.ands.length dq, .slice dn DD.names.length dr]
          have hb6 := Below.of HB4.out (Below.of hb5 hb6)
          have hQ : w.heap.size + 1 + 1 < w5.heap.size := Nat.lt_of_lt_of_le T3.out.lt hb5.size
          obtain ⟨V, hV⟩ : ∃ V, V = w5.alloc (.cells #[.int .i64 DD.max, .slice di DD.inputs.length dj, .slice dl DD.latches.length dm, .slice dO DD.outputs.length dp, .slice db DD.bads.length dc, .slice dv DD.invars.length dw, .slice da DD.ands.length dq, .slice dn DD.names.length dr] 27) := ⟨_, rfl⟩
          rw [← hV] at t1 t2 t3 t4 hb6 HPD
          have hVs : V.heap.size = w5.heap.size + 1 := by rw [hV]; simp
          have U1 := Lib.hid t1
          have U2 := Lib.hid t2
          have U3 := Lib.hid t3
          have U4 := Lib.hid t4
          have HB6 := Lib.hid hb6
          have HQ := Lib.hid hQ
          have HV := Lib.hid hV
          have HVS := Lib.hid hVs
          clear t1 t2 t3 t4 hb6 hQ hV hVs hpd hU hb5 p10 p11 z0 z1 z2 z3 z4 z5 z6 z7 hSh T1 T2 T3 HB4 e2
          go_wp2_with fail
          rw [← HV.out]
          generalize w5.heap.size = Q at *
          have hCl : Hid (∀ y, Below V.heap.size V y → _) := fun y hy => CloneI_any a.inputs _ y (HPA.out.inputs.mono (Below.of HB6.out hy)) (by have := hRRa.out.ins; omega)
          refine wp_region_makes 11 [isV (.pointer (some ⟨w.heap.size, 0, none⟩)), isV (.int .i64 a.max), isV (.pointer (some ⟨w.heap.size + 1, 0, none⟩)), isV (.int .i64 b.max), isV (.int .i64 (a.max + b.max)), isV (.pointer (some ⟨w.heap.size, 1, none⟩)), isV (.slice xi a.inputs.length xj), (fun v y => OwnI y V.heap.size v a.inputs), (fun v y => ∃ u, v = .agg #[.int .i64 (a.max + b.max), u, .slice none 0 0, .slice none 0 0, .slice none 0 0, .slice none 0 0, .slice none 0 0, .slice none 0 0] ∧ OwnI y V.heap.size u a.inputs), (fun v y => ∃ u, v = .agg #[.int .i64 (a.max + b.max), u, .slice none 0 0, .slice none 0 0, .slice none 0 0, .slice none 0 0, .slice none 0 0, .slice none 0 0] ∧ OwnI y V.heap.size u a.inputs), (fun v y => ∃ m u, v = .pointer (some ⟨m, 0, none⟩) ∧ V.heap.size ≤ m ∧ RowL 77 y m [.int .i64 (a.max + b.max), u, .slice none 0 0, .slice none 0 0, .slice none 0 0, .slice none 0 0, .slice none 0 0, .slice none 0 0] ∧ OwnI y V.heap.size u a.inputs)]
            [some 65, some 66, some 67, some 68, some 69, some 70, some 71, some 72, some 73, some 74, some 75] (by kernel_rfl) (by kernel_rfl) rfl (by
              intro g hg
              simp only [List.mem_cons, List.mem_nil_iff, or_false] at hg
              rcases hg with rfl | rfl | rfl | rfl | rfl | rfl | rfl | rfl | rfl | rfl | rfl <;> first
                | exact isV_keeps _ | exact fun _ _ _ hb h => OwnI.mono h hb | exact fun _ _ _ hb ⟨u, e, h⟩ => ⟨u, e, h.mono hb⟩ | exact fun _ _ _ hb ⟨m, u, e, h1, h2, h3⟩ => ⟨m, u, e, h1, h2.mono hb, h3.mono hb⟩) ?_ ?_
          · refine ⟨fun vs y hy hd => ?_, fun vs y hy hd => ?_, fun vs y hy hd => ?_, fun vs y hy hd => ?_, fun vs y hy hd => ?_, fun vs y hy hd => ?_, fun vs y hy hd => ?_, fun vs y hy hd => ?_, fun vs y hy hd => ?_, fun vs y hy hd => ?_, fun vs y hy hd => ?_, trivial⟩
            · (simp only [opens]; try simp only [Nat.reduceAdd])
              go_wp2_with fail
              exact ⟨_, rfl, Below.refl _ _, rfl⟩
            · have k0 := (U1.out.mono hy).cell 0 _ rfl
              have g0 : vs 0 = .pointer (some ⟨w.heap.size, 0, none⟩) := hd 0 (by decide) (by kernel_rfl)
              (simp only [opens]; try simp only [Nat.reduceAdd])
              rw [g0]
              go_wp2_with fail
              exact ⟨_, rfl, Below.refl _ _, rfl⟩
            · (simp only [opens]; try simp only [Nat.reduceAdd])
              go_wp2_with fail
              exact ⟨_, rfl, Below.refl _ _, rfl⟩
            · have k0 := (U2.out.mono hy).cell 0 _ rfl
              have g0 : vs 2 = .pointer (some ⟨w.heap.size + 1, 0, none⟩) := hd 2 (by decide) (by kernel_rfl)
              (simp only [opens]; try simp only [Nat.reduceAdd])
              rw [g0]
              go_wp2_with fail
              exact ⟨_, rfl, Below.refl _ _, rfl⟩
            · have g0 : vs 1 = .int .i64 a.max := hd 1 (by decide) (by kernel_rfl)
              have g1 : vs 3 = .int .i64 b.max := hd 3 (by decide) (by kernel_rfl)
              (simp only [opens]; try simp only [Nat.reduceAdd])
              rw [g0, g1]
              go_wp2_with fail
              exact ⟨_, rfl, Below.refl _ _, rfl⟩
            · (simp only [opens]; try simp only [Nat.reduceAdd])
              go_wp2_with fail
              exact ⟨_, rfl, Below.refl _ _, rfl⟩
            · have k0 := (U1.out.mono hy).cell 1 _ rfl
              have g0 : vs 5 = .pointer (some ⟨w.heap.size, 1, none⟩) := hd 5 (by decide) (by kernel_rfl)
              (simp only [opens]; try simp only [Nat.reduceAdd])
              rw [g0]
              go_wp2_with fail
              exact ⟨_, rfl, Below.refl _ _, rfl⟩
            · have g0 : vs 6 = .slice xi a.inputs.length xj := hd 6 (by decide) (by kernel_rfl)
              have hX := Lib.hid (hCl.out y hy)
              (simp only [opens]; try simp only [Nat.reduceAdd])
              rw [g0]
              go_wp2_with (go_at_call 28; refine hX.out.mono ?_; rintro e w4 ⟨u, rfl, hown, hb4⟩)
              exact ⟨_, rfl, hb4, hown.base hy.size⟩
            · have g0 : vs 4 = .int .i64 (a.max + b.max) := hd 4 (by decide) (by kernel_rfl)
              have g1 : OwnI y V.heap.size (vs 7) a.inputs := hd 7 (by decide) (by kernel_rfl)
              (simp only [opens]; try simp only [Nat.reduceAdd])
              rw [g0]
              generalize vs 7 = x1 at *
              have G := Lib.hid g1
              obtain ⟨_, _, rfl⟩ := g1.slice
              clear hd
              go_wp2_with fail
              exact ⟨_, rfl, Below.refl _ _, _, rfl, G.out⟩
            · obtain ⟨u, g0, g1⟩ : ∃ u, vs 8 = .agg #[.int .i64 (a.max + b.max), u, .slice none 0 0, .slice none 0 0, .slice none 0 0, .slice none 0 0, .slice none 0 0, .slice none 0 0] ∧ OwnI y V.heap.size u a.inputs := hd 8 (by decide) (by kernel_rfl)
              (simp only [opens]; try simp only [Nat.reduceAdd])
              rw [g0]
              have G := Lib.hid g1
              obtain ⟨_, _, rfl⟩ := g1.slice
              clear hd
              go_wp2_with fail
              exact ⟨_, rfl, Below.refl _ _, _, rfl, G.out⟩
            · obtain ⟨u, g0, g1⟩ : ∃ u, vs 9 = .agg #[.int .i64 (a.max + b.max), u, .slice none 0 0, .slice none 0 0, .slice none 0 0, .slice none 0 0, .slice none 0 0, .slice none 0 0] ∧ OwnI y V.heap.size u a.inputs := hd 9 (by decide) (by kernel_rfl)
              (simp only [opens]; try simp only [Nat.reduceAdd])
              rw [g0]
              have G := Lib.hid g1
              obtain ⟨_, _, rfl⟩ := g1.slice
              clear hd
              go_wp2_with fail
              exact ⟨_, rfl, (Below.refl _ _).alloc (Nat.le_refl _) _, _, _, rfl, hy.size, RowL.new y _, G.out.mono ((Below.refl _ _).alloc (Nat.le_refl _) _)⟩
          intro vs y hy hf
          obtain ⟨m, u, g0, hm, hrow, hu⟩ : ∃ m u, vs 10 = .pointer (some ⟨m, 0, none⟩) ∧ V.heap.size ≤ m ∧ RowL 77 y m [.int .i64 (a.max + b.max), u, .slice none 0 0, .slice none 0 0, .slice none 0 0, .slice none 0 0, .slice none 0 0, .slice none 0 0] ∧ OwnI y V.heap.size u a.inputs := hf 10 (by decide)
          obtain ⟨ui, uj, rfl⟩ := hu.slice
          have HPV := HPD
          have hlen : Hid (a.latches.length ≤ 64 ∧ DD.latches.length ≤ 64 ∧ a.invars.length ≤ 64 ∧ DD.invars.length ≤ 64 ∧ a.ands.length ≤ 2048 ∧ DD.ands.length ≤ 2048) := by
            have h1 := PC.ands_len a hRRa.out
            have h2 := PC.ands_len b hRRb.out
            rw [HDD.out]
            exact ⟨hRRa.out.lats, by simpa [PC.shiftC] using hRRb.out.lats, hRRa.out.invs, by simpa [PC.shiftC] using hRRb.out.invs, h1, by simpa [PC.shiftC] using h2⟩
          have X1 := Lib.hid (U1.out.mono hy)
          have X3 := Lib.hid (U3.out.mono hy)
          have X4 := Lib.hid (U4.out.mono hy)
          have XM := Lib.hid (hrow)
          have XU := Lib.hid (hu)
          have HB7 := Lib.hid (Below.of HB6.out hy)
          have HPX := Lib.hid (HPD.out.mono hy)
          have HMV := Lib.hid (hm)
          have HBV := Lib.hid (hy)
          have hmlt := Lib.hid hrow.lt
          (simp only [opens]; try simp only [Nat.reduceAdd])
          rw [g0]
          clear hf hy hrow hu hm g0 U1 U2 U3 U4 HPD hCl HB6 HV e1
          obtain ⟨Y, hY⟩ : ∃ Y, Y = y := ⟨_, rfl⟩
          subst hY
          have hneq : Hid (w.heap.size < m ∧ w.heap.size + 1 + 1 < m ∧ Q < m ∧ m < Y.heap.size) := by
            have h1 := HQ.out
            have h2 := HVS.out
            have h3 := HMV.out
            have h4 := hmlt.out
            exact ⟨by omega, by omega, by omega, h4⟩
          go_wp2_with fail
          have hD : ∃ D : List Bool → World → Prop, D = fun bs y => Y.grownBy y (some m) ∧ ∃ u2 u6, RowL 77 y m [.int .i64 (a.max + b.max), .slice ui a.inputs.length uj, u2, .slice none 0 0, .slice none 0 0, .slice none 0 0, u6, .slice none 0 0] ∧ (bs[0]? = some true → y.ownsRow Y.heap.size 38 3 u2 (a.latches.length + DD.latches.length) (a.latches.flatMap latCells ++ DD.latches.flatMap latCells)) ∧ (bs[0]? ≠ some true → u2 = .slice none 0 0) ∧ (bs[1]? = some true → y.ownsRow Y.heap.size 35 3 u6 (a.ands.length + DD.ands.length) (a.ands.flatMap gatCells ++ DD.ands.flatMap gatCells)) ∧ (bs[1]? ≠ some true → u6 = .slice none 0 0) := ⟨_, rfl⟩
          obtain ⟨D, hD⟩ := hD
          have HD := Lib.hid hD
          clear hD
          have HR : Hid (∀ bs y, D bs y → RowL 27 y w.heap.size [.int .i64 a.max, .slice xi a.inputs.length xj, .slice xl a.latches.length xm, .slice xo a.outputs.length xp, .slice xb a.bads.length xc, .slice xv a.invars.length xw, .slice xa a.ands.length xq, .slice xn a.names.length xr] ∧ RowL 27 y Q [.int .i64 DD.max, .slice di DD.inputs.length dj, .slice dl DD.latches.length dm, .slice dO DD.outputs.length dp, .slice db DD.bads.length dc, .slice dv DD.invars.length dw, .slice da DD.ands.length dq, .slice dn DD.names.length dr] ∧ Below w.heap.size w y ∧ Y.heap.size ≤ y.heap.size ∧ Below Y.heap.size Y y ∨ True) := fun _ _ _ => Or.inr trivial
          clear HR
          have HR : Hid (∀ bs y, D bs y → RowL 27 y w.heap.size [.int .i64 a.max, .slice xi a.inputs.length xj, .slice xl a.latches.length xm, .slice xo a.outputs.length xp, .slice xb a.bads.length xc, .slice xv a.invars.length xw, .slice xa a.ands.length xq, .slice xn a.names.length xr] ∧ RowL 27 y Q [.int .i64 DD.max, .slice di DD.inputs.length dj, .slice dl DD.latches.length dm, .slice dO DD.outputs.length dp, .slice db DD.bads.length dc, .slice dv DD.invars.length dw, .slice da DD.ands.length dq, .slice dn DD.names.length dr] ∧ Below w.heap.size w y ∧ Y.heap.size ≤ y.heap.size ∧ CircParts y DD (.slice di DD.inputs.length dj) (.slice dl DD.latches.length dm) (.slice dO DD.outputs.length dp) (.slice db DD.bads.length dc) (.slice dv DD.invars.length dw) (.slice da DD.ands.length dq) (.slice dn DD.names.length dr)) := fun bs y hy => by
            rw [HD.out] at hy
            obtain ⟨h1, _⟩ := hy
            have k := hneq.out
            have hbm : Below V.heap.size Y y := (Below.refl _ Y).grown h1 HBV.out.size fun j e => by cases e; exact HMV.out
            refine ⟨X1.out.grown h1 (fun e => by have := Option.some.inj e; omega), X4.out.grown h1 (fun e => by have := Option.some.inj e; omega), below_grown HB7.out h1 HB7.out.size (by omega), h1.size, ?_⟩
            exact HPV.out.mono (HBV.out.trans hbm)
          refine wp_region_writes 32 [24, 28] [isV (.pointer (some ⟨m, 0, none⟩)), isV (.pointer (some ⟨m, 0, none⟩)), isV (.pointer (some ⟨m, 0, none⟩)), isV (.pointer (some ⟨w.heap.size, 2, none⟩)), isV (.slice xl a.latches.length xm), isV (.pointer (some ⟨Q, 2, none⟩)), isV (.slice dl DD.latches.length dm), (fun v y => ∃ g, v = .slice (some ⟨g, 0, none⟩) 2 2 ∧ Y.heap.size ≤ g ∧ RowL 23 y g [.slice xl a.latches.length xm, .slice dl DD.latches.length dm]), (fun v y => y.ownsRow Y.heap.size 38 3 v (a.latches.length + DD.latches.length) (a.latches.flatMap latCells ++ DD.latches.flatMap latCells)), isV (.pointer (some ⟨w.heap.size, 6, none⟩)), isV (.slice xa a.ands.length xq), isV (.pointer (some ⟨Q, 6, none⟩)), isV (.slice da DD.ands.length dq), (fun v y => ∃ g, v = .slice (some ⟨g, 0, none⟩) 2 2 ∧ Y.heap.size ≤ g ∧ RowL 24 y g [.slice xa a.ands.length xq, .slice da DD.ands.length dq]), (fun v y => y.ownsRow Y.heap.size 35 3 v (a.ands.length + DD.ands.length) (a.ands.flatMap gatCells ++ DD.ands.flatMap gatCells)), isV (.pointer (some ⟨w.heap.size, 5, none⟩)), isV (.slice xv a.invars.length xw), isV (.pointer (some ⟨Q, 5, none⟩)), isV (.slice dv DD.invars.length dw), (fun v y => ∃ g, v = .slice (some ⟨g, 0, none⟩) 2 2 ∧ Y.heap.size ≤ g ∧ RowL 22 y g [.slice xv a.invars.length xw, .slice dv DD.invars.length dw]), (fun v y => y.ownsRow Y.heap.size 3 1 v (a.invars.length + DD.invars.length) (a.invars.map (Value.int .i64) ++ DD.invars.map (Value.int .i64))), isV (.pointer (some ⟨m, 0, none⟩)), isV (.pointer (some ⟨m, 0, none⟩)), isV (.pointer (some ⟨m, 2, none⟩)), (fun _ _ => True), isV (.pointer (some ⟨m, 0, none⟩)), isV (.pointer (some ⟨m, 0, none⟩)), isV (.pointer (some ⟨m, 6, none⟩)), (fun _ _ => True), isV (.pointer (some ⟨m, 0, none⟩)), isV (.pointer (some ⟨m, 0, none⟩)), isV (.pointer (some ⟨m, 5, none⟩))] D
            [some 76, some 77, some 78, some 79, some 80, some 81, some 82, some 83, some 84, some 85, some 86, some 87, some 88, some 89, some 90, some 91, some 92, some 93, some 94, some 95, some 96, some 97, some 98, some 99, none, some 100, some 101, some 102, none, some 103, some 104, some 105] (by kernel_rfl) (by kernel_rfl) rfl (by
              intro g hg
              simp only [List.mem_cons, List.mem_nil_iff, or_false] at hg
              rcases hg with rfl | rfl | rfl | rfl | rfl | rfl | rfl | rfl | rfl | rfl | rfl | rfl | rfl | rfl | rfl | rfl | rfl | rfl | rfl | rfl | rfl | rfl | rfl | rfl | rfl | rfl | rfl | rfl | rfl | rfl | rfl | rfl <;> first
                | exact isV_keeps _ | exact fun _ _ _ _ h => h | exact fun _ _ _ hb h => owns_below h hb | exact fun _ _ _ hb ⟨g, e, h1, h2⟩ => ⟨g, e, h1, h2.mono hb⟩)
            (by rw [HD.out]; exact ⟨grownBy_drew (World.grownBy.refl _ _), _, _, XM.out, (fun h => by cases h), (fun _ => rfl), (fun h => by cases h), (fun _ => rfl)⟩)
            (fun bs y y' hb hy => by rw [HD.out] at hy ⊢; obtain ⟨h1, u2, u6, h2, h3, h4, h5, h6⟩ := hy; exact ⟨grownBy_below h1 hb, u2, u6, h2.mono hb, fun e => owns_below (h3 e) hb, h4, fun e => owns_below (h5 e) hb, h6⟩)
            (by decide) ?_ ?_
          · refine ⟨fun s vs y hs hs1 hs2 hy hd => ?_, fun s vs y hs hs1 hs2 hy hd => ?_, fun s vs y hs hs1 hs2 hy hd => ?_, fun s vs y hs hs1 hs2 hy hd => ?_, fun s vs y hs hs1 hs2 hy hd => ?_, fun s vs y hs hs1 hs2 hy hd => ?_, fun s vs y hs hs1 hs2 hy hd => ?_, fun s vs y hs hs1 hs2 hy hd => ?_, fun s vs y hs hs1 hs2 hy hd => ?_, fun s vs y hs hs1 hs2 hy hd => ?_, fun s vs y hs hs1 hs2 hy hd => ?_, fun s vs y hs hs1 hs2 hy hd => ?_, fun s vs y hs hs1 hs2 hy hd => ?_, fun s vs y hs hs1 hs2 hy hd => ?_, fun s vs y hs hs1 hs2 hy hd => ?_, fun s vs y hs hs1 hs2 hy hd => ?_, fun s vs y hs hs1 hs2 hy hd => ?_, fun s vs y hs hs1 hs2 hy hd => ?_, fun s vs y hs hs1 hs2 hy hd => ?_, fun s vs y hs hs1 hs2 hy hd => ?_, fun s vs y hs hs1 hs2 hy hd => ?_, fun s vs y hs hs1 hs2 hy hd => ?_, fun s vs y hs hs1 hs2 hy hd => ?_, fun s vs y hs hs1 hs2 hy hd => ?_, fun s vs y hs hs1 hs2 hy hd => ?_, fun s vs y hs hs1 hs2 hy hd => ?_, fun s vs y hs hs1 hs2 hy hd => ?_, fun s vs y hs hs1 hs2 hy hd => ?_, fun s vs y hs hs1 hs2 hy hd => ?_, fun s vs y hs hs1 hs2 hy hd => ?_, fun s vs y hs hs1 hs2 hy hd => ?_, fun s vs y hs hs1 hs2 hy hd => ?_, trivial⟩
            · (simp only [opens]; try simp only [Nat.reduceAdd])
              go_wp2_with fail
              exact ⟨_, rfl, rfl, Below.refl _ _⟩
            · (simp only [opens]; try simp only [Nat.reduceAdd])
              go_wp2_with fail
              exact ⟨_, rfl, rfl, Below.refl _ _⟩
            · (simp only [opens]; try simp only [Nat.reduceAdd])
              go_wp2_with fail
              exact ⟨_, rfl, rfl, Below.refl _ _⟩
            · (simp only [opens]; try simp only [Nat.reduceAdd])
              go_wp2_with fail
              exact ⟨_, rfl, rfl, Below.refl _ _⟩
            · have k0 := (HR.out _ y hy).1.cell 2 _ rfl
              have g0 : vs 3 = .pointer (some ⟨w.heap.size, 2, none⟩) := hd 3 (by decide) (by kernel_rfl)
              (simp only [opens]; try simp only [Nat.reduceAdd])
              rw [g0]
              go_wp2_with fail
              exact ⟨_, rfl, rfl, Below.refl _ _⟩
            · (simp only [opens]; try simp only [Nat.reduceAdd])
              go_wp2_with fail
              exact ⟨_, rfl, rfl, Below.refl _ _⟩
            · have k0 := (HR.out _ y hy).2.1.cell 2 _ rfl
              have g0 : vs 5 = .pointer (some ⟨Q, 2, none⟩) := hd 5 (by decide) (by kernel_rfl)
              (simp only [opens]; try simp only [Nat.reduceAdd])
              rw [g0]
              go_wp2_with fail
              exact ⟨_, rfl, rfl, Below.refl _ _⟩
            · have g0 : vs 4 = .slice xl a.latches.length xm := hd 4 (by decide) (by kernel_rfl)
              have g1 : vs 6 = .slice dl DD.latches.length dm := hd 6 (by decide) (by kernel_rfl)
              have hsy := (HR.out _ y hy).2.2.2.1
              (simp only [opens]; try simp only [Nat.reduceAdd])
              rw [g0, g1]
              go_wp2_with fail
              exact ⟨_, rfl, ⟨_, rfl, hsy, RowL.new y _⟩, (Below.refl _ _).alloc (Nat.le_refl _) _⟩
            · obtain ⟨g, g0, g1, g2⟩ : ∃ g, vs 7 = .slice (some ⟨g, 0, none⟩) 2 2 ∧ Y.heap.size ≤ g ∧ RowL 23 y g [.slice xl a.latches.length xm, .slice dl DD.latches.length dm] := hd 7 (by decide) (by kernel_rfl)
              obtain ⟨_, _, hbw, hsy, hpd⟩ := HR.out _ y hy
              have hX := Lib.hid (ConcatL_two a.latches.length DD.latches.length _ _ _ _ g y (HPA.out.latches.mono hbw).1 hpd.latches.1 (lat_one _) (lat_one _) (g2.cell 0 _ rfl) (g2.cell 1 _ rfl) (by have := hlen.out; omega))
              clear hpd hbw g2
              (simp only [opens]; try simp only [Nat.reduceAdd])
              rw [g0]
              go_wp2_with (go_at_call 43; refine hX.out.mono ?_; rintro e w4 ⟨u, rfl, hown, hb4⟩)
              exact ⟨_, rfl, World.ownsRow.mono hown hsy, hb4⟩
            · (simp only [opens]; try simp only [Nat.reduceAdd])
              go_wp2_with fail
              exact ⟨_, rfl, rfl, Below.refl _ _⟩
            · have k0 := (HR.out _ y hy).1.cell 6 _ rfl
              have g0 : vs 9 = .pointer (some ⟨w.heap.size, 6, none⟩) := hd 9 (by decide) (by kernel_rfl)
              (simp only [opens]; try simp only [Nat.reduceAdd])
              rw [g0]
              go_wp2_with fail
              exact ⟨_, rfl, rfl, Below.refl _ _⟩
            · (simp only [opens]; try simp only [Nat.reduceAdd])
              go_wp2_with fail
              exact ⟨_, rfl, rfl, Below.refl _ _⟩
            · have k0 := (HR.out _ y hy).2.1.cell 6 _ rfl
              have g0 : vs 11 = .pointer (some ⟨Q, 6, none⟩) := hd 11 (by decide) (by kernel_rfl)
              (simp only [opens]; try simp only [Nat.reduceAdd])
              rw [g0]
              go_wp2_with fail
              exact ⟨_, rfl, rfl, Below.refl _ _⟩
            · have g0 : vs 10 = .slice xa a.ands.length xq := hd 10 (by decide) (by kernel_rfl)
              have g1 : vs 12 = .slice da DD.ands.length dq := hd 12 (by decide) (by kernel_rfl)
              have hsy := (HR.out _ y hy).2.2.2.1
              (simp only [opens]; try simp only [Nat.reduceAdd])
              rw [g0, g1]
              go_wp2_with fail
              exact ⟨_, rfl, ⟨_, rfl, hsy, RowL.new y _⟩, (Below.refl _ _).alloc (Nat.le_refl _) _⟩
            · obtain ⟨g, g0, g1, g2⟩ : ∃ g, vs 13 = .slice (some ⟨g, 0, none⟩) 2 2 ∧ Y.heap.size ≤ g ∧ RowL 24 y g [.slice xa a.ands.length xq, .slice da DD.ands.length dq] := hd 13 (by decide) (by kernel_rfl)
              obtain ⟨_, _, hbw, hsy, hpd⟩ := HR.out _ y hy
              have hX := Lib.hid (ConcatA_two a.ands.length DD.ands.length _ _ _ _ g y (HPA.out.ands.mono hbw).1 hpd.ands.1 (gat_one _) (gat_one _) (g2.cell 0 _ rfl) (g2.cell 1 _ rfl) (by have := hlen.out; omega))
              clear hpd hbw g2
              (simp only [opens]; try simp only [Nat.reduceAdd])
              rw [g0]
              go_wp2_with (go_at_call 44; refine hX.out.mono ?_; rintro e w4 ⟨u, rfl, hown, hb4⟩)
              exact ⟨_, rfl, World.ownsRow.mono hown hsy, hb4⟩
            · (simp only [opens]; try simp only [Nat.reduceAdd])
              go_wp2_with fail
              exact ⟨_, rfl, rfl, Below.refl _ _⟩
            · have k0 := (HR.out _ y hy).1.cell 5 _ rfl
              have g0 : vs 15 = .pointer (some ⟨w.heap.size, 5, none⟩) := hd 15 (by decide) (by kernel_rfl)
              (simp only [opens]; try simp only [Nat.reduceAdd])
              rw [g0]
              go_wp2_with fail
              exact ⟨_, rfl, rfl, Below.refl _ _⟩
            · (simp only [opens]; try simp only [Nat.reduceAdd])
              go_wp2_with fail
              exact ⟨_, rfl, rfl, Below.refl _ _⟩
            · have k0 := (HR.out _ y hy).2.1.cell 5 _ rfl
              have g0 : vs 17 = .pointer (some ⟨Q, 5, none⟩) := hd 17 (by decide) (by kernel_rfl)
              (simp only [opens]; try simp only [Nat.reduceAdd])
              rw [g0]
              go_wp2_with fail
              exact ⟨_, rfl, rfl, Below.refl _ _⟩
            · have g0 : vs 16 = .slice xv a.invars.length xw := hd 16 (by decide) (by kernel_rfl)
              have g1 : vs 18 = .slice dv DD.invars.length dw := hd 18 (by decide) (by kernel_rfl)
              have hsy := (HR.out _ y hy).2.2.2.1
              (simp only [opens]; try simp only [Nat.reduceAdd])
              rw [g0, g1]
              go_wp2_with fail
              exact ⟨_, rfl, ⟨_, rfl, hsy, RowL.new y _⟩, (Below.refl _ _).alloc (Nat.le_refl _) _⟩
            · obtain ⟨g, g0, g1, g2⟩ : ∃ g, vs 19 = .slice (some ⟨g, 0, none⟩) 2 2 ∧ Y.heap.size ≤ g ∧ RowL 22 y g [.slice xv a.invars.length xw, .slice dv DD.invars.length dw] := hd 19 (by decide) (by kernel_rfl)
              obtain ⟨_, _, hbw, hsy, hpd⟩ := HR.out _ y hy
              have hX := Lib.hid (ConcatI_two a.invars.length DD.invars.length _ _ _ _ g y (HPA.out.invars.mono hbw).1 hpd.invars.1 (int_one _) (int_one _) (g2.cell 0 _ rfl) (g2.cell 1 _ rfl) (by have := hlen.out; omega))
              clear hpd hbw g2
              (simp only [opens]; try simp only [Nat.reduceAdd])
              rw [g0]
              go_wp2_with (go_at_call 45; refine hX.out.mono ?_; rintro e w4 ⟨u, rfl, hown, hb4⟩)
              exact ⟨_, rfl, World.ownsRow.mono hown hsy, hb4⟩
            · have g0 : vs 0 = .pointer (some ⟨m, 0, none⟩) := hd 0 (by decide) (by kernel_rfl)
              (simp only [opens]; try simp only [Nat.reduceAdd])
              rw [g0]
              go_wp2_with fail
              exact ⟨_, rfl, rfl, Below.refl _ _⟩
            · have g0 : vs 21 = .pointer (some ⟨m, 0, none⟩) := hd 21 (by decide) (by kernel_rfl)
              (simp only [opens]; try simp only [Nat.reduceAdd])
              rw [g0]
              go_wp2_with fail
              exact ⟨_, rfl, rfl, Below.refl _ _⟩
            · have g0 : vs 22 = .pointer (some ⟨m, 0, none⟩) := hd 22 (by decide) (by kernel_rfl)
              (simp only [opens]; try simp only [Nat.reduceAdd])
              rw [g0]
              go_wp2_with fail
              exact ⟨_, rfl, rfl, Below.refl _ _⟩
            · have g0 : vs 23 = .pointer (some ⟨m, 2, none⟩) := hd 23 (by decide) (by kernel_rfl)
              have g1 : y.ownsRow Y.heap.size 38 3 (vs 8) (a.latches.length + DD.latches.length) (a.latches.flatMap latCells ++ DD.latches.flatMap latCells) := hd 8 (by decide) (by kernel_rfl)
              have hy0 := hy
              rw [HD.out] at hy
              obtain ⟨h1, u2, u6, h2, h3, h4, h5, h6⟩ := hy
              have hbf : ∀ j, j < 32 → j ≠ 24 → ∀ y', y.grownBy y' (some m) → RowL 77 y m [.int .i64 (a.max + b.max), .slice ui a.inputs.length uj, u2, .slice none 0 0, .slice none 0 0, .slice none 0 0, u6, .slice none 0 0] → Facts [isV (.pointer (some ⟨m, 0, none⟩)), isV (.pointer (some ⟨m, 0, none⟩)), isV (.pointer (some ⟨m, 0, none⟩)), isV (.pointer (some ⟨w.heap.size, 2, none⟩)), isV (.slice xl a.latches.length xm), isV (.pointer (some ⟨Q, 2, none⟩)), isV (.slice dl DD.latches.length dm), (fun v y => ∃ g, v = .slice (some ⟨g, 0, none⟩) 2 2 ∧ Y.heap.size ≤ g ∧ RowL 23 y g [.slice xl a.latches.length xm, .slice dl DD.latches.length dm]), (fun v y => y.ownsRow Y.heap.size 38 3 v (a.latches.length + DD.latches.length) (a.latches.flatMap latCells ++ DD.latches.flatMap latCells)), isV (.pointer (some ⟨w.heap.size, 6, none⟩)), isV (.slice xa a.ands.length xq), isV (.pointer (some ⟨Q, 6, none⟩)), isV (.slice da DD.ands.length dq), (fun v y => ∃ g, v = .slice (some ⟨g, 0, none⟩) 2 2 ∧ Y.heap.size ≤ g ∧ RowL 24 y g [.slice xa a.ands.length xq, .slice da DD.ands.length dq]), (fun v y => y.ownsRow Y.heap.size 35 3 v (a.ands.length + DD.ands.length) (a.ands.flatMap gatCells ++ DD.ands.flatMap gatCells)), isV (.pointer (some ⟨w.heap.size, 5, none⟩)), isV (.slice xv a.invars.length xw), isV (.pointer (some ⟨Q, 5, none⟩)), isV (.slice dv DD.invars.length dw), (fun v y => ∃ g, v = .slice (some ⟨g, 0, none⟩) 2 2 ∧ Y.heap.size ≤ g ∧ RowL 22 y g [.slice xv a.invars.length xw, .slice dv DD.invars.length dw]), (fun v y => y.ownsRow Y.heap.size 3 1 v (a.invars.length + DD.invars.length) (a.invars.map (Value.int .i64) ++ DD.invars.map (Value.int .i64))), isV (.pointer (some ⟨m, 0, none⟩)), isV (.pointer (some ⟨m, 0, none⟩)), isV (.pointer (some ⟨m, 2, none⟩)), (fun _ _ => True), isV (.pointer (some ⟨m, 0, none⟩)), isV (.pointer (some ⟨m, 0, none⟩)), isV (.pointer (some ⟨m, 6, none⟩)), (fun _ _ => True), isV (.pointer (some ⟨m, 0, none⟩)), isV (.pointer (some ⟨m, 0, none⟩)), isV (.pointer (some ⟨m, 5, none⟩))] j (vs j) y → Facts [isV (.pointer (some ⟨m, 0, none⟩)), isV (.pointer (some ⟨m, 0, none⟩)), isV (.pointer (some ⟨m, 0, none⟩)), isV (.pointer (some ⟨w.heap.size, 2, none⟩)), isV (.slice xl a.latches.length xm), isV (.pointer (some ⟨Q, 2, none⟩)), isV (.slice dl DD.latches.length dm), (fun v y => ∃ g, v = .slice (some ⟨g, 0, none⟩) 2 2 ∧ Y.heap.size ≤ g ∧ RowL 23 y g [.slice xl a.latches.length xm, .slice dl DD.latches.length dm]), (fun v y => y.ownsRow Y.heap.size 38 3 v (a.latches.length + DD.latches.length) (a.latches.flatMap latCells ++ DD.latches.flatMap latCells)), isV (.pointer (some ⟨w.heap.size, 6, none⟩)), isV (.slice xa a.ands.length xq), isV (.pointer (some ⟨Q, 6, none⟩)), isV (.slice da DD.ands.length dq), (fun v y => ∃ g, v = .slice (some ⟨g, 0, none⟩) 2 2 ∧ Y.heap.size ≤ g ∧ RowL 24 y g [.slice xa a.ands.length xq, .slice da DD.ands.length dq]), (fun v y => y.ownsRow Y.heap.size 35 3 v (a.ands.length + DD.ands.length) (a.ands.flatMap gatCells ++ DD.ands.flatMap gatCells)), isV (.pointer (some ⟨w.heap.size, 5, none⟩)), isV (.slice xv a.invars.length xw), isV (.pointer (some ⟨Q, 5, none⟩)), isV (.slice dv DD.invars.length dw), (fun v y => ∃ g, v = .slice (some ⟨g, 0, none⟩) 2 2 ∧ Y.heap.size ≤ g ∧ RowL 22 y g [.slice xv a.invars.length xw, .slice dv DD.invars.length dw]), (fun v y => y.ownsRow Y.heap.size 3 1 v (a.invars.length + DD.invars.length) (a.invars.map (Value.int .i64) ++ DD.invars.map (Value.int .i64))), isV (.pointer (some ⟨m, 0, none⟩)), isV (.pointer (some ⟨m, 0, none⟩)), isV (.pointer (some ⟨m, 2, none⟩)), (fun _ _ => True), isV (.pointer (some ⟨m, 0, none⟩)), isV (.pointer (some ⟨m, 0, none⟩)), isV (.pointer (some ⟨m, 6, none⟩)), (fun _ _ => True), isV (.pointer (some ⟨m, 0, none⟩)), isV (.pointer (some ⟨m, 0, none⟩)), isV (.pointer (some ⟨m, 5, none⟩))] j (vs j) y' := fun j hj hne y' hg hr hfj => by
                obtain rfl | rfl | rfl | rfl | rfl | rfl | rfl | rfl | rfl | rfl | rfl | rfl | rfl | rfl | rfl | rfl | rfl | rfl | rfl | rfl | rfl | rfl | rfl | rfl | rfl | rfl | rfl | rfl | rfl | rfl | rfl := (by omega : j = 0 ∨ j = 1 ∨ j = 2 ∨ j = 3 ∨ j = 4 ∨ j = 5 ∨ j = 6 ∨ j = 7 ∨ j = 8 ∨ j = 9 ∨ j = 10 ∨ j = 11 ∨ j = 12 ∨ j = 13 ∨ j = 14 ∨ j = 15 ∨ j = 16 ∨ j = 17 ∨ j = 18 ∨ j = 19 ∨ j = 20 ∨ j = 21 ∨ j = 22 ∨ j = 23 ∨ j = 25 ∨ j = 26 ∨ j = 27 ∨ j = 28 ∨ j = 29 ∨ j = 30 ∨ j = 31)
                all_goals first | exact hfj | exact owns_other hfj hg hr (by decide) | (obtain ⟨g, e1, e2, e3⟩ := hfj; exact ⟨g, e1, e2, e3.grown hg fun e => by have := Option.some.inj e; have := hneq.out; omega⟩)
              have hc := h2.cell 2 _ rfl
              have hfz := h2.frozen 2
              (simp only [opens]; try simp only [Nat.reduceAdd])
              rw [g0]
              generalize hv8 : vs 8 = v8
              rw [hv8] at g1
              have G1 := Lib.hid g1
              obtain ⟨s8, c8, rfl⟩ := owned_slice g1
              have hR8 : Hid (RowL 77 (y.setCell ⟨m, 2, none⟩ (.slice s8 (a.latches.length + DD.latches.length) c8)) m [.int .i64 (a.max + b.max), .slice ui a.inputs.length uj, .slice s8 (a.latches.length + DD.latches.length) c8, .slice none 0 0, .slice none 0 0, .slice none 0 0, u6, .slice none 0 0]) := h2.set 2 (.slice s8 (a.latches.length + DD.latches.length) c8)
              have hG8 := Lib.hid (set_grown' y m 2 (.slice s8 (a.latches.length + DD.latches.length) c8))
              have hO8 := Lib.hid (owns_other G1.out hG8.out h2 (by decide))
              have hbF := Lib.hid fun j hj hne => hbf j hj hne _ hG8.out h2
              have s28 : s 28 = false := hs2 28 (by decide) (by kernel_rfl)
              have h6 := h6 (by rw [show [24, 28].map s = [s 24, s 28] from rfl, s28]; exact fun h => by simp at h)
              subst h6
              have HH : Hid (D [true, false] (y.setCell ⟨m, 2, none⟩ (.slice s8 (a.latches.length + DD.latches.length) c8))) := by
                show D _ _
                rw [HD.out]
                refine ⟨grownBy_two h1 hG8.out fun j e => Or.inr (Option.some.inj e).symm, _, _, hR8.out, (fun _ => hO8.out), (fun h => absurd rfl h), (fun h => ?_), (fun _ => rfl)⟩
                cases h
              clear g1 h1 h2 h3 h4 h5 hd hbf hy0
              go_wp2_with fail
              exact ⟨rfl, ⟨undef, trivial⟩, HH.out, hbF.out⟩
            · have g0 : vs 1 = .pointer (some ⟨m, 0, none⟩) := hd 1 (by decide) (by kernel_rfl)
              (simp only [opens]; try simp only [Nat.reduceAdd])
              rw [g0]
              go_wp2_with fail
              exact ⟨_, rfl, rfl, Below.refl _ _⟩
            · have g0 : vs 25 = .pointer (some ⟨m, 0, none⟩) := hd 25 (by decide) (by kernel_rfl)
              (simp only [opens]; try simp only [Nat.reduceAdd])
              rw [g0]
              go_wp2_with fail
              exact ⟨_, rfl, rfl, Below.refl _ _⟩
            · have g0 : vs 26 = .pointer (some ⟨m, 0, none⟩) := hd 26 (by decide) (by kernel_rfl)
              (simp only [opens]; try simp only [Nat.reduceAdd])
              rw [g0]
              go_wp2_with fail
              exact ⟨_, rfl, rfl, Below.refl _ _⟩
            · have g0 : vs 27 = .pointer (some ⟨m, 6, none⟩) := hd 27 (by decide) (by kernel_rfl)
              have g1 : y.ownsRow Y.heap.size 35 3 (vs 14) (a.ands.length + DD.ands.length) (a.ands.flatMap gatCells ++ DD.ands.flatMap gatCells) := hd 14 (by decide) (by kernel_rfl)
              have hy0 := hy
              rw [HD.out] at hy
              obtain ⟨h1, u2, u6, h2, h3, h4, h5, h6⟩ := hy
              have hbf : ∀ j, j < 32 → j ≠ 28 → ∀ y', y.grownBy y' (some m) → RowL 77 y m [.int .i64 (a.max + b.max), .slice ui a.inputs.length uj, u2, .slice none 0 0, .slice none 0 0, .slice none 0 0, u6, .slice none 0 0] → Facts [isV (.pointer (some ⟨m, 0, none⟩)), isV (.pointer (some ⟨m, 0, none⟩)), isV (.pointer (some ⟨m, 0, none⟩)), isV (.pointer (some ⟨w.heap.size, 2, none⟩)), isV (.slice xl a.latches.length xm), isV (.pointer (some ⟨Q, 2, none⟩)), isV (.slice dl DD.latches.length dm), (fun v y => ∃ g, v = .slice (some ⟨g, 0, none⟩) 2 2 ∧ Y.heap.size ≤ g ∧ RowL 23 y g [.slice xl a.latches.length xm, .slice dl DD.latches.length dm]), (fun v y => y.ownsRow Y.heap.size 38 3 v (a.latches.length + DD.latches.length) (a.latches.flatMap latCells ++ DD.latches.flatMap latCells)), isV (.pointer (some ⟨w.heap.size, 6, none⟩)), isV (.slice xa a.ands.length xq), isV (.pointer (some ⟨Q, 6, none⟩)), isV (.slice da DD.ands.length dq), (fun v y => ∃ g, v = .slice (some ⟨g, 0, none⟩) 2 2 ∧ Y.heap.size ≤ g ∧ RowL 24 y g [.slice xa a.ands.length xq, .slice da DD.ands.length dq]), (fun v y => y.ownsRow Y.heap.size 35 3 v (a.ands.length + DD.ands.length) (a.ands.flatMap gatCells ++ DD.ands.flatMap gatCells)), isV (.pointer (some ⟨w.heap.size, 5, none⟩)), isV (.slice xv a.invars.length xw), isV (.pointer (some ⟨Q, 5, none⟩)), isV (.slice dv DD.invars.length dw), (fun v y => ∃ g, v = .slice (some ⟨g, 0, none⟩) 2 2 ∧ Y.heap.size ≤ g ∧ RowL 22 y g [.slice xv a.invars.length xw, .slice dv DD.invars.length dw]), (fun v y => y.ownsRow Y.heap.size 3 1 v (a.invars.length + DD.invars.length) (a.invars.map (Value.int .i64) ++ DD.invars.map (Value.int .i64))), isV (.pointer (some ⟨m, 0, none⟩)), isV (.pointer (some ⟨m, 0, none⟩)), isV (.pointer (some ⟨m, 2, none⟩)), (fun _ _ => True), isV (.pointer (some ⟨m, 0, none⟩)), isV (.pointer (some ⟨m, 0, none⟩)), isV (.pointer (some ⟨m, 6, none⟩)), (fun _ _ => True), isV (.pointer (some ⟨m, 0, none⟩)), isV (.pointer (some ⟨m, 0, none⟩)), isV (.pointer (some ⟨m, 5, none⟩))] j (vs j) y → Facts [isV (.pointer (some ⟨m, 0, none⟩)), isV (.pointer (some ⟨m, 0, none⟩)), isV (.pointer (some ⟨m, 0, none⟩)), isV (.pointer (some ⟨w.heap.size, 2, none⟩)), isV (.slice xl a.latches.length xm), isV (.pointer (some ⟨Q, 2, none⟩)), isV (.slice dl DD.latches.length dm), (fun v y => ∃ g, v = .slice (some ⟨g, 0, none⟩) 2 2 ∧ Y.heap.size ≤ g ∧ RowL 23 y g [.slice xl a.latches.length xm, .slice dl DD.latches.length dm]), (fun v y => y.ownsRow Y.heap.size 38 3 v (a.latches.length + DD.latches.length) (a.latches.flatMap latCells ++ DD.latches.flatMap latCells)), isV (.pointer (some ⟨w.heap.size, 6, none⟩)), isV (.slice xa a.ands.length xq), isV (.pointer (some ⟨Q, 6, none⟩)), isV (.slice da DD.ands.length dq), (fun v y => ∃ g, v = .slice (some ⟨g, 0, none⟩) 2 2 ∧ Y.heap.size ≤ g ∧ RowL 24 y g [.slice xa a.ands.length xq, .slice da DD.ands.length dq]), (fun v y => y.ownsRow Y.heap.size 35 3 v (a.ands.length + DD.ands.length) (a.ands.flatMap gatCells ++ DD.ands.flatMap gatCells)), isV (.pointer (some ⟨w.heap.size, 5, none⟩)), isV (.slice xv a.invars.length xw), isV (.pointer (some ⟨Q, 5, none⟩)), isV (.slice dv DD.invars.length dw), (fun v y => ∃ g, v = .slice (some ⟨g, 0, none⟩) 2 2 ∧ Y.heap.size ≤ g ∧ RowL 22 y g [.slice xv a.invars.length xw, .slice dv DD.invars.length dw]), (fun v y => y.ownsRow Y.heap.size 3 1 v (a.invars.length + DD.invars.length) (a.invars.map (Value.int .i64) ++ DD.invars.map (Value.int .i64))), isV (.pointer (some ⟨m, 0, none⟩)), isV (.pointer (some ⟨m, 0, none⟩)), isV (.pointer (some ⟨m, 2, none⟩)), (fun _ _ => True), isV (.pointer (some ⟨m, 0, none⟩)), isV (.pointer (some ⟨m, 0, none⟩)), isV (.pointer (some ⟨m, 6, none⟩)), (fun _ _ => True), isV (.pointer (some ⟨m, 0, none⟩)), isV (.pointer (some ⟨m, 0, none⟩)), isV (.pointer (some ⟨m, 5, none⟩))] j (vs j) y' := fun j hj hne y' hg hr hfj => by
                obtain rfl | rfl | rfl | rfl | rfl | rfl | rfl | rfl | rfl | rfl | rfl | rfl | rfl | rfl | rfl | rfl | rfl | rfl | rfl | rfl | rfl | rfl | rfl | rfl | rfl | rfl | rfl | rfl | rfl | rfl | rfl := (by omega : j = 0 ∨ j = 1 ∨ j = 2 ∨ j = 3 ∨ j = 4 ∨ j = 5 ∨ j = 6 ∨ j = 7 ∨ j = 8 ∨ j = 9 ∨ j = 10 ∨ j = 11 ∨ j = 12 ∨ j = 13 ∨ j = 14 ∨ j = 15 ∨ j = 16 ∨ j = 17 ∨ j = 18 ∨ j = 19 ∨ j = 20 ∨ j = 21 ∨ j = 22 ∨ j = 23 ∨ j = 24 ∨ j = 25 ∨ j = 26 ∨ j = 27 ∨ j = 29 ∨ j = 30 ∨ j = 31)
                all_goals first | exact hfj | exact owns_other hfj hg hr (by decide) | (obtain ⟨g, e1, e2, e3⟩ := hfj; exact ⟨g, e1, e2, e3.grown hg fun e => by have := Option.some.inj e; have := hneq.out; omega⟩)
              have hc := h2.cell 6 _ rfl
              have hfz := h2.frozen 6
              (simp only [opens]; try simp only [Nat.reduceAdd])
              rw [g0]
              generalize hv14 : vs 14 = v8
              rw [hv14] at g1
              have G1 := Lib.hid g1
              obtain ⟨s8, c8, rfl⟩ := owned_slice g1
              have hR8 : Hid (RowL 77 (y.setCell ⟨m, 6, none⟩ (.slice s8 (a.ands.length + DD.ands.length) c8)) m [.int .i64 (a.max + b.max), .slice ui a.inputs.length uj, u2, .slice none 0 0, .slice none 0 0, .slice none 0 0, .slice s8 (a.ands.length + DD.ands.length) c8, .slice none 0 0]) := h2.set 6 (.slice s8 (a.ands.length + DD.ands.length) c8)
              have hG8 := Lib.hid (set_grown' y m 6 (.slice s8 (a.ands.length + DD.ands.length) c8))
              have hO8 := Lib.hid (owns_other G1.out hG8.out h2 (by decide))
              have hbF := Lib.hid fun j hj hne => hbf j hj hne _ hG8.out h2
              have s24 : s 24 = true := hs1 24 (by kernel_rfl)
              have h3 := h3 (by rw [show [24, 28].map s = [s 24, s 28] from rfl, s24]; rfl)
              have h6 := h6 (by rw [show [24, 28].map s = [s 24, s 28] from rfl, hs]; exact fun h => by simp at h)
              subst h6
              have HH : Hid (D [true, true] (y.setCell ⟨m, 6, none⟩ (.slice s8 (a.ands.length + DD.ands.length) c8))) := by
                show D _ _
                rw [HD.out]
                refine ⟨grownBy_two h1 hG8.out fun j e => Or.inr (Option.some.inj e).symm, u2, _, hR8.out, (fun _ => owns_other h3 hG8.out h2 (by decide)), (fun h => ?_), (fun _ => hO8.out), (fun h => absurd rfl h)⟩
                exact absurd rfl h
              clear g1 h1 h2 h3 h4 h5 hd hbf hy0
              go_wp2_with fail
              exact ⟨rfl, ⟨undef, trivial⟩, HH.out, hbF.out⟩
            · have g0 : vs 2 = .pointer (some ⟨m, 0, none⟩) := hd 2 (by decide) (by kernel_rfl)
              (simp only [opens]; try simp only [Nat.reduceAdd])
              rw [g0]
              go_wp2_with fail
              exact ⟨_, rfl, rfl, Below.refl _ _⟩
            · have g0 : vs 29 = .pointer (some ⟨m, 0, none⟩) := hd 29 (by decide) (by kernel_rfl)
              (simp only [opens]; try simp only [Nat.reduceAdd])
              rw [g0]
              go_wp2_with fail
              exact ⟨_, rfl, rfl, Below.refl _ _⟩
            · have g0 : vs 30 = .pointer (some ⟨m, 0, none⟩) := hd 30 (by decide) (by kernel_rfl)
              (simp only [opens]; try simp only [Nat.reduceAdd])
              rw [g0]
              go_wp2_with fail
              exact ⟨_, rfl, rfl, Below.refl _ _⟩
          intro vs y hy hf
          have g0 : vs 31 = .pointer (some ⟨m, 5, none⟩) := hf 31 (by decide)
          have g1 : y.ownsRow Y.heap.size 3 1 (vs 20) (a.invars.length + DD.invars.length) (a.invars.map (Value.int .i64) ++ DD.invars.map (Value.int .i64)) := hf 20 (by decide)
          rw [HD.out] at hy
          obtain ⟨h1, u2, u6, h2, h3, -, h5, -⟩ := hy
          have O2 := h3 rfl
          have O6 := h5 rfl
          (simp only [opens]; try simp only [Nat.reduceAdd])
          rw [g0]
          generalize hv20 : vs 20 = v5
          rw [hv20] at g1
          have G1 := Lib.hid g1
          obtain ⟨s5, c5, rfl⟩ := owned_slice g1
          have G2 := Lib.hid O2
          obtain ⟨s2, c2, rfl⟩ := owned_slice O2
          have hc := h2.cell 5 _ rfl
          have hfz := h2.frozen 5
          have hZ : ∃ Z, Z = y.setCell ⟨m, 5, none⟩ (.slice s5 (a.invars.length + DD.invars.length) c5) := ⟨_, rfl⟩
          obtain ⟨Z, hZ⟩ := hZ
          have hR : RowL 77 Z m [.int .i64 (a.max + b.max), .slice ui a.inputs.length uj, .slice s2 (a.latches.length + DD.latches.length) c2, .slice none 0 0, .slice none 0 0, .slice s5 (a.invars.length + DD.invars.length) c5, u6, .slice none 0 0] := by rw [hZ]; exact h2.set 5 (.slice s5 (a.invars.length + DD.invars.length) c5)
          have hG : y.grownBy Z (some m) := by rw [hZ]; exact set_grown' y m 5 (.slice s5 (a.invars.length + DD.invars.length) c5)
          have hYZ := grownBy_two h1 hG fun j e => Or.inr (Option.some.inj e).symm
          have k := hneq.out
          have hbm : Below V.heap.size Y Z := (Below.refl _ Y).grown hYZ HBV.out.size fun j e => by cases e; exact HMV.out
          have RM := Lib.hid (hR)
          have OZ2 := Lib.hid (owns_other G2.out hG h2 (by decide))
          have OZ5 := Lib.hid (owns_other G1.out hG h2 (by decide))
          have OZ6 := Lib.hid (owns_other O6 hG h2 (by decide))
          have OZU := Lib.hid (XU.out.kept hYZ XM.out (by decide))
          have Z1 := Lib.hid (X1.out.grown hYZ (fun e => by have := Option.some.inj e; omega))
          have Z3 := Lib.hid (X3.out.grown hYZ (fun e => by have := Option.some.inj e; omega))
          have Z4 := Lib.hid (X4.out.grown hYZ (fun e => by have := Option.some.inj e; omega))
          have HBZ := Lib.hid (below_grown HB7.out hYZ HB7.out.size (by omega))
          have HVZ := Lib.hid (HBV.out.trans hbm)
          have hYs : Hid (Y.heap.size ≤ Z.heap.size ∧ w.heap.size ≤ Y.heap.size ∧ V.heap.size ≤ Y.heap.size) := ⟨hYZ.size, HB7.out.size, HBV.out.size⟩
          have HZ := Lib.hid hZ
          have hMk : Hid (Maker Z m Y.heap.size (PC.mkN a b 0).mx (.slice ui a.inputs.length uj) (.slice s2 (a.latches.length + DD.latches.length) c2) (.slice none 0 0) (.slice none 0 0) (.slice s5 (a.invars.length + DD.invars.length) c5) (.slice none 0 0) (PC.mkN a b 0).gs) := by
            refine ⟨u6, RM.out, ?_⟩
            have := OZ6.out
            rw [show (PC.mkN a b 0).gs = a.ands ++ DD.ands from by rw [HDD.out]; rfl, List.length_append, List.flatMap_append]
            exact this
          have hAo : Hid (∀ j (hj : j < a.outputs.length), ∃ b off, xo = some ⟨b, off, none⟩ ∧ b < w.heap.size ∧ w.cell? ⟨b, off + j, none⟩ = some (.int .i64 a.outputs[j])) := fun j hj => by
            obtain ⟨_, _, e, _, _, h⟩ := HPA.out.outputs.open_
            cases e
            obtain ⟨b1, o1, e1, e2, _, e3⟩ := h j hj
            exact ⟨b1, o1, e1, e2, e3⟩
          have hDo : Hid (∀ j (hj : j < DD.outputs.length), ∃ b off, dO = some ⟨b, off, none⟩ ∧ b < V.heap.size ∧ V.cell? ⟨b, off + j, none⟩ = some (.int .i64 DD.outputs[j])) := fun j hj => by
            obtain ⟨_, _, e, _, _, h⟩ := HPV.out.outputs.open_
            cases e
            obtain ⟨b1, o1, e1, e2, _, e3⟩ := h j hj
            exact ⟨b1, o1, e1, e2, e3⟩
          have hdl : Hid (DD.outputs.length = a.outputs.length) := by show _ = _; rw [HDD.out]; simp [PC.shiftC, HOL.out]
          have hdr : Hid (∀ x ∈ DD.outputs, 0 ≤ x ∧ x ≤ 10000) := by rw [HDD.out]; exact PC.shift_out a b hRRa.out hRRb.out
          have har : Hid (∀ x ∈ a.outputs, 0 ≤ x ∧ x ≤ 10000) := fun x hx => by
            have h1 := PC.known_range a hRRa.out x (hRRa.out.outK x hx)
            have := hbds.out
            omega
          have hIr : Hid (∀ x ∈ a.inputs, rng x) := HPA.out.inputs.2
          have hLr : Hid (∀ x ∈ a.latches ++ DD.latches, rng x.lit ∧ rng x.next ∧ rng x.reset) := fun x hx => (List.mem_append.1 hx).elim (HPA.out.latches.2 x) (HPV.out.latches.2 x)
          have hVr : Hid (∀ x ∈ a.invars ++ DD.invars, rng x) := fun x hx => (List.mem_append.1 hx).elim (HPA.out.invars.2 x) (HPV.out.invars.2 x)
          have hKr : Hid (∀ x ∈ (PC.mkAll a b).gs, rng x.lit ∧ rng x.left ∧ rng x.right) := PC.mkAll_rng a b HOL.out hbds.out.1 hbds.out.2.2.1 hsz.out.1 HPA.out.ands.2 (fun x hx => HPV.out.ands.2 x (by rw [HDD.out]; exact hx)) (fun x hx => by have := har.out x hx; omega) (fun x hx => by have := hdr.out x (by rw [HDD.out]; exact hx); omega)
          have p3 := Z1.out.cell 3 _ rfl
          rw [HZ.out] at p3
          clear hf hZ hR hG hYZ hbm k h1 h2 h3 h5 g0 g1 O2 O6 G1 G2 X1 X3 X4 XM XU HB7 HPX HR HBV hmlt HD
          go_wp2_with fail
          rw [← HZ.out]
          clear p3 hc hfz
          go_loopg [10, 109] a.outputs.length (fun gg s10 s109 wr => ∃ k : Nat, k ≤ a.outputs.length ∧ a.outputs.length - k ≤ gg ∧ s109 = .int .i64 k ∧ s10 = .int .i64 (PC.mkN a b k).bad ∧ Hid (Maker wr m Y.heap.size (PC.mkN a b k).mx (.slice ui a.inputs.length uj) (.slice s2 (a.latches.length + DD.latches.length) c2) (.slice none 0 0) (.slice none 0 0) (.slice s5 (a.invars.length + DD.invars.length) c5) (.slice none 0 0) (PC.mkN a b k).gs) ∧ Hid (Sep m Y.heap.size Z wr))
          case atStart => exact ⟨0, Nat.zero_le _, by omega, rfl, rfl, hMk.out, Sep.refl _ _ _⟩
          case round =>
            obtain ⟨k, hk, hg, rfl, rfl, hmk, hsp⟩ := hrel
            have hkk := hneq.out
            have hys := hYs.out
            have HB := Lib.hid (Sep.below HBZ.out hsp.out hys.2.1 HBZ.out.size (by omega))
            have HBv := Lib.hid (Sep.below HVZ.out hsp.out hys.2.2 HVZ.out.size HMV.out)
            by_cases hlt : k < a.outputs.length
            · have hmea : ∀ g : Nat, a.outputs.length - k ≤ g → a.outputs.length - (k + 1) < g := fun g h => by omega
              obtain ⟨b1, o1, rfl, hl1, hc1⟩ := hAo.out k hlt
              obtain ⟨b2, o2, rfl, hl2, hc2⟩ := hDo.out k (by rw [hdl.out]; exact hlt)
              have hc1 := (HB.out.cell hl1).trans hc1
              have hc2 := (HBv.out.cell hl2).trans hc2
              have hq3 := (Z4.out.sep hsp.out (by omega) (by decide)).cell 3 _ rfl
              obtain ⟨m1, m2, m3⟩ := PC.mkN_shape a b HOL.out k hk
              have hst : Hid (PC.mkN a b (k + 1) = PC.mkStep (PC.mkN a b k) (a.outputs[k], DD.outputs[k]'(by rw [hdl.out]; exact hlt))) := by
                show _ = _
                rw [PC.mkN_succ a b HOL.out k hlt]
                simp only [HDD.out]
              have hxr := har.out _ (List.getElem_mem hlt)
              have hyr := hdr.out _ (List.getElem_mem (show k < DD.outputs.length by rw [hdl.out]; exact hlt))
              have hsz4 := hsz.out.1
              have hln := hlen.out
              have hdk : (k : Int) < (DD.outputs.length : Int) := by have := hdl.out; omega
              have hbd : 0 ≤ (PC.mkN a b k).bad ∧ (PC.mkN a b k).bad ≤ 1000000 := by rw [m3]; have := hbds.out; split <;> omega
              have hmx : 0 ≤ (PC.mkN a b k).mx ∧ (PC.mkN a b k).mx ≤ 2048 := by rw [m1]; have := hbds.out; omega
              have hgl : (PC.mkN a b k).gs.length ≤ 80000 := by rw [m2]; have h1 := PC.ands_len b hRRb.out; have := hbds.out; omega
              generalize a.outputs[k] = x at *
              generalize DD.outputs[k]'_ = y at *
              generalize PC.mkN a b k = K at *
              obtain ⟨K1, K2, K3⟩ := K
              simp only at hbd hmx hgl hmk hst
              have hBw : Y.heap.size ≤ wr.heap.size := Nat.le_trans hys.1 hsp.out.size
              have hUn := Lib.hid (mUnlike_any m Y.heap.size K1 x y _ _ _ _ _ _ K2 wr hmk.out hmx.1 (by omega) (by omega) hBw ⟨hxr.1, by omega⟩ ⟨hyr.1, by omega⟩)
              have hOr : Hid (∀ w1 gs, gs.length ≤ 90000 → Maker w1 m Y.heap.size (K1 + 3) (.slice ui a.inputs.length uj) (.slice s2 (a.latches.length + DD.latches.length) c2) (.slice none 0 0) (.slice none 0 0) (.slice s5 (a.invars.length + DD.invars.length) c5) (.slice none 0 0) gs → Y.heap.size ≤ w1.heap.size → _) := fun w1 gs hgs hM hB1 => mOr_any m Y.heap.size (K1 + 3) K3 (2 * (K1 + 3) + 1) _ _ _ _ _ _ gs w1 hM (by omega) (by omega) hgs hB1 hbd ⟨by omega, by omega⟩
              have hgl2 : Hid (K2.length ≤ 80000) := hgl
              have hBw2 := Lib.hid hBw
              have hmx2 := Lib.hid hmx
              have hltz : (k : Int) < (a.outputs.length : Int) := by omega
              have hob : a.outputs.length ≤ 64 := hbds.out.2.2.2.2
              clear hxr hyr hsz4 hln hbd hmx hgl m1 m2 m3 hkk hys hBw hmk
              go_wp2_with fail
              refine hUn.out.mono ?_
              rintro e w7 ⟨rfl, hM7, hS7⟩
              have hO7 := Lib.hid (hOr.out w7 _ (by have := hgl2.out; simp; omega) hM7 (Nat.le_trans hBw2.out hS7.size))
              have HS7 := Lib.hid (hsp.out.trans hS7)
              clear hM7 hS7 hq3 hc1 hc2
              go_wp2_with fail
              refine hO7.out.mono ?_
              rintro e w8 ⟨rfl, hM8, hS8⟩
              have HM8 := Lib.hid hM8
              have HS8 := Lib.hid (HS7.out.trans hS8)
              clear hM8 hS8
              go_wp2_with fail
              go_roundg (a.outputs.length - (k + 1))
              case measure => exact hmea _ hg
              case rel =>
                have hmx := hmx2.out
                have e5 : PC.opn (2 * (K1 + 3) + 1) = 2 * (K1 + 3) := by unfold PC.opn; rw [if_neg (by omega)]; omega
                have hM := HM8.out
                rw [e5, show K1 + 3 + 1 = K1 + 4 by omega, List.append_assoc] at hM
                refine ⟨k + 1, by omega, by omega, by go_num, ?_, ?_, HS8.out⟩
                · rw [hst.out]; show _ = Value.int .i64 (2 * (K1 + 4) + 1); rw [show K1 + 3 + 1 = K1 + 4 by omega]
                · show Maker _ _ _ _ _ _ _ _ _ _ _
                  rw [hst.out]
                  exact hM
            · have hltz : ¬ (k : Int) < (a.outputs.length : Int) := by omega
              obtain rfl : k = a.outputs.length := by omega
              rw [PC.mkN_all a b HOL.out] at hmk
              have hbad := (PC.mkN_shape a b HOL.out _ (Nat.le_refl _)).2.2
              have hmxx := (PC.mkN_shape a b HOL.out _ (Nat.le_refl _)).1
              rw [PC.mkN_all a b HOL.out] at hbad hmxx
              rw [PC.mkN_all a b HOL.out]
              have hKbad : Hid (rng (PC.mkAll a b).bad ∧ rng (PC.mkAll a b).mx) := by
                have h1 := hsz.out.1
                have h2 := hbds.out
                show rng _ ∧ rng _
                rw [hbad, hmxx]
                unfold rng
                split <;> omega
              obtain ⟨K, hK⟩ : ∃ K, K = PC.mkAll a b := ⟨_, rfl⟩
              rw [← hK] at hmk hKbad hbad hmxx hKr
              rw [← hK]
              have HK := Lib.hid hK
              clear hK
              obtain ⟨K1, K2, K3⟩ := K
              simp only at hmk hKbad hKr
              obtain ⟨va, hrow, hown⟩ := hmk.out
              obtain ⟨sa, ca, rfl⟩ := owned_slice hown
              have hT : ∃ T, T = wr.alloc (.cells #[.int .i64 K3] 3) := ⟨_, rfl⟩
              obtain ⟨T, hT⟩ := hT
              have hbT : Below wr.heap.size wr T := by rw [hT]; exact (Below.refl _ _).alloc (Nat.le_refl _) _
              have hrT := hrow.mono hbT
              have hcT := hrT.cell 4 _ rfl
              have hfT := hrT.frozen 4
              have hgT : RowL 3 T wr.heap.size [.int .i64 K3] := by rw [hT]; exact RowL.new wr _
              have hF : ∃ F, F = T.setCell ⟨m, 4, none⟩ (.slice (some ⟨wr.heap.size, 0, none⟩) 1 1) := ⟨_, rfl⟩
              obtain ⟨F, hF⟩ := hF
              have hrF : RowL 77 F m [.int .i64 K1, .slice ui a.inputs.length uj, .slice s2 (a.latches.length + DD.latches.length) c2, .slice none 0 0, .slice (some ⟨wr.heap.size, 0, none⟩) 1 1, .slice s5 (a.invars.length + DD.invars.length) c5, .slice sa K2.length ca, .slice none 0 0] := by rw [hF]; exact hrT.set 4 (.slice (some ⟨wr.heap.size, 0, none⟩) 1 1)
              have hgF : T.grownBy F (some m) := by rw [hF]; exact set_grown' T m 4 (.slice (some ⟨wr.heap.size, 0, none⟩) 1 1)
              have hmw := hrow.lt
              have hneU := RM.out.other OZU.out.1 (by decide)
              have hne2 := RM.out.other OZ2.out (by decide)
              have hne5 := RM.out.other OZ5.out (by decide)
              have oU := owns_other (owns_below (owns_sep OZU.out.1 hsp.out (by decide) hneU) hbT) hgF hrT (by decide)
              have o2 := owns_other (owns_below (owns_sep OZ2.out hsp.out (by decide) hne2) hbT) hgF hrT (by decide)
              have o5 := owns_other (owns_below (owns_sep OZ5.out hsp.out (by decide) hne5) hbT) hgF hrT (by decide)
              have oA := owns_other (owns_below hown hbT) hgF hrT (by decide)
              have gB := hgT.grown hgF (fun e => by have := Option.some.inj e; omega)
              have z3 := (((Z3.out.sep hsp.out (by omega) (by decide)).mono hbT).grown hgF (fun e => by have := Option.some.inj e; omega))
              have hBF := (Below.of HB.out hbT).grown hgF (Below.of HB.out hbT).size fun j e => by cases e; omega
              have f0 := hrF.cell 0 _ rfl
              have f1 := hrF.cell 1 _ rfl
              have f2 := hrF.cell 2 _ rfl
              have f3 := hrF.cell 3 _ rfl
              have f4 := hrF.cell 4 _ rfl
              have f5 := hrF.cell 5 _ rfl
              have f6 := hrF.cell 6 _ rfl
              have f7 := hrF.cell 7 _ rfl
              obtain ⟨⟨k0, k1, k2, k3, k4, k5, k6, k7, k8, k9, k10, k11, k12, k13, k14, k15⟩, hR, hG⟩ := z3.put8 (.int .i64 K1) (.slice ui a.inputs.length uj) (.slice s2 (a.latches.length + DD.latches.length) c2) (.slice none 0 0) (.slice (some ⟨wr.heap.size, 0, none⟩) 1 1) (.slice s5 (a.invars.length + DD.invars.length) c5) (.slice sa K2.length ca) (.slice none 0 0)
              have hIS : Hid (CircParts (set8 F (w.heap.size + 1 + 1) (.int .i64 K1) (.slice ui a.inputs.length uj) (.slice s2 (a.latches.length + DD.latches.length) c2) (.slice none 0 0) (.slice (some ⟨wr.heap.size, 0, none⟩) 1 1) (.slice s5 (a.invars.length + DD.invars.length) c5) (.slice sa K2.length ca) (.slice none 0 0)) (PC.joinC a b) (.slice ui a.inputs.length uj) (.slice s2 (a.latches.length + DD.latches.length) c2) (.slice none 0 0) (.slice (some ⟨wr.heap.size, 0, none⟩) 1 1) (.slice s5 (a.invars.length + DD.invars.length) c5) (.slice sa K2.length ca) (.slice none 0 0)) := by
                have eJ : PC.joinC a b = ⟨K1, a.inputs, a.latches ++ DD.latches, [], [K3], a.invars ++ DD.invars, K2, []⟩ := by unfold PC.joinC; rw [← HK.out, ← HDD.out]
                rw [eJ]
                have w1 := Cells.of_owns (owns_other oU hG z3 (by decide))
                have w2 := Cells.of_owns (owns_other o2 hG z3 (by decide))
                have w5 := Cells.of_owns (owns_other o5 hG z3 (by decide))
                have w6 := Cells.of_owns (owns_other oA hG z3 (by decide))
                have wB := (gB.grown hG (fun e => by have := Option.some.inj e; omega)).cell 0 _ rfl
                have nI : ∀ y : World, Ints y (.slice none 0 0) [] := fun y => ⟨Cells.nil _ _, fun x hx => by cases hx⟩
                refine ⟨⟨w1, hIr.out⟩, ⟨by rw [List.length_append, List.flatMap_append]; exact w2, hLr.out⟩, nI _, ⟨⟨_, _, rfl, Nat.le_refl _, by decide, (fun h => by cases h), rfl, fun j hj => ⟨wr.heap.size, 0, rfl, World.block_lt_of_cell? _ _ wB, ?_⟩⟩, ?_⟩, ⟨by rw [List.length_append, List.map_append]; exact w5, hVr.out⟩, ⟨w6, hKr.out⟩, ⟨Cells.nil _ _, fun x hx => by cases hx⟩⟩
                · have : j = 0 := by simpa using hj
                  subst this
                  exact wB
                · intro x hx
                  have : x = K3 := by simpa using hx
                  rw [this]; exact hKbad.out.1
              have hBS := Lib.hid (hBF.grown hG hBF.size fun j e => by cases e; omega)
              have q0 := hR.cell 0 _ rfl
              have q1 := hR.cell 1 _ rfl
              have q2 := hR.cell 2 _ rfl
              have q3 := hR.cell 3 _ rfl
              have q4 := hR.cell 4 _ rfl
              have q5 := hR.cell 5 _ rfl
              have q6 := hR.cell 6 _ rfl
              have q7 := hR.cell 7 _ rfl
              unfold set8 at q0 q1 q2 q3 q4 q5 q6 q7
              rw [hT] at hcT hfT
              rw [hF, hT] at f0 f1 f2 f3 f4 f5 f6 f7 k0 k1 k2 k3 k4 k5 k6 k7 k8 k9 k10 k11 k12 k13 k14 k15 q0 q1 q2 q3 q4 q5 q6 q7 hIS hBS
              unfold set8 at hIS hBS
              have HIS := Lib.hid (And.intro hIS.out hBS.out)
              clear hT hbT hrT hgT hF hrF hgF oU o2 o5 oA gB z3 hBF hR hG hIS hBS hrow hown hneU hne2 hne5 hk hg hlt hkk hys hbad hmxx hmw
              go_wp2_with fail
              refine bodyPost_ret (v := .tuple #[.agg #[.int .i64 K1, .slice ui a.inputs.length uj, .slice s2 (a.latches.length + DD.latches.length) c2, .slice none 0 0, .slice (some ⟨wr.heap.size, 0, none⟩) 1 1, .slice s5 (a.invars.length + DD.invars.length) c5, .slice sa K2.length ca, .slice none 0 0], .int .i64 0]) (by simp [results, Tryz.results13, go_sem, q0, q1, q2, q3, q4, q5, q6, q7]) rfl ?_
              have eJm : (PC.joinC a b).max = K1 := by show (PC.mkAll a b).mx = K1; rw [← HK.out]
              exact ⟨_, by rw [eE.out], by rw [eD.out]; exact ⟨_, _, _, _, _, _, _, by rw [eJm], HIS.out.1, by rw [eJm]; exact hKbad.out.2⟩, HIS.out.2⟩

end Go.Proofs.YtpkaoabpifeigaaGreatDoor
