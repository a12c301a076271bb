/- Contract: circuits of one content are the same. -/
import Derived.Test.YtjcaejdokillgaaDoorZL2
import Derived.Test.YtjcaejdokillgaaDoorZWalkO5
namespace Go.Proofs.YtjcaejdokillgaaDoor
open Go.RowKit Go.Shelf
attribute [local simp] mk_get

set_option maxRecDepth 100000 in
set_option maxHeartbeats 8000000 in
theorem same_any (c : PC.Circ) (va vb : Value) (w : World) (ha : IsCirc w va c) (hb : IsCirc w vb c) (hlen : c.latches.length ≤ 9223372036854775806 ∧ c.ands.length ≤ 9223372036854775806 ∧ c.names.length ≤ 9223372036854775806) :
    Calls Tryd.prog 13 #[va, vb] w fun e w' => e = .returned (.bool true) ∧ Below w.heap.size w w' := by
  obtain ⟨xi, xj, xl, xm, xo, xp, xb, xc, xv, xw, xa, xq, xn, xr, rfl, hpa⟩ := row_slices ha
  obtain ⟨yi, yj, yl, ym, yo, yp, yb, yc, yv, yw, ya, yq, yn, yr, rfl, hpb⟩ := row_slices hb
  have HPA := Lib.hid hpa
  have HPB := Lib.hid hpb
  have hnl : Hid (c.latches.length ≤ 9223372036854775806 ∧ c.ands.length ≤ 9223372036854775806 ∧ c.names.length ≤ 9223372036854775806) := hlen
  clear ha hb hpa hpb hlen
  have r1 := (RowL.new (T := 27) w [.int .i64 c.max, .slice xi c.inputs.length xj, .slice xl c.latches.length xm, .slice xo c.outputs.length xp, .slice xb c.bads.length xc, .slice xv c.invars.length xw, .slice xa c.ands.length xq, .slice xn c.names.length xr]).mono ((Below.refl _ _).alloc (Nat.le_refl _) (.cells #[.int .i64 c.max, .slice yi c.inputs.length yj, .slice yl c.latches.length ym, .slice yo c.outputs.length yp, .slice yb c.bads.length yc, .slice yv c.invars.length yw, .slice ya c.ands.length yq, .slice yn c.names.length yr] 27))
  have r2 := RowL.new (T := 27) (w.alloc (.cells #[.int .i64 c.max, .slice xi c.inputs.length xj, .slice xl c.latches.length xm, .slice xo c.outputs.length xp, .slice xb c.bads.length xc, .slice xv c.invars.length xw, .slice xa c.ands.length xq, .slice xn c.names.length xr] 27)) [.int .i64 c.max, .slice yi c.inputs.length yj, .slice yl c.latches.length ym, .slice yo c.outputs.length yp, .slice yb c.bads.length yc, .slice yv c.invars.length yw, .slice ya c.ands.length yq, .slice yn c.names.length yr]
  rw [World.size_alloc] at r2
  have hb0 := ((Below.refl w.heap.size w).alloc (Nat.le_refl _) (.cells #[.int .i64 c.max, .slice xi c.inputs.length xj, .slice xl c.latches.length xm, .slice xo c.outputs.length xp, .slice xb c.bads.length xc, .slice xv c.invars.length xw, .slice xa c.ands.length xq, .slice xn c.names.length xr] 27)).alloc (by simp) (.cells #[.int .i64 c.max, .slice yi c.inputs.length yj, .slice yl c.latches.length ym, .slice yo c.outputs.length yp, .slice yb c.bads.length yc, .slice yv c.invars.length yw, .slice ya c.ands.length yq, .slice yn c.names.length yr] 27)
  obtain ⟨W, hW⟩ : ∃ W, W = (w.alloc (.cells #[.int .i64 c.max, .slice xi c.inputs.length xj, .slice xl c.latches.length xm, .slice xo c.outputs.length xp, .slice xb c.bads.length xc, .slice xv c.invars.length xw, .slice xa c.ands.length xq, .slice xn c.names.length xr] 27)).alloc (.cells #[.int .i64 c.max, .slice yi c.inputs.length yj, .slice yl c.latches.length ym, .slice yo c.outputs.length yp, .slice yb c.bads.length yc, .slice yv c.invars.length yw, .slice ya c.ands.length yq, .slice yn c.names.length yr] 27) := ⟨_, rfl⟩
  rw [← hW] at r1 r2 hb0
  have hA0 : Hid (∀ y, Below W.heap.size W y → RowL 27 y w.heap.size [.int .i64 c.max, .slice xi c.inputs.length xj, .slice xl c.latches.length xm, .slice xo c.outputs.length xp, .slice xb c.bads.length xc, .slice xv c.invars.length xw, .slice xa c.ands.length xq, .slice xn c.names.length xr]) := fun y hy => r1.mono hy
  have hB0 : Hid (∀ y, Below W.heap.size W y → RowL 27 y (w.heap.size + 1) [.int .i64 c.max, .slice yi c.inputs.length yj, .slice yl c.latches.length ym, .slice yo c.outputs.length yp, .slice yb c.bads.length yc, .slice yv c.invars.length yw, .slice ya c.ands.length yq, .slice yn c.names.length yr]) := fun y hy => r2.mono hy
  have HB0 := Lib.hid hb0
  have B0 : Hid (Below W.heap.size W W) := Below.refl _ _
  have q := r1
  have q0 := q.cell 0 _ rfl
  have q1 := q.cell 1 _ rfl
  have q2 := q.cell 2 _ rfl
  have q3 := q.cell 3 _ rfl
  have q4 := q.cell 4 _ rfl
  have q5 := q.cell 5 _ rfl
  have q6 := q.cell 6 _ rfl
  have q7 := q.cell 7 _ rfl
  have z := r2
  have z0 := z.cell 0 _ rfl
  have z1 := z.cell 1 _ rfl
  have z2 := z.cell 2 _ rfl
  have z3 := z.cell 3 _ rfl
  have z4 := z.cell 4 _ rfl
  have z5 := z.cell 5 _ rfl
  have z6 := z.cell 6 _ rfl
  have z7 := z.cell 7 _ rfl
  rw [hW] at q0 q1 q2 q3 q4 q5 q6 q7 z0 z1 z2 z3 z4 z5 z6 z7
  have HW := Lib.hid hW
  clear hW hb0 r1 r2
  go_enter Tryd.func13, Tryd.ntmps13
  go_wp2_with fail
  rw [← HW.out]
  refine (sameInts_eq _ _ _ _ (HPA.out.inputs.mono HB0.out) (HPB.out.inputs.mono HB0.out)).mono ?_
  rintro e w1 ⟨rfl, hbn⟩
  clear q q0 q1 q2 q3 q4 q5 q6 q7
  clear z z0 z1 z2 z3 z4 z5 z6 z7
  have B1 : Hid (Below W.heap.size W w1) := hbn
  clear hbn HW
  have q := (hA0.out _ B1.out)
  have q0 := q.cell 0 _ rfl
  have q1 := q.cell 1 _ rfl
  have q2 := q.cell 2 _ rfl
  have q3 := q.cell 3 _ rfl
  have q4 := q.cell 4 _ rfl
  have q5 := q.cell 5 _ rfl
  have q6 := q.cell 6 _ rfl
  have q7 := q.cell 7 _ rfl
  have z := (hB0.out _ B1.out)
  have z0 := z.cell 0 _ rfl
  have z1 := z.cell 1 _ rfl
  have z2 := z.cell 2 _ rfl
  have z3 := z.cell 3 _ rfl
  have z4 := z.cell 4 _ rfl
  have z5 := z.cell 5 _ rfl
  have z6 := z.cell 6 _ rfl
  have z7 := z.cell 7 _ rfl
  go_wp2_with fail
  refine (sameInts_eq _ _ _ _ (HPA.out.outputs.mono (Below.of HB0.out B1.out)) (HPB.out.outputs.mono (Below.of HB0.out B1.out))).mono ?_
  rintro e w2 ⟨rfl, hbn⟩
  clear q q0 q1 q2 q3 q4 q5 q6 q7
  clear z z0 z1 z2 z3 z4 z5 z6 z7
  have B2 : Hid (Below W.heap.size W w2) := Below.of B1.out hbn
  clear hbn
  have q := (hA0.out _ B2.out)
  have q0 := q.cell 0 _ rfl
  have q1 := q.cell 1 _ rfl
  have q2 := q.cell 2 _ rfl
  have q3 := q.cell 3 _ rfl
  have q4 := q.cell 4 _ rfl
  have q5 := q.cell 5 _ rfl
  have q6 := q.cell 6 _ rfl
  have q7 := q.cell 7 _ rfl
  have z := (hB0.out _ B2.out)
  have z0 := z.cell 0 _ rfl
  have z1 := z.cell 1 _ rfl
  have z2 := z.cell 2 _ rfl
  have z3 := z.cell 3 _ rfl
  have z4 := z.cell 4 _ rfl
  have z5 := z.cell 5 _ rfl
  have z6 := z.cell 6 _ rfl
  have z7 := z.cell 7 _ rfl
  go_wp2_with fail
  refine (sameInts_eq _ _ _ _ (HPA.out.bads.mono (Below.of HB0.out B2.out)) (HPB.out.bads.mono (Below.of HB0.out B2.out))).mono ?_
  rintro e w3 ⟨rfl, hbn⟩
  clear q q0 q1 q2 q3 q4 q5 q6 q7
  clear z z0 z1 z2 z3 z4 z5 z6 z7
  have B3 : Hid (Below W.heap.size W w3) := Below.of B2.out hbn
  clear hbn
  have q := (hA0.out _ B3.out)
  have q0 := q.cell 0 _ rfl
  have q1 := q.cell 1 _ rfl
  have q2 := q.cell 2 _ rfl
  have q3 := q.cell 3 _ rfl
  have q4 := q.cell 4 _ rfl
  have q5 := q.cell 5 _ rfl
  have q6 := q.cell 6 _ rfl
  have q7 := q.cell 7 _ rfl
  have z := (hB0.out _ B3.out)
  have z0 := z.cell 0 _ rfl
  have z1 := z.cell 1 _ rfl
  have z2 := z.cell 2 _ rfl
  have z3 := z.cell 3 _ rfl
  have z4 := z.cell 4 _ rfl
  have z5 := z.cell 5 _ rfl
  have z6 := z.cell 6 _ rfl
  have z7 := z.cell 7 _ rfl
  go_wp2_with fail
  refine (sameInts_eq _ _ _ _ (HPA.out.invars.mono (Below.of HB0.out B3.out)) (HPB.out.invars.mono (Below.of HB0.out B3.out))).mono ?_
  rintro e w4 ⟨rfl, hbn⟩
  clear q q0 q1 q2 q3 q4 q5 q6 q7
  clear z z0 z1 z2 z3 z4 z5 z6 z7
  have B4 : Hid (Below W.heap.size W w4) := Below.of B3.out hbn
  clear hbn
  have q := (hA0.out _ B4.out)
  have q0 := q.cell 0 _ rfl
  have q1 := q.cell 1 _ rfl
  have q2 := q.cell 2 _ rfl
  have q3 := q.cell 3 _ rfl
  have q4 := q.cell 4 _ rfl
  have q5 := q.cell 5 _ rfl
  have q6 := q.cell 6 _ rfl
  have q7 := q.cell 7 _ rfl
  have z := (hB0.out _ B4.out)
  have z0 := z.cell 0 _ rfl
  have z1 := z.cell 1 _ rfl
  have z2 := z.cell 2 _ rfl
  have z3 := z.cell 3 _ rfl
  have z4 := z.cell 4 _ rfl
  have z5 := z.cell 5 _ rfl
  have z6 := z.cell 6 _ rfl
  have z7 := z.cell 7 _ rfl
  go_wp2_with fail
  clear q q0 q1 q2 q3 q4 q5 q6 q7
  clear z z0 z1 z2 z3 z4 z5 z6 z7
  go_loopg [5] c.latches.length (fun gg s5 wr => ∃ k : Nat, k ≤ c.latches.length ∧ c.latches.length - k ≤ gg ∧ s5 = .int .i64 k ∧ Hid (Below W.heap.size W wr))
  case atStart => exact ⟨0, Nat.zero_le _, by omega, rfl, B4⟩
  case round =>
    obtain ⟨k, hk, hg, rfl, hbr⟩ := hrel
    have hBw := Lib.hid (Below.of HB0.out hbr.out)
    have qq := (hA0.out _ hbr.out).cell 2 _ rfl
    by_cases hlt : k < c.latches.length
    · obtain ⟨b', off, rfl, hbs, _, c0, c1, c2⟩ := HPA.out.latches.at_ k hlt
      obtain ⟨b'', off', rfl, hbs', _, d0, d1, d2⟩ := HPB.out.latches.at_ k hlt
      have hmea : ∀ g : Nat, c.latches.length - k ≤ g → c.latches.length - (k + 1) < g := fun g h => by omega
      have hltz : (k : Int) < (c.latches.length : Int) := by omega
      have l0 : ∀ x : Later wr, _ := fun x => ((Below.of hBw.out x.below).cell hbs).trans c0
      have l1 : ∀ x : Later wr, _ := fun x => ((Below.of hBw.out x.below).cell hbs).trans c1
      have l2 : ∀ x : Later wr, _ := fun x => ((Below.of hBw.out x.below).cell hbs).trans c2
      have m0 : ∀ x : Later wr, _ := fun x => ((Below.of hBw.out x.below).cell hbs').trans d0
      have m1 : ∀ x : Later wr, _ := fun x => ((Below.of hBw.out x.below).cell hbs').trans d1
      have m2 : ∀ x : Later wr, _ := fun x => ((Below.of hBw.out x.below).cell hbs').trans d2
      have n0 : ∀ x : Later wr, _ := fun x => (hA0.out _ (Below.of hbr.out x.below)).cell 2 _ rfl
      have n1 : ∀ x : Later wr, _ := fun x => (hB0.out _ (Below.of hbr.out x.below)).cell 2 _ rfl
      clear c0 c1 c2 d0 d1 d2
      generalize c.latches[k].lit = x0 at *
      generalize c.latches[k].next = x1 at *
      generalize c.latches[k].reset = x2 at *
      have hk63 : (k : Int) + 1 ≤ 9223372036854775807 := by have := hnl.out; omega
      go_wp2_with fail
      clear qq
      refine wp_region_later (by kernel_rfl) (by kernel_rfl) ?_; (repeat (go_big_quiet_step ((fail)))); refine wpQuiet_nil ?_; rintro w3 ⟨⟨_, hb3⟩, rfl⟩
      have hb6 : Hid (Below W.heap.size W w3) := Below.of hbr.out hb3
      clear l0 l1 l2 m0 m1 m2 n0 n1
      go_wp2_with fail
      go_roundg (c.latches.length - (k + 1))
      case measure => exact hmea _ hg
      case rel => exact ⟨k + 1, by omega, by omega, by go_num, hb6⟩
    · have hltz : ¬ (k : Int) < (c.latches.length : Int) := by omega
      obtain rfl : k = c.latches.length := by omega
      have B5 := hbr
      clear hg hk hlt hbr
      go_wp2_with fail
      clear qq hltz
      go_loopg [6] c.ands.length (fun gg s6 wr => ∃ k : Nat, k ≤ c.ands.length ∧ c.ands.length - k ≤ gg ∧ s6 = .int .i64 k ∧ Hid (Below W.heap.size W wr))
      case atStart => exact ⟨0, Nat.zero_le _, by omega, rfl, B5⟩
      case round =>
        obtain ⟨k, hk, hg, rfl, hbr⟩ := hrel
        have hBw := Lib.hid (Below.of HB0.out hbr.out)
        have qq := (hA0.out _ hbr.out).cell 6 _ rfl
        by_cases hlt : k < c.ands.length
        · obtain ⟨b', off, rfl, hbs, _, c0, c1, c2⟩ := HPA.out.ands.at_ k hlt
          obtain ⟨b'', off', rfl, hbs', _, d0, d1, d2⟩ := HPB.out.ands.at_ k hlt
          have hmea : ∀ g : Nat, c.ands.length - k ≤ g → c.ands.length - (k + 1) < g := fun g h => by omega
          have hltz : (k : Int) < (c.ands.length : Int) := by omega
          have l0 : ∀ x : Later wr, _ := fun x => ((Below.of hBw.out x.below).cell hbs).trans c0
          have l1 : ∀ x : Later wr, _ := fun x => ((Below.of hBw.out x.below).cell hbs).trans c1
          have l2 : ∀ x : Later wr, _ := fun x => ((Below.of hBw.out x.below).cell hbs).trans c2
          have m0 : ∀ x : Later wr, _ := fun x => ((Below.of hBw.out x.below).cell hbs').trans d0
          have m1 : ∀ x : Later wr, _ := fun x => ((Below.of hBw.out x.below).cell hbs').trans d1
          have m2 : ∀ x : Later wr, _ := fun x => ((Below.of hBw.out x.below).cell hbs').trans d2
          have n0 : ∀ x : Later wr, _ := fun x => (hA0.out _ (Below.of hbr.out x.below)).cell 6 _ rfl
          have n1 : ∀ x : Later wr, _ := fun x => (hB0.out _ (Below.of hbr.out x.below)).cell 6 _ rfl
          clear c0 c1 c2 d0 d1 d2
          generalize c.ands[k].lit = x0 at *
          generalize c.ands[k].left = x1 at *
          generalize c.ands[k].right = x2 at *
          have hk63 : (k : Int) + 1 ≤ 9223372036854775807 := by have := hnl.out; omega
          go_wp2_with fail
          clear qq
          refine wp_region_later (by kernel_rfl) (by kernel_rfl) ?_; (repeat (go_big_quiet_step ((fail)))); refine wpQuiet_nil ?_; rintro w3 ⟨⟨_, hb3⟩, rfl⟩
          have hb6 : Hid (Below W.heap.size W w3) := Below.of hbr.out hb3
          clear l0 l1 l2 m0 m1 m2 n0 n1
          go_wp2_with fail
          go_roundg (c.ands.length - (k + 1))
          case measure => exact hmea _ hg
          case rel => exact ⟨k + 1, by omega, by omega, by go_num, hb6⟩
        · have hltz : ¬ (k : Int) < (c.ands.length : Int) := by omega
          obtain rfl : k = c.ands.length := by omega
          have B6 := hbr
          clear hg hk hlt hbr
          go_wp2_with fail
          clear qq hltz
          go_loopg [7] c.names.length (fun gg s7 wr => ∃ k : Nat, k ≤ c.names.length ∧ c.names.length - k ≤ gg ∧ s7 = .int .i64 k ∧ Hid (Below W.heap.size W wr))
          case atStart => exact ⟨0, Nat.zero_le _, by omega, rfl, B6⟩
          case round =>
            obtain ⟨k, hk, hg, rfl, hbr⟩ := hrel
            have hBw := Lib.hid (Below.of HB0.out hbr.out)
            have qq := (hA0.out _ hbr.out).cell 7 _ rfl
            by_cases hlt : k < c.names.length
            · obtain ⟨b', off, rfl, hbs, _, c0, c1, c2⟩ := HPA.out.names.at_ k hlt
              obtain ⟨b'', off', rfl, hbs', _, d0, d1, d2⟩ := HPB.out.names.at_ k hlt
              have hmea : ∀ g : Nat, c.names.length - k ≤ g → c.names.length - (k + 1) < g := fun g h => by omega
              have hltz : (k : Int) < (c.names.length : Int) := by omega
              have l0 : ∀ x : Later wr, _ := fun x => ((Below.of hBw.out x.below).cell hbs).trans c0
              have l1 : ∀ x : Later wr, _ := fun x => ((Below.of hBw.out x.below).cell hbs).trans c1
              have l2 : ∀ x : Later wr, _ := fun x => ((Below.of hBw.out x.below).cell hbs).trans c2
              have m0 : ∀ x : Later wr, _ := fun x => ((Below.of hBw.out x.below).cell hbs').trans d0
              have m1 : ∀ x : Later wr, _ := fun x => ((Below.of hBw.out x.below).cell hbs').trans d1
              have m2 : ∀ x : Later wr, _ := fun x => ((Below.of hBw.out x.below).cell hbs').trans d2
              have n0 : ∀ x : Later wr, _ := fun x => (hA0.out _ (Below.of hbr.out x.below)).cell 7 _ rfl
              have n1 : ∀ x : Later wr, _ := fun x => (hB0.out _ (Below.of hbr.out x.below)).cell 7 _ rfl
              clear c0 c1 c2 d0 d1 d2
              generalize c.names[k].kind = x0 at *
              generalize c.names[k].at_ = x1 at *
              generalize c.names[k].text = x2 at *
              have hk63 : (k : Int) + 1 ≤ 9223372036854775807 := by have := hnl.out; omega
              go_wp2_with fail
              clear qq
              refine wp_region_later (by kernel_rfl) (by kernel_rfl) ?_; (repeat (go_big_quiet_step ((fail)))); refine wpQuiet_nil ?_; rintro w3 ⟨⟨_, hb3⟩, rfl⟩
              have hb6 : Hid (Below W.heap.size W w3) := Below.of hbr.out hb3
              clear l0 l1 l2 m0 m1 m2 n0 n1
              go_wp2_with fail
              go_roundg (c.names.length - (k + 1))
              case measure => exact hmea _ hg
              case rel => exact ⟨k + 1, by omega, by omega, by go_num, hb6⟩
            · have hltz : ¬ (k : Int) < (c.names.length : Int) := by omega
              obtain rfl : k = c.names.length := by omega
              have B7 := hbr
              clear hg hk hlt hbr
              go_wp2_with fail
              clear qq hltz
              go_ret
              exact ⟨rfl, hBw.out⟩

end Go.Proofs.YtjcaejdokillgaaDoor
