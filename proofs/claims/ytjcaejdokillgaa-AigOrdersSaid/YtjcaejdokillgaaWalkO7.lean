/- AigOrders: which circuits are in order; one that is put in order is, and again it stays. -/
import Derived.Test.YtjcaejdokillgaaWalkO6
import Derived.Test.YtjcaejdokillgaaWalkA5
namespace Go.Proofs.Ytjcaejdokillgaa
open Go.RowKit Go.Shelf
attribute [local simp] mk_get

set_option maxRecDepth 100000 in
set_option maxHeartbeats 16000000 in
theorem aigOrders_walk (c : PC.Circ) (vc : Value) (w : World) (h : IsCirc w vc c) (hf : c.ands.length * 8 ≤ 140737488351232) :
    Calls Try.prog 4 #[vc] w fun e w' => e = .returned (.bool true) ∧ Below w.heap.size w w' := by
  have HC := Lib.hid h
  obtain ⟨xi, xj, xl, xm, xo, xp, xb, xc, xv, xw, xa, xq, xn, xr, rfl, hp⟩ := row_slices h
  clear h hp
  have r1 := RowL.new (T := 27) w [.int .i64 c.max, .slice xi c.inputs.length xj, .slice xl c.latches.length xm, .slice xo c.outputs.length xp, .slice xb c.bads.length xc, .slice xv c.invars.length xw, .slice xa c.ands.length xq, .slice xn c.names.length xr]
  have hb0 := (Below.refl w.heap.size w).alloc (Nat.le_refl _) (.cells #[.int .i64 c.max, .slice xi c.inputs.length xj, .slice xl c.latches.length xm, .slice xo c.outputs.length xp, .slice xb c.bads.length xc, .slice xv c.invars.length xw, .slice xa c.ands.length xq, .slice xn c.names.length xr] 27)
  obtain ⟨X, hX⟩ : ∃ X, X = w.alloc (.cells #[.int .i64 c.max, .slice xi c.inputs.length xj, .slice xl c.latches.length xm, .slice xo c.outputs.length xp, .slice xb c.bads.length xc, .slice xv c.invars.length xw, .slice xa c.ands.length xq, .slice xn c.names.length xr] 27) := ⟨_, rfl⟩
  rw [← hX] at r1 hb0
  have R1 := Lib.hid r1
  have HB0 := Lib.hid hb0
  have HX := Lib.hid hX
  clear hX r1 hb0
  have hN := Lib.hid fun x y => num05_any x y
  have hA : ∀ x : Later X, _ := fun x => alive05_any x.at_
  have hO1 : ∀ x : Later X, _ := fun x => aOrdered_any c _ x.at_ (HC.out.mono (Below.of HB0.out x.below))
  have hO2 : ∀ x : Later X, _ := fun x => ordered05_any c _ x.at_ (HC.out.mono (Below.of HB0.out x.below)) hf
  obtain ⟨O, hO⟩ : ∃ O, O = PA.ordered c := ⟨_, rfl⟩
  rw [← hO] at hO1 hO2
  clear hO
  have l0 : ∀ x : Later X, _ := fun x => (R1.out.mono x.below).cell 0 _ rfl
  have l1 : ∀ x : Later X, _ := fun x => (R1.out.mono x.below).cell 1 _ rfl
  have l2 : ∀ x : Later X, _ := fun x => (R1.out.mono x.below).cell 2 _ rfl
  have l3 : ∀ x : Later X, _ := fun x => (R1.out.mono x.below).cell 3 _ rfl
  have l4 : ∀ x : Later X, _ := fun x => (R1.out.mono x.below).cell 4 _ rfl
  have l5 : ∀ x : Later X, _ := fun x => (R1.out.mono x.below).cell 5 _ rfl
  have l6 : ∀ x : Later X, _ := fun x => (R1.out.mono x.below).cell 6 _ rfl
  have l7 : ∀ x : Later X, _ := fun x => (R1.out.mono x.below).cell 7 _ rfl
  go_enter Try.func4, Try.ntmps4
  go_wp2_with fail
  rw [← HX.out]
  refine wp_region_later (by kernel_rfl) (by kernel_rfl) ?_; (repeat (go_big_quiet_step ((first | (go_at_call 5; with_reducible exact Calls.later (hA _)) | (go_at_call 10; with_reducible exact Calls.later (hO1 _)) | (go_at_call 11; with_reducible exact Calls.later (hO2 _)))))); refine wpQuiet_nil ?_; rintro w3 ⟨⟨_, hb3⟩, rfl⟩
  clear l0 l1 l2 l3 l4 l5 l6 l7 hA hO1 hO2
  obtain ⟨X1, hX1⟩ : ∃ Z, Z = w3 := ⟨_, rfl⟩
  subst hX1
  have HB1 := Lib.hid (Below.of HB0.out hb3)
  have S1 := Lib.hid (R1.out.mono hb3)
  clear hb3 HX R1 HB0
  have hOr := Lib.hid (aOrder_any c _ X1 (HC.out.mono HB1.out))
  obtain ⟨E, hE⟩ : ∃ E : Int, E = if PC.chk c then 0 else 9 := ⟨_, rfl⟩
  obtain ⟨D, hD⟩ : ∃ D : PC.Circ, D = if PC.chk c then PA.orderC c else noC0 := ⟨_, rfl⟩
  rw [← hE, ← hD] at hOr
  have eE := Lib.hid hE
  have eD := Lib.hid hD
  clear hE hD
  have q := S1.out
  have q0 := q.cell 0 _ rfl
  have q1 := q.cell 1 _ rfl
  have q2 := q.cell 2 _ rfl
  have q3 := q.cell 3 _ rfl
  have q4 := q.cell 4 _ rfl
  have q5 := q.cell 5 _ rfl
  have q6 := q.cell 6 _ rfl
  have q7 := q.cell 7 _ rfl
  go_wp2_with fail
  refine hOr.out.mono ?_
  rintro e w2 ⟨u, rfl, hU, hb2⟩
  clear q q0 q1 q2 q3 q4 q5 q6 q7
  have hu := Lib.hid hU
  obtain ⟨yi, yj, yl, ym, yo, yp, yb, yc, yv, yw, ya, yq, yn, yr, rfl, hpd⟩ := row_slices hU
  clear hpd hU
  have hbq : Below w2.heap.size w2 (w2.alloc (.cells #[.int .i64 D.max, .slice yi D.inputs.length yj, .slice yl D.latches.length ym, .slice yo D.outputs.length yp, .slice yb D.bads.length yc, .slice yv D.invars.length yw, .slice ya D.ands.length yq, .slice yn D.names.length yr] 27)) := (Below.refl _ _).alloc (Nat.le_refl _) _
  have r2 := RowL.new (T := 27) w2 [.int .i64 D.max, .slice yi D.inputs.length yj, .slice yl D.latches.length ym, .slice yo D.outputs.length yp, .slice yb D.bads.length yc, .slice yv D.invars.length yw, .slice ya D.ands.length yq, .slice yn D.names.length yr]
  have r1 := (S1.out.mono hb2).mono hbq
  have hud := hu.out.mono hbq
  have hbv := Below.of HB1.out (Below.of hb2 hbq)
  obtain ⟨V, hV⟩ : ∃ V, V = w2.alloc (.cells #[.int .i64 D.max, .slice yi D.inputs.length yj, .slice yl D.latches.length ym, .slice yo D.outputs.length yp, .slice yb D.bads.length yc, .slice yv D.invars.length yw, .slice ya D.ands.length yq, .slice yn D.names.length yr] 27) := ⟨_, rfl⟩
  rw [← hV] at r1 r2 hbv hud
  have R1 := Lib.hid r1
  have R2 := Lib.hid r2
  have HUD := Lib.hid hud
  have HBV := Lib.hid hbv
  have HV := Lib.hid hV
  clear hV r1 r2 hud hbv hbq hu hb2 S1 HB1 hOr
  have hR3 : ∀ x : Later V, _ := fun x => rCheck_any c _ x.at_ (HC.out.mono (Below.of HBV.out x.below)) hf
  have hN3 : ∀ x : Later V, _ := fun x => num05_any E x.at_
  rw [← eE.out] at hR3
  have l0 : ∀ x : Later V, _ := fun x => (R1.out.mono x.below).cell 0 _ rfl
  have l1 : ∀ x : Later V, _ := fun x => (R1.out.mono x.below).cell 1 _ rfl
  have l2 : ∀ x : Later V, _ := fun x => (R1.out.mono x.below).cell 2 _ rfl
  have l3 : ∀ x : Later V, _ := fun x => (R1.out.mono x.below).cell 3 _ rfl
  have l4 : ∀ x : Later V, _ := fun x => (R1.out.mono x.below).cell 4 _ rfl
  have l5 : ∀ x : Later V, _ := fun x => (R1.out.mono x.below).cell 5 _ rfl
  have l6 : ∀ x : Later V, _ := fun x => (R1.out.mono x.below).cell 6 _ rfl
  have l7 : ∀ x : Later V, _ := fun x => (R1.out.mono x.below).cell 7 _ rfl
  go_wp2_with fail
  rw [← HV.out]
  clear HV
  generalize w2.heap.size = Q at *
  refine wp_region_later (by kernel_rfl) (by kernel_rfl) ?_; (repeat (go_big_quiet_step ((first | (go_at_call 7; with_reducible exact Calls.later_same (hN3 _)) | (go_at_call 13; with_reducible exact Calls.later (hR3 _)))))); refine wpQuiet_nil ?_; rintro w3 ⟨⟨_, hb3⟩, rfl⟩
  clear l0 l1 l2 l3 l4 l5 l6 l7 hR3 hN3
  obtain ⟨X2, hX2⟩ : ∃ Z, Z = w3 := ⟨_, rfl⟩
  subst hX2
  have HB2 := Lib.hid (Below.of HBV.out hb3)
  have S1 := Lib.hid (R1.out.mono hb3)
  have S2 := Lib.hid (R2.out.mono hb3)
  have HU2 := Lib.hid (HUD.out.mono hb3)
  have hEE : (E != E) = false := by simp
  clear hb3 R1 R2 HUD HBV
  cases hck : PC.chk c with
  | false =>
    have e9 : E = 9 := by rw [eE.out, hck]; rfl
    have d9 : D = noC0 := by rw [eD.out, hck]; rfl
    clear eE eD hck
    subst e9
    subst d9
    have hS := Lib.hid fun y (hy : Below X2.heap.size X2 y) => same_any noC0 _ _ y (HU2.out.mono hy) (noC0_is y) (by decide)
    have z := S2.out
    have z0 := z.cell 0 _ rfl
    have z1 := z.cell 1 _ rfl
    have z2 := z.cell 2 _ rfl
    have z3 := z.cell 3 _ rfl
    have z4 := z.cell 4 _ rfl
    have z5 := z.cell 5 _ rfl
    have z6 := z.cell 6 _ rfl
    have z7 := z.cell 7 _ rfl
    go_wp2_with (go_at_call 7; refine (hN.out _ _).mono ?_; rintro e w4 ⟨rfl, rfl⟩)
    refine (hS.out _ (Below.refl _ _)).mono ?_
    rintro e w5 ⟨rfl, hb5⟩
    go_wp2_with fail
    go_ret
    exact ⟨rfl, Below.of HB2.out hb5⟩
  | true =>
    have e9 : E = 0 := by rw [eE.out, hck]; rfl
    have d9 : D = PA.orderC c := by rw [eD.out, hck]; rfl
    obtain ⟨o1, o2⟩ := PA.order_ok c hck
    have hDk : PC.chk D = true := by rw [d9]; exact o1
    have hDg : PA.gapless D = true := by rw [d9]; exact o2
    have hDo : PA.ordered D = true := by rw [PA.ordered_eq, hDk, hDg]; rfl
    have hDs := PA.order_stays D hDk hDg
    have hDa : D.ands.length = c.ands.length := by rw [d9]; simp [PA.orderC]
    have hDm : D.max = (c.inputs.length : Int) + c.latches.length + c.ands.length := by
      rw [d9]; show (c.defs.length : Int) = _; unfold PC.Circ.defs; simp only [List.length_append, List.length_map]; omega
    have hRc := PC.right_of c hck
    have b1 := hRc.ins
    have b2 := hRc.lats
    have b3 := PC.ands_len c hRc
    have hDR := PC.right_of D hDk
    have hDn := (PA.names_ok hDk).1
    have hDal := PC.ands_len D hDR
    have hDll := hDR.lats
    have hOr2 := Lib.hid (aOrder_any D _ X2 HU2.out)
    rw [hDk] at hOr2
    simp only [if_true] at hOr2
    rw [hDs] at hOr2
    have hOd : Hid (∀ y, Below X2.heap.size X2 y → _) := fun y hy => ordered05_any D _ y (HU2.out.mono hy) (by omega)
    rw [hDo] at hOd
    have hSm : Hid (∀ y vb, Below X2.heap.size X2 y → IsCirc y vb D → _) := fun y vb hy hv => same_any D _ vb y (HU2.out.mono hy) hv ⟨by omega, by omega, by omega⟩
    have HDM := Lib.hid hDm
    have HDA := Lib.hid hDa
    clear hDk hDg hDo hDs hDa hDm hRc hDR hDn hDal hDll o1 o2 eE eD hck d9
    subst e9
    have z := S2.out
    have z0 := z.cell 0 _ rfl
    have z1 := z.cell 1 _ rfl
    have z2 := z.cell 2 _ rfl
    have z3 := z.cell 3 _ rfl
    have z4 := z.cell 4 _ rfl
    have z5 := z.cell 5 _ rfl
    have z6 := z.cell 6 _ rfl
    have z7 := z.cell 7 _ rfl
    go_wp2_with (go_at_call 7; refine (hN.out _ _).mono ?_; rintro e w4 ⟨rfl, rfl⟩)
    refine hOr2.out.mono ?_
    rintro e w5 ⟨u, rfl, hU, hb5⟩
    clear z z0 z1 z2 z3 z4 z5 z6 z7
    have hu := Lib.hid hU
    obtain ⟨zi, zj, zl, zm, zo, zp, zb, zc, zv, zw, za, zq, zn, zr, rfl, hpf⟩ := row_slices hU
    clear hpf hU
    have hbq : Below w5.heap.size w5 (w5.alloc (.cells #[.int .i64 D.max, .slice zi D.inputs.length zj, .slice zl D.latches.length zm, .slice zo D.outputs.length zp, .slice zb D.bads.length zc, .slice zv D.invars.length zw, .slice za D.ands.length zq, .slice zn D.names.length zr] 27)) := (Below.refl _ _).alloc (Nat.le_refl _) _
    have r3 := RowL.new (T := 27) w5 [.int .i64 D.max, .slice zi D.inputs.length zj, .slice zl D.latches.length zm, .slice zo D.outputs.length zp, .slice zb D.bads.length zc, .slice zv D.invars.length zw, .slice za D.ands.length zq, .slice zn D.names.length zr]
    have hb6 := Below.of hb5 hbq
    have huf := hu.out.mono hbq
    obtain ⟨V5, hV5⟩ : ∃ V, V = w5.alloc (.cells #[.int .i64 D.max, .slice zi D.inputs.length zj, .slice zl D.latches.length zm, .slice zo D.outputs.length zp, .slice zb D.bads.length zc, .slice zv D.invars.length zw, .slice za D.ands.length zq, .slice zn D.names.length zr] 27) := ⟨_, rfl⟩
    rw [← hV5] at r3 hb6 huf
    have HB6 := Lib.hid hb6
    have R3 := Lib.hid r3
    have HUF := Lib.hid huf
    have HV5 := Lib.hid hV5
    clear hV5 r3 hb6 huf hbq hu hb5 hOr2
    have z := S2.out.mono HB6.out
    have z0 := z.cell 0 _ rfl
    have z1 := z.cell 1 _ rfl
    have z2 := z.cell 2 _ rfl
    have z3 := z.cell 3 _ rfl
    have z4 := z.cell 4 _ rfl
    have z5 := z.cell 5 _ rfl
    have z6 := z.cell 6 _ rfl
    have z7 := z.cell 7 _ rfl
    rw [HV5.out] at z0 z1 z2 z3 z4 z5 z6 z7
    go_wp2_with fail
    rw [← HV5.out]
    clear HV5
    generalize w5.heap.size = Q2 at *
    refine (hOd.out V5 HB6.out).mono ?_
    rintro e w7 ⟨rfl, hb7⟩
    clear z z0 z1 z2 z3 z4 z5 z6 z7
    have HB7 := Lib.hid (Below.of HB6.out hb7)
    have z := S2.out.mono HB7.out
    have z0 := z.cell 0 _ rfl
    have z1 := z.cell 1 _ rfl
    have z2 := z.cell 2 _ rfl
    have z3 := z.cell 3 _ rfl
    have z4 := z.cell 4 _ rfl
    have z5 := z.cell 5 _ rfl
    have z6 := z.cell 6 _ rfl
    have z7 := z.cell 7 _ rfl
    have y := R3.out.mono hb7
    have y0 := y.cell 0 _ rfl
    have y1 := y.cell 1 _ rfl
    have y2 := y.cell 2 _ rfl
    have y3 := y.cell 3 _ rfl
    have y4 := y.cell 4 _ rfl
    have y5 := y.cell 5 _ rfl
    have y6 := y.cell 6 _ rfl
    have y7 := y.cell 7 _ rfl
    have huf7 := Lib.hid (HUF.out.mono hb7)
    have hSm7 := Lib.hid (hSm.out w7 _ HB7.out huf7.out)
    go_wp2_with (go_at_call 7; refine (hN.out _ _).mono ?_; rintro e w4 ⟨rfl, rfl⟩)
    refine hSm7.out.mono ?_
    rintro e w8 ⟨rfl, hb8⟩
    clear z z0 z1 z2 z3 z4 z5 z6 z7
    clear y y0 y1 y2 y3 y4 y5 y6 y7
    have HB8 := Lib.hid (Below.of HB7.out hb8)
    have q := S1.out.mono HB8.out
    have q0 := q.cell 0 _ rfl
    have q1 := q.cell 1 _ rfl
    have q2 := q.cell 2 _ rfl
    have q3 := q.cell 3 _ rfl
    have q4 := q.cell 4 _ rfl
    have q5 := q.cell 5 _ rfl
    have q6 := q.cell 6 _ rfl
    have q7 := q.cell 7 _ rfl
    have z := S2.out.mono HB8.out
    have z0 := z.cell 0 _ rfl
    have z1 := z.cell 1 _ rfl
    have z2 := z.cell 2 _ rfl
    have z3 := z.cell 3 _ rfl
    have z4 := z.cell 4 _ rfl
    have z5 := z.cell 5 _ rfl
    have z6 := z.cell 6 _ rfl
    have z7 := z.cell 7 _ rfl
    have hm2 : D.max = (c.inputs.length : Int) + c.latches.length + c.ands.length := HDM.out
    have ha2 : D.ands.length = c.ands.length := HDA.out
    rw [hm2] at z0
    rw [ha2] at z6
    clear hm2 ha2
    go_wp2_with fail
    go_ret
    exact ⟨by first | rfl | simp, Below.of HB2.out HB8.out⟩

end Go.Proofs.Ytjcaejdokillgaa
