/- Contract: may a question be? -/
import Derived.Test.YtbjioniefalgpaaWalkH6
namespace Go.Proofs.Ytbjioniefalgpaa
open Go.RowKit Go.Shelf

/-- what the law's check answers -/
def checkE (q : Qst) : Int :=
  if PC.chk q.c = false then 9
  else if q.bad < 0 ∨ (q.c.bads.length : Int) ≤ q.bad ∨ q.depth < 0 ∨ 80 ≤ q.depth ∨ q.budget < 0 ∨ 1099511627776 < q.budget then 4
  else if 64 < q.assume.length ∨ 64 < q.lemmas.length ∨ 256 < q.known.length then 3
  else if PC.withinT q.c.max q.assume = false ∨ PC.withinT q.c.max q.lemmas = false then 23
  else if q.known.all (fun a => PC.clE q.c.latches.length a == 0) then 0 else 23

theorem Box14.later {w : World} {b : Nat} {x0 x1 x2 x3 x4 x5 x6 x7 x8 x9 x10 x11 x12 x13 : Value} (h : Box14 w b x0 x1 x2 x3 x4 x5 x6 x7 x8 x9 x10 x11 x12 x13) :
    ((∀ x : Later w, x.at_.cell? ⟨b, 0, none⟩ = some x0) ∧ (∀ x : Later w, x.at_.cell? ⟨b, 1, none⟩ = some x1) ∧ (∀ x : Later w, x.at_.cell? ⟨b, 2, none⟩ = some x2) ∧ (∀ x : Later w, x.at_.cell? ⟨b, 3, none⟩ = some x3) ∧
    (∀ x : Later w, x.at_.cell? ⟨b, 4, none⟩ = some x4) ∧ (∀ x : Later w, x.at_.cell? ⟨b, 5, none⟩ = some x5) ∧ (∀ x : Later w, x.at_.cell? ⟨b, 6, none⟩ = some x6) ∧ (∀ x : Later w, x.at_.cell? ⟨b, 7, none⟩ = some x7)) ∧
    (∀ x : Later w, x.at_.cell? ⟨b, 8, none⟩ = some x8) ∧ (∀ x : Later w, x.at_.cell? ⟨b, 9, none⟩ = some x9) ∧ (∀ x : Later w, x.at_.cell? ⟨b, 10, none⟩ = some x10) ∧ (∀ x : Later w, x.at_.cell? ⟨b, 11, none⟩ = some x11) ∧
    (∀ x : Later w, x.at_.cell? ⟨b, 12, none⟩ = some x12) ∧ (∀ x : Later w, x.at_.cell? ⟨b, 13, none⟩ = some x13) := by
  obtain ⟨h0, h8, h9, h10, h11, h12, h13⟩ := h
  exact ⟨h0.later, fun x => x.cell h8, fun x => x.cell h9, fun x => x.cell h10, fun x => x.cell h11, fun x => x.cell h12, fun x => x.cell h13⟩

set_option maxRecDepth 100000 in
set_option maxHeartbeats 8000000 in
theorem check13_any (c : PC.Circ) (assume lemmas known : List (List Int)) (bad depth budget : Int) (vq : Value) (w : World) (h : IsQ w vq ⟨c, assume, lemmas, known, bad, depth, budget⟩) (hf : Fits c) :
    Calls Try.prog 26 #[vq] w fun e w' => e = .returned (.int .i64 (checkE ⟨c, assume, lemmas, known, bad, depth, budget⟩)) ∧ Below w.heap.size w w' := by
  obtain ⟨vi, vl, vo, vb, vv, va, vn, vA, vL, vK, rfl, hc, h1, h2, h3, ⟨rb0, rb1⟩, ⟨rd0, rd1⟩, ⟨ru0, ru1⟩⟩ := h
  dsimp only at *
  have hp := hc.parts
  obtain ⟨a1, k1, rfl⟩ := hp.inputs.1.slice
  obtain ⟨a2, k2, rfl, hl1, hl2, _⟩ := hp.latches.open_
  obtain ⟨a3, k3, rfl⟩ := hp.outputs.1.slice
  obtain ⟨a4, k4, rfl⟩ := hp.bads.1.slice
  obtain ⟨a5, k5, rfl⟩ := hp.invars.1.slice
  obtain ⟨a6, k6, rfl⟩ := hp.ands.1.slice
  obtain ⟨a7, k7, rfl⟩ := hp.names.1.slice
  obtain ⟨aA, kA, rfl⟩ := h1.slice
  obtain ⟨aL, kL, rfl⟩ := h2.slice
  obtain ⟨aK, kK, rfl, hK1, hK2, hK3⟩ := h3.open_
  clear h3 hp
  have HK := Lib.hid hK3
  clear hK3
  have hll : c.latches.length ≤ 9223372036854775807 := by omega
  have hb0 : Below w.heap.size w ((w.alloc (.cells #[.int .i64 c.max, .slice a1 c.inputs.length k1, .slice a2 c.latches.length k2, .slice a3 c.outputs.length k3, .slice a4 c.bads.length k4, .slice a5 c.invars.length k5, .slice a6 c.ands.length k6, .slice a7 c.names.length k7, .slice aA assume.length kA, .slice aL lemmas.length kL, .slice aK known.length kK, .int .i64 bad, .int .i64 depth, .int .i64 budget] 54)).alloc (.cells #[.int .i64 c.max, .slice a1 c.inputs.length k1, .slice a2 c.latches.length k2, .slice a3 c.outputs.length k3, .slice a4 c.bads.length k4, .slice a5 c.invars.length k5, .slice a6 c.ands.length k6, .slice a7 c.names.length k7] 27)) := ((Below.refl _ _).alloc (Nat.le_refl _) _).alloc (by simp) _
  have hbx14 := Lib.hid ((Box14.new w (.int .i64 c.max) (.slice a1 c.inputs.length k1) (.slice a2 c.latches.length k2) (.slice a3 c.outputs.length k3) (.slice a4 c.bads.length k4) (.slice a5 c.invars.length k5) (.slice a6 c.ands.length k6) (.slice a7 c.names.length k7) (.slice aA assume.length kA) (.slice aL lemmas.length kL) (.slice aK known.length kK) (.int .i64 bad) (.int .i64 depth) (.int .i64 budget) 54).mono ((Below.refl _ _).alloc (Nat.le_refl _) (.cells #[.int .i64 c.max, .slice a1 c.inputs.length k1, .slice a2 c.latches.length k2, .slice a3 c.outputs.length k3, .slice a4 c.bads.length k4, .slice a5 c.invars.length k5, .slice a6 c.ands.length k6, .slice a7 c.names.length k7] 27)))
  have hbx8 := Lib.hid (Box8.new (w.alloc (.cells #[.int .i64 c.max, .slice a1 c.inputs.length k1, .slice a2 c.latches.length k2, .slice a3 c.outputs.length k3, .slice a4 c.bads.length k4, .slice a5 c.invars.length k5, .slice a6 c.ands.length k6, .slice a7 c.names.length k7, .slice aA assume.length kA, .slice aL lemmas.length kL, .slice aK known.length kK, .int .i64 bad, .int .i64 depth, .int .i64 budget] 54)) (.int .i64 c.max) (.slice a1 c.inputs.length k1) (.slice a2 c.latches.length k2) (.slice a3 c.outputs.length k3) (.slice a4 c.bads.length k4) (.slice a5 c.invars.length k5) (.slice a6 c.ands.length k6) (.slice a7 c.names.length k7) 27)
  rw [World.size_alloc] at hbx8
  have hCk := Lib.hid fun w1 (hb : Below w.heap.size w w1) => rCheck_any c _ w1 (hc.mono hb) hf
  have hWA := Lib.hid fun (m0 : 0 ≤ c.max) (m1 : c.max ≤ 2048) w1 (hb : Below w.heap.size w w1) => within13_any c _ _ assume w1 (hc.mono hb) (h1.mono hb) m0 m1
  have hWL := Lib.hid fun (m0 : 0 ≤ c.max) (m1 : c.max ≤ 2048) w1 (hb : Below w.heap.size w w1) => within13_any c _ _ lemmas w1 (hc.mono hb) (h2.mono hb) m0 m1
  clear hc h1 h2 hf
  obtain ⟨R, hR⟩ : ∃ R, R = checkE ⟨c, assume, lemmas, known, bad, depth, budget⟩ := ⟨_, rfl⟩
  rw [← hR]
  have HR := Lib.hid hR
  clear hR hl1 hl2
  go_enter Try.func26, Try.ntmps26
  go_wp2_with fail
  refine (hCk.out _ (by exact hb0)).mono ?_
  rintro e w1 ⟨rfl, hb1⟩
  have hbw1 := Below.of hb0 hb1
  have X14 : Hid (Box14 w1 w.heap.size _ _ _ _ _ _ _ _ _ _ _ _ _ _) := hbx14.out.mono hb1
  have X8 : Hid (Box8 w1 (w.heap.size + 1) _ _ _ _ _ _ _ _) := hbx8.out.mono hb1
  clear hb0 hb1 hbx14 hbx8 hCk
  obtain ⟨⟨q0, q1, q2, q3, q4, q5, q6, q7⟩, q8, q9, q10, q11, q12, q13⟩ := X14.out
  obtain ⟨p0, p1, p2, p3, p4, p5, p6, p7⟩ := X8.out
  cases hck : PC.chk c with
  | false =>
    have hR9 : R = 9 := by rw [HR.out, checkE, if_pos hck]
    subst hR9
    go_wp2_with fail
    go_ret
    exact ⟨rfl, hbw1⟩
  | true =>
    have hRt := Lib.hid (PC.right_of c hck)
    have HCK : Hid (¬ PC.chk c = false) := by show ¬ _; rw [hck]; decide
    rw [if_pos rfl]
    clear hck
    have hbad : Hid ((bad < 0 ∨ (c.bads.length : Int) ≤ bad ∨ depth < 0 ∨ 80 ≤ depth ∨ budget < 0 ∨ 1099511627776 < budget) → R = 4) := by
      intro h
      rw [HR.out, checkE, if_neg HCK.out, if_pos h]
    by_cases z1 : bad < 0
    · go_wp2_with fail
      go_ret
      exact ⟨by rw [hbad.out (by omega)]; rfl, hbw1⟩
    have z1' : decide (bad < 0) = false := decide_eq_false z1
    have Z1 := Lib.hid z1
    clear z1
    by_cases z2 : (c.bads.length : Int) ≤ bad
    · go_wp2_with fail
      go_ret
      exact ⟨by rw [hbad.out (by omega)]; rfl, hbw1⟩
    have z2' : decide ((c.bads.length : Int) ≤ bad) = false := decide_eq_false z2
    have Z2 := Lib.hid z2
    clear z2
    by_cases z3 : depth < 0
    · go_wp2_with fail
      go_ret
      exact ⟨by rw [hbad.out (by omega)]; rfl, hbw1⟩
    have z3' : decide (depth < 0) = false := decide_eq_false z3
    have Z3 := Lib.hid z3
    clear z3
    by_cases z4 : 80 ≤ depth
    · go_wp2_with fail
      go_ret
      exact ⟨by rw [hbad.out (by omega)]; rfl, hbw1⟩
    have z4' : decide (80 ≤ depth) = false := decide_eq_false z4
    have Z4 := Lib.hid z4
    clear z4
    by_cases z5 : budget < 0
    · go_wp2_with fail
      go_ret
      exact ⟨by rw [hbad.out (by omega)]; rfl, hbw1⟩
    have z5' : decide (budget < 0) = false := decide_eq_false z5
    have Z5 := Lib.hid z5
    clear z5
    by_cases z6 : 1099511627776 < budget
    · go_wp2_with fail
      go_ret
      exact ⟨by rw [hbad.out (by omega)]; rfl, hbw1⟩
    have z6' : decide (1099511627776 < budget) = false := decide_eq_false z6
    have hnb : Hid (¬ (bad < 0 ∨ (c.bads.length : Int) ≤ bad ∨ depth < 0 ∨ 80 ≤ depth ∨ budget < 0 ∨ 1099511627776 < budget)) := by
      show ¬ _
      have := Z1.out; have := Z2.out; have := Z3.out; have := Z4.out; have := Z5.out
      omega
    clear z6 hbad Z1 Z2 Z3 Z4 Z5
    have hcnt : Hid ((64 < assume.length ∨ 64 < lemmas.length ∨ 256 < known.length) → R = 3) := by
      intro h
      rw [HR.out, checkE, if_neg HCK.out, if_neg hnb.out, if_pos h]
    by_cases y1 : 64 < assume.length
    · have y1z : (64 : Int) < (assume.length : Int) := by omega
      go_wp2_with fail
      go_ret
      exact ⟨by rw [hcnt.out (by omega)]; rfl, hbw1⟩
    have y1' : decide ((64 : Int) < (assume.length : Int)) = false := decide_eq_false (by omega)
    have Y1 := Lib.hid y1
    clear y1
    by_cases y2 : 64 < lemmas.length
    · have y2z : (64 : Int) < (lemmas.length : Int) := by omega
      go_wp2_with fail
      go_ret
      exact ⟨by rw [hcnt.out (by omega)]; rfl, hbw1⟩
    have y2' : decide ((64 : Int) < (lemmas.length : Int)) = false := decide_eq_false (by omega)
    have Y2 := Lib.hid y2
    clear y2
    by_cases y3 : 256 < known.length
    · have y3z : (256 : Int) < (known.length : Int) := by omega
      go_wp2_with fail
      go_ret
      exact ⟨by rw [hcnt.out (by omega)]; rfl, hbw1⟩
    have y3' : decide ((256 : Int) < (known.length : Int)) = false := decide_eq_false (by omega)
    have hnc : Hid (¬ (64 < assume.length ∨ 64 < lemmas.length ∨ 256 < known.length)) := by
      show ¬ _
      have := Y1.out; have := Y2.out
      omega
    clear y3 hcnt Y1 Y2
    have hwi : Hid ((PC.withinT c.max assume = false ∨ PC.withinT c.max lemmas = false) → R = 23) := by
      intro h
      rw [HR.out, checkE, if_neg HCK.out, if_neg hnb.out, if_neg hnc.out, if_pos h]
    go_wp2_with fail
    refine (hWA.out hRt.out.max0 hRt.out.max1 _ (by exact hbw1)).mono ?_
    rintro e w2 ⟨rfl, hb2⟩
    have hbw2 := Below.of hbw1 hb2
    clear q0 q1 q2 q3 q4 q5 q6 q7 q8 q9 q10 q11 q12 q13 p0 p1 p2 p3 p4 p5 p6 p7 z1' z2' z3' z4' z5' z6' y1' y2' y3'
    obtain ⟨⟨q0, q1, q2, q3, q4, q5, q6, q7⟩, q8, q9, q10, q11, q12, q13⟩ := X14.out.mono hb2
    obtain ⟨p0, p1, p2, p3, p4, p5, p6, p7⟩ := X8.out.mono hb2
    cases hwa : PC.withinT c.max assume with
    | false =>
      have r23 := Lib.hid (hwi.out (Or.inl hwa))
      clear hwa
      go_wp2_with fail
      go_ret
      exact ⟨by rw [r23.out]; rfl, hbw2⟩
    | true =>
      have WA := Lib.hid hwa
      clear hwa
      go_wp2_with fail
      refine (hWL.out hRt.out.max0 hRt.out.max1 _ (by exact hbw2)).mono ?_
      rintro e w3 ⟨rfl, hb3⟩
      have hbw3 := Below.of hbw2 hb3
      have hC3 := Below.of hb2 hb3
      clear q0 q1 q2 q3 q4 q5 q6 q7 q8 q9 q10 q11 q12 q13 p0 p1 p2 p3 p4 p5 p6 p7
      have Y14 : Hid (Box14 w3 w.heap.size _ _ _ _ _ _ _ _ _ _ _ _ _ _) := X14.out.mono hC3
      have Y8 : Hid (Box8 w3 (w.heap.size + 1) _ _ _ _ _ _ _ _) := X8.out.mono hC3
      clear X14 X8 hb2 hb3 hC3 hbw1 hbw2
      cases hwl : PC.withinT c.max lemmas with
      | false =>
        have r23 := Lib.hid (hwi.out (Or.inr hwl))
        clear hwl
        go_wp2_with fail
        go_ret
        exact ⟨by rw [r23.out]; rfl, hbw3⟩
      | true =>
        have hnw : Hid (¬ (PC.withinT c.max assume = false ∨ PC.withinT c.max lemmas = false)) := by
          show ¬ _
          rw [WA.out, hwl]; simp
        have hfin : Hid (R = if known.all (fun a => PC.clE c.latches.length a == 0) then 0 else 23) := by
          show _ = _
          rw [HR.out, checkE, if_neg HCK.out, if_neg hnb.out, if_neg hnc.out, if_neg hnw.out]
        clear hwl hwi HR WA hWA hWL
        go_wp2_with fail
        go_loopg [4] known.length (fun gg s4 wr => ∃ k : Nat, k ≤ known.length ∧ known.length - k ≤ gg ∧ s4 = .int .i64 k ∧ Below w3.heap.size w3 wr ∧ Aside (∀ j (hj : j < k) (h : j < known.length), PC.clE c.latches.length known[j] = 0))
        case atStart => exact ⟨0, Nat.zero_le _, by omega, rfl, Below.refl _ _, fun j hj => absurd hj (Nat.not_lt_zero _)⟩
        case round =>
          obtain ⟨k, hk, hg, rfl, hbr, A⟩ := hrel
          have hbw := Below.of hbw3 hbr
          obtain ⟨⟨q0, q1, q2, q3, q4, q5, q6, q7⟩, q8, q9, q10, q11, q12, q13⟩ := Y14.out.mono hbr
          by_cases hlt : k < known.length
          · obtain ⟨b', off, u, rfl, hbs, hc, hiu⟩ := HK.out k hlt
            have hmea : ∀ g : Nat, known.length - k ≤ g → known.length - (k + 1) < g := fun g h => by omega
            have hiu := hiu.mono hbw
            generalize hy : known[k] = y at *
            have Y := Lib.hid hy
            clear hy
            obtain ⟨ay, cy, rfl, _, _, _⟩ := id hiu.open_
            have hc : ∀ x : Later wr, x.at_.cell? ⟨b', off + k, none⟩ = some (.slice ay y.length cy) := fun x => x.cell ((hbw.cell hbs).trans hc)
            have hltz : (k : Int) < (known.length : Int) := by omega
            have hKp : ∀ x : Later wr, _ := fun x => rCheck10_any c.latches.length _ y x.at_ (hiu.mono x.below) hll
            obtain ⟨E, hE⟩ : ∃ E, E = PC.clE c.latches.length y := ⟨_, rfl⟩
            rw [← hE] at hKp
            have HE := Lib.hid hE
            clear hE hiu hbs
            by_cases e0 : E = 0
            · subst e0
              go_wp2_with fail
              clear q0 q1 q2 q3 q4 q5 q6 q7 q8 q9 q10 q11 q12 q13
              obtain ⟨⟨q0, q1, q2, q3, q4, q5, q6, q7⟩, q8, q9, q10, q11, q12, q13⟩ := (Y14.out.mono hbr).later
              obtain ⟨p0, p1, p2, p3, p4, p5, p6, p7⟩ := (Y8.out.mono hbr).later
              refine wp_region_later (by kernel_rfl) (by kernel_rfl) ?_; (repeat (go_big_quiet_step ((go_at_call 50; with_reducible exact Calls.later_same (hKp _))))); refine wpQuiet_nil ?_; rintro w3 ⟨⟨_, hb3⟩, rfl⟩
              clear q0 q1 q2 q3 q4 q5 q6 q7 q8 q9 q10 q11 q12 q13 p0 p1 p2 p3 p4 p5 p6 p7
              go_wp2_with fail
              go_roundg (known.length - (k + 1))
              case measure => exact hmea _ hg
              case rel =>
                refine ⟨k + 1, by omega, by omega, by go_num, Below.of hbr hb3, (show Aside _ from fun j hj h => ?_)⟩
                by_cases e : j = k
                · subst e; rw [Y.out]; exact HE.out.symm
                · exact A.out j (by omega) h
            · have e0y : (E == 0) = false := by simpa using e0
              have e0' : (E != 0) = true := by simpa using e0
              go_wp2_with fail
              clear q0 q1 q2 q3 q4 q5 q6 q7 q8 q9 q10 q11 q12 q13
              obtain ⟨⟨q0, q1, q2, q3, q4, q5, q6, q7⟩, q8, q9, q10, q11, q12, q13⟩ := (Y14.out.mono hbr).later
              obtain ⟨p0, p1, p2, p3, p4, p5, p6, p7⟩ := (Y8.out.mono hbr).later
              refine wp_region_later (by kernel_rfl) (by kernel_rfl) ?_; (repeat (go_big_quiet_step ((go_at_call 50; with_reducible exact Calls.later_same (hKp _))))); refine wpQuiet_nil ?_; rintro w3 ⟨⟨_, hb3⟩, rfl⟩
              clear q0 q1 q2 q3 q4 q5 q6 q7 q8 q9 q10 q11 q12 q13 p0 p1 p2 p3 p4 p5 p6 p7
              go_wp2_with fail
              go_ret
              have : R = 23 := by
                rw [hfin.out, if_neg]
                rw [Bool.not_eq_true, List.all_eq_false]
                exact ⟨known[k], List.getElem_mem hlt, by rw [Y.out, ← HE.out, e0y]; decide⟩
              exact ⟨by rw [this]; rfl, Below.of hbw hb3⟩
          · have hltz : ¬ (k : Int) < (known.length : Int) := by omega
            obtain rfl : k = known.length := by omega
            go_wp2_with fail
            go_ret
            have : R = 0 := by
              rw [hfin.out, if_pos]
              rw [List.all_eq_true]
              intro x hx
              obtain ⟨j, hj, rfl⟩ := List.getElem_of_mem hx
              rw [A.out j hj hj]; rfl
            exact ⟨by rw [this]; rfl, hbw⟩

end Go.Proofs.Ytbjioniefalgpaa
