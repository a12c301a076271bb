/- The walk of TseitinMoves. -/
import Derived.Test.YtaadhkjehlkiiaaWalkG2
import Derived.Test.YtaadhkjehlkiiaaWalkL1
import Derived.Test.YtaadhkjehlkiiaaPlainU2
namespace Go.Proofs.Ytaadhkjehlkiiaa
open Go.RowKit Go.Shelf

set_option maxRecDepth 100000 in
set_option maxHeartbeats 4000000 in
theorem moved_yes (A Bl : List (List Int)) (va vb : Value) (by_ : Int) (w : World) (hA : Lists w va A) (hB : Lists w vb Bl) (hm : Bl = A.map (List.map (PC.mv by_))) (h0 : 0 ≤ by_) (h1 : by_ ≤ 999) (hs : ∀ a ∈ A, ∀ x ∈ a, -300000 ≤ x ∧ x ≤ 300000) :
    Calls Try.prog 25 #[va, vb, .int .i64 by_] w fun e w' => e = .returned (.bool true) ∧ Below w.heap.size w w' := by
  have hl : Bl.length = A.length := by rw [hm, List.length_map]
  have hget : Hid (∀ k (h : k < A.length) (h' : k < Bl.length), Bl[k] = A[k].map (PC.mv by_)) := fun k h h' => by subst hm; simp
  obtain ⟨aA, cA, rfl, hA1, hA2, hA3⟩ := hA.open_
  obtain ⟨aB, cB, rfl, hB1, hB2, hB3⟩ := hB.open_
  clear hA hB hm
  have HA := Lib.hid hA3
  have HB := Lib.hid hB3
  have HS := Lib.hid hs
  clear hA3 hB3 hs
  rw [hl]
  have HL := Lib.hid hl
  have hB1 : A.length ≤ cB := by omega
  clear hl
  go_enter Try.func25, Try.ntmps25
  go_wp2_with fail
  go_loopg [7] A.length (fun gg s7 wr => ∃ k : Nat, k ≤ A.length ∧ A.length - k ≤ gg ∧ s7 = .int .i64 k ∧ Below w.heap.size w wr)
  case atStart => exact ⟨0, Nat.zero_le _, by omega, rfl, Below.refl _ _⟩
  case round =>
    obtain ⟨k, hk, hg, rfl, hbr⟩ := hrel
    by_cases hlt : k < A.length
    · have hmea : ∀ g : Nat, A.length - k ≤ g → A.length - (k + 1) < g := fun g h => by omega
      obtain ⟨b1, o1, u1, rfl, hbs1, hc1, hi1⟩ := HA.out k hlt
      obtain ⟨b2, o2, u2, rfl, hbs2, hc2, hi2⟩ := HB.out k (by rw [HL.out]; exact hlt)
      have hgk := hget.out k hlt (by rw [HL.out]; exact hlt)
      have hsk := HS.out _ (List.getElem_mem hlt)
      generalize Bl[k]'(by rw [HL.out]; exact hlt) = z at *
      generalize A[k] = y at *
      have hzl : z.length = y.length := by rw [hgk, List.length_map]
      have hze : Hid (∀ j (h : j < y.length) (h' : j < z.length), z[j] = PC.mv by_ y[j]) := fun j h h' => by subst hgk; simp
      obtain ⟨p1, d1, rfl, e1, e2, e3⟩ := hi1.open_
      obtain ⟨p2, d2, rfl, f1, f2, f3⟩ := hi2.open_
      have E3 := Lib.hid e3
      have F3 := Lib.hid f3
      have HSK := Lib.hid hsk
      have HZL := Lib.hid hzl
      rw [hzl] at hc2
      have C1 := Lib.hid hc1
      have C2 := Lib.hid hc2
      have f1 : y.length ≤ d2 := by omega
      clear e3 f3 hgk hzl hsk hi1 hi2
      have hc1 : ∀ x1 : Later wr, x1.at_.cell? ⟨b1, o1 + k, none⟩ = _ := fun x1 => x1.cell ((hbr.cell hbs1).trans hc1)
      have hc2 : ∀ x1 : Later wr, x1.at_.cell? ⟨b2, o2 + k, none⟩ = _ := fun x1 => x1.cell ((hbr.cell hbs2).trans hc2)
      have hltz : (k : Int) < (A.length : Int) := by omega
      go_wp2_with fail
      refine wp_region_later (by kernel_rfl) (by kernel_rfl) ?_; (repeat (go_big_quiet_step (fail))); refine wpQuiet_nil ?_; rintro w3 ⟨⟨_, hb3⟩, rfl⟩
      obtain ⟨V, hV⟩ : ∃ V, V = w3 := ⟨_, rfl⟩
      subst hV
      have hbV := Below.of hbr hb3
      clear hc1 hc2
      have hc1 := (hbV.cell hbs1).trans C1.out
      have hc2 := (hbV.cell hbs2).trans C2.out
      go_wp2_with fail
      go_loopg [8] y.length (fun gg s8 wr => ∃ j : Nat, j ≤ y.length ∧ y.length - j ≤ gg ∧ s8 = .int .i64 j ∧ V = wr)
      case atStart => exact ⟨0, Nat.zero_le _, by omega, rfl, rfl⟩
      case round =>
        obtain ⟨j, hj, hgj, rfl, rfl⟩ := hrel
        by_cases hltj : j < y.length
        · have hmej : ∀ g : Nat, y.length - j ≤ g → y.length - (j + 1) < g := fun g h => by omega
          obtain ⟨q1, t1, rfl, hq1, _, hx1⟩ := E3.out j hltj
          obtain ⟨q2, t2, rfl, hq2, _, hx2⟩ := F3.out j (by rw [HZL.out]; exact hltj)
          have hx1 := (hbV.cell hq1).trans hx1
          have hx2 := (hbV.cell hq2).trans hx2
          rw [hze.out j hltj (by rw [HZL.out]; exact hltj)] at hx2
          have hsx := HSK.out _ (List.getElem_mem hltj)
          generalize y[j] = x at *
          have hltjz : (j : Int) < (y.length : Int) := by omega
          have ew1 : IntKind.i64.wrap (x + by_) = x + by_ := IntWalk.i64_in _ (by omega)
          have ew2 : IntKind.i64.wrap (x - by_) = x - by_ := IntWalk.i64_in _ (by omega)
          by_cases hneg : x < 0
          · have hmv : PC.mv by_ x = x - by_ := by unfold PC.mv; rw [if_pos hneg]
            rw [hmv] at hx2
            clear hmv
            go_wp2_with fail
            go_roundg (y.length - (j + 1))
            case measure => exact hmej _ hgj
            case rel => exact ⟨j + 1, by omega, by omega, by go_num, rfl⟩
          · have hmv : PC.mv by_ x = x + by_ := by unfold PC.mv; rw [if_neg hneg]
            rw [hmv] at hx2
            clear hmv
            go_wp2_with fail
            go_roundg (y.length - (j + 1))
            case measure => exact hmej _ hgj
            case rel => exact ⟨j + 1, by omega, by omega, by go_num, rfl⟩
        · have hltjz : ¬ (j : Int) < (y.length : Int) := by omega
          go_wp2_with fail
          go_roundg (A.length - (k + 1))
          case measure => exact hmea _ hg
          case rel => exact ⟨k + 1, by omega, by omega, by go_num, hbV⟩
    · have hltz : ¬ (k : Int) < (A.length : Int) := by omega
      go_wp2
      go_ret
      exact ⟨rfl, hbr⟩

theorem base_range (base : Int) : 0 ≤ (wrap64 (base.tmod 1000 + 1000)).tmod 1000 ∧ (wrap64 (base.tmod 1000 + 1000)).tmod 1000 ≤ 999 := by
  have h : -1000 < base.tmod 1000 ∧ base.tmod 1000 < 1000 := by
    by_cases hb : 0 ≤ base
    · rw [Int.tmod_eq_emod_of_nonneg hb]; omega
    · have e : base.tmod 1000 = -((-base).tmod 1000) := by rw [Int.neg_tmod, Int.neg_neg]
      rw [e, Int.tmod_eq_emod_of_nonneg (by omega)]; omega
  have e : wrap64 (base.tmod 1000 + 1000) = base.tmod 1000 + 1000 := by unfold wrap64; omega
  rw [e, Int.tmod_eq_emod_of_nonneg (by omega)]
  omega

namespace PC
theorem gates_small (c : Circ) (h : Right c) : ∀ a ∈ gatesT c 0, ∀ x ∈ a, -300000 ≤ x ∧ x ≤ 300000 := by
  intro a ha x hx
  have h1 := (gatesT_range c h a ha x hx).2
  have := h.max1
  omega
theorem force_small (c : Circ) (assume : List (List Int)) : ∀ a ∈ force c assume 0, ∀ x ∈ a, -300000 ≤ x ∧ x ≤ 300000 := by
  intro a ha x hx
  unfold force at ha
  have hl : ∃ l, x = litT 0 l := by
    rcases List.mem_append.1 ha with ha | ha
    · obtain ⟨l, _, rfl⟩ := List.mem_map.1 ha
      exact ⟨l, by simpa using hx⟩
    · obtain ⟨l, _, rfl⟩ := List.mem_map.1 ha
      obtain ⟨y, _, e⟩ := List.mem_map.1 hx
      exact ⟨y, e.symm⟩
  obtain ⟨l, rfl⟩ := hl
  have := litT_small 0 l (by decide) (by decide)
  omega
end PC

theorem Lists.nil (w : World) : Lists w (.slice none 0 0) [] := ⟨[], rfl, Cells.nil _ _, fun i h => by simp at h⟩

set_option maxRecDepth 100000 in
set_option maxHeartbeats 8000000 in
theorem moves_walk (c : PC.Circ) (vc va : Value) (assume : List (List Int)) (base : Int) (w : World) (h : IsCirc w vc c) (hA : Lists w va assume) (hF : FitsL assume) (hb : rng base) :
    Calls Try.prog 7 #[vc, va, .int .i64 base] w fun e w' => e = .returned (.bool true) ∧ Below w.heap.size w w' := by
  have hGb := Lib.hid fun x w1 (hb : Below w.heap.size w w1) (hE : rightE c x ≠ 0) => tGates_bad c vc x w1 (h.mono hb) hE
  have hGg := Lib.hid fun x w1 (hb : Below w.heap.size w w1) (hE : rightE c x = 0) => tGates_good c vc x w1 (h.mono hb) hE
  have hFb := Lib.hid fun x w1 (hb : Below w.heap.size w w1) (hE : rightE c x ≠ 0) => tForce_bad c vc va assume x w1 (h.mono hb) hE
  have hFg := Lib.hid fun x w1 (hb : Below w.heap.size w w1) (hE : rightE c x = 0) => tForce_good c vc va assume x w1 (h.mono hb) (hA.mono hb) hF hE
  have hBr := base_range base
  have hwb1 : wrap64 base = base := by unfold wrap64; unfold rng at hb; omega
  obtain ⟨vi, vl, vo, vb, vv, va', vn, rfl, hp, hmx⟩ := h
  clear hp hA hF
  have hb1 : Below w.heap.size w (w.alloc (.cells #[.int .i64 c.max, vi, vl, vo, vb, vv, va', vn] 27)) := (Below.refl _ _).alloc (Nat.le_refl _) _
  have hbx := Lib.hid (Box8.new w (.int .i64 c.max) vi vl vo vb vv va' vn 27)
  obtain ⟨q0, q1, q2, q3, q4, q5, q6, q7⟩ := hbx.out
  clear hwb1 hb
  go_enter Try.func7, Try.ntmps7
  go_wp2_with (go_at_call 11; refine (alive12_any _).mono ?_; rintro e w2 ⟨rfl, rfl⟩)
  generalize hBB : (wrap64 (base.tmod 1000 + 1000)).tmod 1000 = B at *
  clear hBB
  cases hck : PC.chk c with
  | false =>
    have hE0 : rightE c 0 = 9 := by unfold rightE; rw [if_pos hck]
    have hEB : rightE c B = 9 := by unfold rightE; rw [if_pos hck]
    have G0 := Lib.hid fun w1 hb => hGb.out 0 w1 hb (by rw [hE0]; decide)
    have GB := Lib.hid fun w1 hb => hGb.out B w1 hb (by rw [hEB]; decide)
    have F0 := Lib.hid fun w1 hb => hFb.out 0 w1 hb (by rw [hE0]; decide)
    have FB := Lib.hid fun w1 hb => hFb.out B w1 hb (by rw [hEB]; decide)
    rw [hE0] at G0 F0
    rw [hEB] at GB FB
    clear hE0 hEB hGb hGg hFb hFg hck
    refine (G0.out _ (by exact hb1)).mono ?_
    rintro e w3 ⟨rfl, hb3⟩
    have hbw3 := Below.of hb1 hb3
    clear q0 q1 q2 q3 q4 q5 q6 q7
    obtain ⟨q0, q1, q2, q3, q4, q5, q6, q7⟩ := hbx.out.mono hb3
    have hbx3 := Lib.hid (hbx.out.mono hb3)
    go_wp2_with fail
    refine (GB.out _ (by exact hbw3)).mono ?_
    rintro e w4 ⟨rfl, hb4⟩
    have hbw4 := Below.of hbw3 hb4
    clear q0 q1 q2 q3 q4 q5 q6 q7
    obtain ⟨q0, q1, q2, q3, q4, q5, q6, q7⟩ := hbx3.out.mono hb4
    have hbx4 := Lib.hid (hbx3.out.mono hb4)
    go_wp2_with fail
    refine (F0.out _ (by exact hbw4)).mono ?_
    rintro e w5 ⟨rfl, hb5⟩
    have hbw5 := Below.of hbw4 hb5
    clear q0 q1 q2 q3 q4 q5 q6 q7
    obtain ⟨q0, q1, q2, q3, q4, q5, q6, q7⟩ := hbx4.out.mono hb5
    go_wp2_with fail
    refine (FB.out _ (by exact hbw5)).mono ?_
    rintro e w6 ⟨rfl, hb6⟩
    have hbw6 := Below.of hbw5 hb6
    clear q0 q1 q2 q3 q4 q5 q6 q7
    go_wp2_with fail
    refine (moved_yes [] [] _ _ B w6 (Lists.nil _) (Lists.nil _) rfl hBr.1 hBr.2 (fun a ha => by simp at ha)).mono ?_
    rintro e w7 ⟨rfl, hb7⟩
    go_wp2_with fail
    refine (moved_yes [] [] _ _ B w7 (Lists.nil _) (Lists.nil _) rfl hBr.1 hBr.2 (fun a ha => by simp at ha)).mono ?_
    rintro e w8 ⟨rfl, hb8⟩
    go_wp2_with fail
    go_ret
    exact ⟨rfl, Below.of (Below.of hbw6 hb7) hb8⟩
  | true =>
    have hE0 : rightE c 0 = 0 := by unfold rightE; rw [if_neg (by rw [hck]; decide), if_neg (by omega)]
    have hEB : rightE c B = 0 := by unfold rightE; rw [if_neg (by rw [hck]; decide), if_neg (by omega)]
    have hRt := Lib.hid (PC.right_of c hck)
    have G0 := Lib.hid fun w1 hb => hGg.out 0 w1 hb hE0
    have GB := Lib.hid fun w1 hb => hGg.out B w1 hb hEB
    have F0 := Lib.hid fun w1 hb => hFg.out 0 w1 hb hE0
    have FB := Lib.hid fun w1 hb => hFg.out B w1 hb hEB
    clear hE0 hEB hGb hGg hFb hFg hck
    refine (G0.out _ (by exact hb1)).mono ?_
    rintro e w3 ⟨u1, rfl, hu1, hb3⟩
    have hbw3 := Below.of hb1 hb3
    clear q0 q1 q2 q3 q4 q5 q6 q7
    obtain ⟨q0, q1, q2, q3, q4, q5, q6, q7⟩ := hbx.out.mono hb3
    have hbx3 := Lib.hid (hbx.out.mono hb3)
    go_wp2_with fail
    refine (GB.out _ (by exact hbw3)).mono ?_
    rintro e w4 ⟨u2, rfl, hu2, hb4⟩
    have hbw4 := Below.of hbw3 hb4
    clear q0 q1 q2 q3 q4 q5 q6 q7
    obtain ⟨q0, q1, q2, q3, q4, q5, q6, q7⟩ := hbx3.out.mono hb4
    have hbx4 := Lib.hid (hbx3.out.mono hb4)
    go_wp2_with fail
    refine (F0.out _ (by exact hbw4)).mono ?_
    rintro e w5 ⟨u3, rfl, hu3, hb5⟩
    have hbw5 := Below.of hbw4 hb5
    clear q0 q1 q2 q3 q4 q5 q6 q7
    obtain ⟨q0, q1, q2, q3, q4, q5, q6, q7⟩ := hbx4.out.mono hb5
    go_wp2_with fail
    refine (FB.out _ (by exact hbw5)).mono ?_
    rintro e w6 ⟨u4, rfl, hu4, hb6⟩
    have hbw6 := Below.of hbw5 hb6
    clear q0 q1 q2 q3 q4 q5 q6 q7
    have L1 := (((hu1.mono hb4).mono hb5).mono hb6).lists
    have L2 := ((hu2.mono hb5).mono hb6).lists
    have L3 := (hu3.mono hb6).lists
    have L4 := hu4.lists
    have m1 := Lib.hid (PC.gatesT_mv c B)
    have m2 := Lib.hid (PC.force_mv c assume B)
    have s1 := Lib.hid (PC.gates_small c hRt.out)
    have s2 := Lib.hid (PC.force_small c assume)
    have n1 : (PC.gatesT c B).length = (PC.gatesT c 0).length := by rw [m1.out, List.length_map]
    have n2 : (PC.force c assume B).length = (PC.force c assume 0).length := by rw [m2.out, List.length_map]
    clear hu1 hu2 hu3 hu4 G0 GB F0 FB
    generalize PC.gatesT c 0 = A1 at *
    generalize PC.gatesT c B = A2 at *
    generalize PC.force c assume 0 = A3 at *
    generalize PC.force c assume B = A4 at *
    have K1 := Lib.hid L1
    have K2 := Lib.hid L2
    have K3 := Lib.hid L3
    have K4 := Lib.hid L4
    obtain ⟨a1, d1, rfl, _, _, _⟩ := L1.open_
    obtain ⟨a2, d2, rfl, _, _, _⟩ := L2.open_
    obtain ⟨a3, d3, rfl, _, _, _⟩ := L3.open_
    obtain ⟨a4, d4, rfl, _, _, _⟩ := L4.open_
    rw [n1] at K2 ⊢
    rw [n2] at K4 ⊢
    clear L1 L2 L3 L4 n1 n2
    go_wp2_with fail
    refine (moved_yes A1 A2 _ _ B w6 K1.out K2.out m1.out hBr.1 hBr.2 s1.out).mono ?_
    rintro e w7 ⟨rfl, hb7⟩
    go_wp2_with fail
    refine (moved_yes A3 A4 _ _ B w7 (K3.out.mono hb7) (K4.out.mono hb7) m2.out hBr.1 hBr.2 s2.out).mono ?_
    rintro e w8 ⟨rfl, hb8⟩
    go_wp2_with fail
    go_ret
    exact ⟨rfl, Below.of (Below.of hbw6 hb7) hb8⟩

end Go.Proofs.Ytaadhkjehlkiiaa
