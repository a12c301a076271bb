/- Contract: what holds at first. -/
import Derived.Test.YtbjioniefalgpaaWalkU2
namespace Go.Proofs.Ytbjioniefalgpaa
open Go.RowKit Go.Shelf
attribute [local simp] mk_get

namespace PC
def firstOf (x : Lat) : List (List Int) := if x.reset = 0 then [[-litT 0 x.lit]] else if x.reset = 1 then [[litT 0 x.lit]] else []
theorem firstT_eq (c : Circ) : firstT c = c.latches.flatMap firstOf := rfl
theorem first_succ (c : Circ) (k : Nat) (h : k < c.latches.length) : (c.latches.take (k + 1)).flatMap firstOf = (c.latches.take k).flatMap firstOf ++ firstOf c.latches[k] := by
  rw [List.take_succ_eq_append_getElem h, List.flatMap_append]; simp
theorem first_len (c : Circ) (k : Nat) : ((c.latches.take k).flatMap firstOf).length ≤ k := by
  induction k with
  | zero => simp
  | succ k ih =>
    by_cases h : k < c.latches.length
    · rw [first_succ c k h, List.length_append]
      have : (firstOf c.latches[k]).length ≤ 1 := by unfold firstOf; split <;> (try split) <;> simp
      omega
    · rw [List.take_of_length_le (by omega)]
      rw [List.take_of_length_le (by omega)] at ih
      omega
end PC

set_option maxRecDepth 100000 in
theorem uFirst_bad (c : PC.Circ) (vc : Value) (w : World) (h : IsCirc w vc c) (hck : PC.chk c = false) :
    Calls Try.prog 18 #[vc] w fun e w' => e = .returned (.slice none 0 0) ∧ Below w.heap.size w w' := by
  have hR := fun w1 (hb : Below w.heap.size w w1) => uright_any c vc 0 w1 (h.mono hb)
  rw [hck, show (decide ((0 : Int) ≤ 0) && decide ((0 : Int) ≤ 80) && false) = false from by decide] at hR
  obtain ⟨vi, vl, vo, vb, vv, va, vn, rfl, hp, hm⟩ := h
  clear hp
  have hb0 : Below w.heap.size w (w.alloc (.cells #[.int .i64 c.max, vi, vl, vo, vb, vv, va, vn] 27)) := (Below.refl _ _).alloc (Nat.le_refl _) _
  go_enter Try.func18, Try.ntmps18
  go_wp2_with (go_at_call 42; refine (hR _ (by exact hb0)).mono ?_; rintro e w1 ⟨rfl, hb1⟩)
  go_ret
  exact ⟨rfl, Below.of hb0 hb1⟩

set_option maxRecDepth 100000 in
set_option maxHeartbeats 4000000 in
theorem uFirst_good (c : PC.Circ) (vc : Value) (w : World) (h : IsCirc w vc c) (hck : PC.chk c = true) :
    Calls Try.prog 18 #[vc] w fun e w' => ∃ u, e = .returned u ∧ OutI w' w.heap.size u (PC.firstT c) ∧ Below w.heap.size w w' := by
  have hRt := Lib.hid (PC.right_of c hck)
  have hR := fun w1 (hb : Below w.heap.size w w1) => uright_any c vc 0 w1 (h.mono hb)
  rw [hck, show (decide ((0 : Int) ≤ 0) && decide ((0 : Int) ≤ 80) && true) = true from by decide] at hR
  have hP := fun j hj w1 (hb : Below w.heap.size w w1) => ulatch_pos c vc 0 j w1 (h.mono hb) hRt.out.max0 hRt.out.max1 (by decide) (by decide) hj
  have hN := fun j hj w1 (hb : Below w.heap.size w w1) => ulatch_neg c vc 0 j w1 (h.mono hb) hRt.out.max0 hRt.out.max1 (by decide) (by decide) hj
  have hP := Lib.hid hP
  have hN := Lib.hid hN
  obtain ⟨vi, vl, vo, vb, vv, va, vn, rfl, hp, hm⟩ := h
  obtain ⟨al, capl, rfl, hl1, hl2, hl3⟩ := hp.latches.open_
  clear hp
  have HL := Lib.hid hl3
  clear hl3
  have hll : c.latches.length ≤ 64 := hRt.out.lats
  have hb0 : Below w.heap.size w (w.alloc (.cells #[.int .i64 c.max, vi, .slice al c.latches.length capl, vo, vb, vv, va, vn] 27)) := (Below.refl _ _).alloc (Nat.le_refl _) _
  have hbx := Lib.hid (Box8.new w (.int .i64 c.max) vi (.slice al c.latches.length capl) vo vb vv va vn 27)
  go_enter Try.func18, Try.ntmps18
  go_wp2_with (go_at_call 42; refine (hR _ (by exact hb0)).mono ?_; rintro e w1 ⟨rfl, hb1⟩; obtain ⟨q0, q1, q2, q3, q4, q5, q6, q7⟩ := hbx.out.mono hb1)
  have hb01 := Below.of hb0 hb1
  have hbx1 := Lib.hid (hbx.out.mono hb1)
  clear hR hb0 hbx hb1 q0 q1 q2 q3 q4 q5 q6 q7
  go_loopg [3, 12] c.latches.length (fun gg s3 s12 wr => ∃ k : Nat, k ≤ c.latches.length ∧ c.latches.length - k ≤ gg ∧ s12 = .int .i64 k ∧ Below w1.heap.size w1 wr ∧ Aside (OutI wr w1.heap.size s3 ((c.latches.take k).flatMap PC.firstOf)))
  case atStart => exact ⟨0, Nat.zero_le _, by omega, rfl, Below.refl _ _, OutI.nil _ _⟩
  case round =>
    obtain ⟨k, hk, hg, rfl, hbr1, hout⟩ := hrel
    have hbr := Below.of hb01 hbr1
    by_cases hlt : k < c.latches.length
    · obtain ⟨b, off, rfl, hbs, ⟨hxr, hxn, hxs⟩, c0, c1, c2⟩ := HL.out k hlt
      have hmea : ∀ g : Nat, c.latches.length - k ≤ g → c.latches.length - (k + 1) < g := fun g h => by omega
      have c0 := (hbr.cell hbs).trans c0
      have c1 := (hbr.cell hbs).trans c1
      have c2 := (hbr.cell hbs).trans c2
      have hstep := Lib.hid (PC.first_succ c k hlt)
      have hflen := PC.first_len c k
      have hPk := hP.out k hlt
      have hNk := hN.out k hlt
      have hlat : latL c 0 k = PC.litT 0 c.latches[k].lit := by rw [latL_at c 0 k hlt, Int.zero_mul]
      have hsm := PC.litT_small 0 c.latches[k].lit (by decide) (by decide)
      rw [hlat] at hPk hNk
      rw [show -((k : Int) + 1) = -(k : Int) - 1 by omega] at hNk
      have hFO : Hid (PC.firstOf c.latches[k] = if c.latches[k].reset = 0 then [[-PC.litT 0 c.latches[k].lit]] else if c.latches[k].reset = 1 then [[PC.litT 0 c.latches[k].lit]] else []) := rfl
      generalize PC.litT 0 c.latches[k].lit = L at *
      generalize hx : c.latches[k] = x at *
      clear hx hlat
      obtain ⟨xl, xn, xr⟩ := x
      simp only at hxr hxn hxs c0 c1 c2
      have hPk := Lib.hid hPk
      have hNk := Lib.hid hNk
      have hltz : (k : Int) < (c.latches.length : Int) := by omega
      have hw1 : IntKind.i64.wrap (-(k : Int)) = -(k : Int) := IntWalk.i64_in _ (by omega)
      have hw2 : IntKind.i64.wrap (-(k : Int) - 1) = -(k : Int) - 1 := IntWalk.i64_in _ (by omega)
      have hw3 : IntKind.i64.wrap ((k : Int) + 1) = (k : Int) + 1 := IntWalk.i64_in _ (by omega)
      obtain ⟨q0, q1, q2, q3, q4, q5, q6, q7⟩ := hbx1.out.mono hbr1
      have p0 := past1 q0
      have p1 := past1 q1
      have p2 := past1 q2
      have p3 := past1 q3
      have p4 := past1 q4
      have p5 := past1 q5
      have p6 := past1 q6
      have p7 := past1 q7
      have hw1s : w.heap.size ≤ w1.heap.size := hb01.size
      by_cases r0 : xr = 0
      · have hfo : Hid (PC.firstOf ⟨xl, xn, xr⟩ = [[-L]]) := by show _ = _; rw [hFO.out, if_pos r0]
        subst r0
        clear hFO
        have hbA := hbr.alloc hbr.size (.cells #[.int .i64 xl, .int .i64 xn, .int .i64 0] 63)
        have hbA1 : Below w1.heap.size w1 (wr.alloc (.cells #[.int .i64 xl, .int .i64 xn, .int .i64 0] 63)) := hbr1.alloc hbr1.size _
        have houtA := Lib.hid (hout.out.mono ((Below.refl _ _).alloc (Nat.le_refl _) (.cells #[.int .i64 xl, .int .i64 xn, .int .i64 0] 63)))
        go_wp2_with fail
        refine (hNk.out _ (by exact hbA)).mono ?_
        rintro e w2 ⟨rfl, hb2⟩
        have hbr2 := Below.of hbA1 hb2
        have hr1 := RowI.new w2 [-L] (by intro x hx; simp at hx; subst hx; unfold rng; omega) (by simp)
        have hba : Below w2.heap.size w2 (w2.alloc (.cells #[.int .i64 (-L)] 3)) := (Below.refl _ _).alloc (Nat.le_refl _) _
        have hrows := Lib.hid ((RowsI.nil _).push hr1)
        have hout1 := Lib.hid ((houtA.out.mono hb2).mono hba)
        go_wp2_with (at_builtin; refine app_rows rfl _ _ rfl (w0 := w1) (B0 := w1.heap.size) rfl hout1.out (us := #[.slice (some ⟨w2.heap.size, 0, none⟩) 1 1]) (ms := [[-L]]) (by exact hrows.out) (hbr2.alloc hbr2.size _) (Nat.le_refl _) (by simp; have := hbr2.size; omega) 1 1 rfl (by first | rfl | (simp only [World.size_alloc]; rfl)) (by omega) ?_; intro v3 w3 hout3 hb3 hbs3)
        go_roundg (c.latches.length - (k + 1))
        case measure => exact hmea _ hg
        case rel =>
          refine ⟨k + 1, by omega, by omega, by go_num, hb3, ?_⟩
          rw [hstep.out, hfo.out]
          exact hout3
      · by_cases r1 : xr = 1
        · have hfo : Hid (PC.firstOf ⟨xl, xn, xr⟩ = [[L]]) := by show _ = _; rw [hFO.out, if_neg r0, if_pos r1]
          subst r1
          clear hFO
          have hbA := hbr.alloc hbr.size (.cells #[.int .i64 xl, .int .i64 xn, .int .i64 1] 63)
          have hbA1 : Below w1.heap.size w1 (wr.alloc (.cells #[.int .i64 xl, .int .i64 xn, .int .i64 1] 63)) := hbr1.alloc hbr1.size _
          have houtA := Lib.hid (hout.out.mono ((Below.refl _ _).alloc (Nat.le_refl _) (.cells #[.int .i64 xl, .int .i64 xn, .int .i64 1] 63)))
          go_wp2_with fail
          refine (hPk.out _ (by exact hbA)).mono ?_
          rintro e w2 ⟨rfl, hb2⟩
          have hbr2 := Below.of hbA1 hb2
          have hr1 := RowI.new w2 [L] (by intro x hx; simp at hx; subst hx; unfold rng; omega) (by simp)
          have hba : Below w2.heap.size w2 (w2.alloc (.cells #[.int .i64 (L)] 3)) := (Below.refl _ _).alloc (Nat.le_refl _) _
          have hrows := Lib.hid ((RowsI.nil _).push hr1)
          have hout1 := Lib.hid ((houtA.out.mono hb2).mono hba)
          go_wp2_with (at_builtin; refine app_rows rfl _ _ rfl (w0 := w1) (B0 := w1.heap.size) rfl hout1.out (us := #[.slice (some ⟨w2.heap.size, 0, none⟩) 1 1]) (ms := [[L]]) (by exact hrows.out) (hbr2.alloc hbr2.size _) (Nat.le_refl _) (by simp; have := hbr2.size; omega) 1 1 rfl (by first | rfl | (simp only [World.size_alloc]; rfl)) (by omega) ?_; intro v3 w3 hout3 hb3 hbs3)
          go_roundg (c.latches.length - (k + 1))
          case measure => exact hmea _ hg
          case rel =>
            refine ⟨k + 1, by omega, by omega, by go_num, hb3, ?_⟩
            rw [hstep.out, hfo.out]
            exact hout3
        · have hfo : Hid (PC.firstOf ⟨xl, xn, xr⟩ = []) := by show _ = _; rw [hFO.out, if_neg r0, if_neg r1]
          clear hFO
          have hbA := hbr.alloc hbr.size (.cells #[.int .i64 xl, .int .i64 xn, .int .i64 xr] 63)
          have hbA1 : Below w1.heap.size w1 (wr.alloc (.cells #[.int .i64 xl, .int .i64 xn, .int .i64 xr] 63)) := hbr1.alloc hbr1.size _
          have houtA := Lib.hid (hout.out.mono ((Below.refl _ _).alloc (Nat.le_refl _) (.cells #[.int .i64 xl, .int .i64 xn, .int .i64 xr] 63)))
          go_wp2_with fail
          go_roundg (c.latches.length - (k + 1))
          case measure => exact hmea _ hg
          case rel =>
            refine ⟨k + 1, by omega, by omega, by go_num, hbA1, ?_⟩
            rw [hstep.out, hfo.out, List.append_nil]
            exact houtA.out
    · have hltz : ¬ (k : Int) < (c.latches.length : Int) := by omega
      obtain rfl : k = c.latches.length := by omega
      rw [List.take_length, ← PC.firstT_eq] at hout
      go_wp2
      go_ret
      exact ⟨_, rfl, hout.out.weaken hb01.size, hbr⟩

end Go.Proofs.Ytbjioniefalgpaa
