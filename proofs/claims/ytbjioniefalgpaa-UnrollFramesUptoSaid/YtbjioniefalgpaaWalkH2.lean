/- Contract: a latch's literal in a frame, of any number. -/
import Derived.Test.YtbjioniefalgpaaWalkH1
namespace Go.Proofs.Ytbjioniefalgpaa
open Go.RowKit Go.Shelf

theorem latchT_pos (c : PC.Circ) (fr : Int) (j : Nat) (h : j < c.latches.length) : PC.latchT c fr ((j : Int) + 1) = latL c fr j := by
  unfold PC.latchT latL
  rw [if_neg (by omega), if_neg (by omega)]
  have e : (max ((j : Int) + 1) (-((j : Int) + 1))).toNat - 1 = j := by omega
  rw [e]

theorem latchT_neg (c : PC.Circ) (fr : Int) (j : Nat) (h : j < c.latches.length) : PC.latchT c fr (-((j : Int) + 1)) = -latL c fr j := by
  unfold PC.latchT latL
  rw [if_neg (by omega), if_pos (by omega)]
  have e : (max (-((j : Int) + 1)) (-(-((j : Int) + 1)))).toNat - 1 = j := by omega
  rw [e]

theorem latchT_out (c : PC.Circ) (fr n : Int) (h : n = 0 ∨ (c.latches.length : Int) < n ∨ n < -(c.latches.length : Int)) : PC.latchT c fr n = 0 := by
  unfold PC.latchT
  rw [if_pos h]

theorem latchT_small (c : PC.Circ) (fr n : Int) (h0 : 0 ≤ c.max) (h1 : c.max ≤ 2048) (g0 : 0 ≤ fr) (g1 : fr ≤ 81) : -264194 ≤ PC.latchT c fr n ∧ PC.latchT c fr n ≤ 264194 := by
  have hb := base_bounds fr c.max h0 h1 g0 g1
  have hl := fun l => PC.litT_small (fr * (c.max + 1)) l hb.1 (by omega)
  unfold PC.latchT
  split
  · omega
  · split
    · have := hl ((c.latches[(max n (-n)).toNat - 1]?.getD default).lit); omega
    · exact hl _

set_option maxRecDepth 100000 in
set_option maxHeartbeats 4000000 in
theorem uLatch_any (c : PC.Circ) (vc : Value) (fr n : Int) (w : World) (h : IsCirc w vc c) (hck : PC.chk c = true) (g0 : 0 ≤ fr) (g1 : fr ≤ 80) (hn : rng n) :
    Calls Try.prog 48 #[vc, .int .i64 fr, .int .i64 n] w fun e w' => e = .returned (.int .i64 (PC.latchT c fr n)) ∧ Below w.heap.size w w' := by
  have hRt := Lib.hid (PC.right_of c hck)
  have hR := fun w1 (hb : Below w.heap.size w w1) => uright_any c vc fr w1 (h.mono hb)
  rw [hck, decide_eq_true g0, decide_eq_true g1] at hR
  have hP := Lib.hid fun j hj w1 (hb : Below w.heap.size w w1) => ulatch_pos c vc fr j w1 (h.mono hb) hRt.out.max0 hRt.out.max1 g0 (by omega) hj
  have hN := Lib.hid fun j hj w1 (hb : Below w.heap.size w w1) => ulatch_neg c vc fr j w1 (h.mono hb) hRt.out.max0 hRt.out.max1 g0 (by omega) hj
  obtain ⟨vi, vl, vo, vb, vv, va, vn, rfl, hp, hm⟩ := h
  obtain ⟨al, capl, rfl, hl1, hl2, hl3⟩ := hp.latches.open_
  clear hp hl3
  have hll : c.latches.length ≤ 64 := hRt.out.lats
  have hb0 : Below w.heap.size w (w.alloc (.cells #[.int .i64 c.max, vi, .slice al c.latches.length capl, vo, vb, vv, va, vn] 27)) := (Below.refl _ _).alloc (Nat.le_refl _) _
  have hbx := Lib.hid (Box8.new w (.int .i64 c.max) vi (.slice al c.latches.length capl) vo vb vv va vn 27)
  have hwn : IntKind.i64.wrap (-(c.latches.length : Int)) = -(c.latches.length : Int) := IntWalk.i64_in _ (by omega)
  obtain ⟨hn0, hn1⟩ := hn
  by_cases h0 : n = 0
  · subst h0
    rw [latchT_out c fr 0 (Or.inl rfl)]
    go_enter Try.func48, Try.ntmps48
    go_wp2_with (go_at_call 42; refine (hR _ (by exact hb0)).mono ?_; rintro e w1 ⟨rfl, hb1⟩)
    go_ret
    exact ⟨rfl, Below.of hb0 hb1⟩
  by_cases h1 : (c.latches.length : Int) < n
  · rw [latchT_out c fr n (Or.inr (Or.inl h1))]
    go_enter Try.func48, Try.ntmps48
    go_wp2_with (go_at_call 42; refine (hR _ (by exact hb0)).mono ?_; rintro e w1 ⟨rfl, hb1⟩; obtain ⟨q0, q1, q2, q3, q4, q5, q6, q7⟩ := hbx.out.mono hb1)
    go_ret
    exact ⟨rfl, Below.of hb0 hb1⟩
  by_cases h2 : n < -(c.latches.length : Int)
  · rw [latchT_out c fr n (Or.inr (Or.inr h2))]
    go_enter Try.func48, Try.ntmps48
    go_wp2_with (go_at_call 42; refine (hR _ (by exact hb0)).mono ?_; rintro e w1 ⟨rfl, hb1⟩; obtain ⟨q0, q1, q2, q3, q4, q5, q6, q7⟩ := hbx.out.mono hb1)
    go_ret
    exact ⟨rfl, Below.of hb0 hb1⟩
  have k0 : (n == 0) = false := by simpa using h0
  have k1 : decide ((c.latches.length : Int) < n) = false := decide_eq_false h1
  have k2 : decide (n < -(c.latches.length : Int)) = false := decide_eq_false h2
  have H1 := Lib.hid h1
  have H2 := Lib.hid h2
  clear h1 h2
  by_cases hpos : 0 < n
  · obtain ⟨j, hj⟩ : ∃ j : Nat, n = (j : Int) + 1 := ⟨(n - 1).toNat, by omega⟩
    have hjl : j < c.latches.length := by have := H1.out; have := H2.out; omega
    clear hpos
    have hL := Lib.hid fun w1 hb => hP.out j hjl w1 hb
    rw [← hj] at hL
    have e : PC.latchT c fr n = latL c fr j := by rw [hj, latchT_pos c fr j hjl]
    rw [e]
    clear hj e
    go_enter Try.func48, Try.ntmps48
    go_wp2_with (first | (go_at_call 42; refine (hR _ (by exact hb0)).mono ?_; rintro e w1 ⟨rfl, hb1⟩; have hbw1 := Below.of hb0 hb1; obtain ⟨q0, q1, q2, q3, q4, q5, q6, q7⟩ := hbx.out.mono hb1) | (go_at_call 43; refine (hL.out _ (by exact hbw1)).mono ?_; rintro e w2 ⟨rfl, hb2⟩))
    go_ret
    exact ⟨rfl, Below.of hbw1 hb2⟩
  · obtain ⟨j, hj⟩ : ∃ j : Nat, n = -((j : Int) + 1) := ⟨(-n - 1).toNat, by omega⟩
    have hjl : j < c.latches.length := by have := H1.out; have := H2.out; omega
    clear hpos
    have hL := Lib.hid fun w1 hb => hN.out j hjl w1 hb
    rw [← hj] at hL
    have e : PC.latchT c fr n = -latL c fr j := by rw [hj, latchT_neg c fr j hjl]
    rw [e]
    clear hj e
    go_enter Try.func48, Try.ntmps48
    go_wp2_with (first | (go_at_call 42; refine (hR _ (by exact hb0)).mono ?_; rintro e w1 ⟨rfl, hb1⟩; have hbw1 := Below.of hb0 hb1; obtain ⟨q0, q1, q2, q3, q4, q5, q6, q7⟩ := hbx.out.mono hb1) | (go_at_call 43; refine (hL.out _ (by exact hbw1)).mono ?_; rintro e w2 ⟨rfl, hb2⟩))
    go_ret
    exact ⟨rfl, Below.of hbw1 hb2⟩

end Go.Proofs.Ytbjioniefalgpaa
