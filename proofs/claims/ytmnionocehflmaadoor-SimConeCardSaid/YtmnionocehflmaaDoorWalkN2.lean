/- Contract: is an and the first one of its variable? In a circuit that may be: yes. -/
import Derived.Test.YtmnionocehflmaaDoorWalkN1
namespace Go.Proofs.YtmnionocehflmaaDoor
open Go.RowKit Go.Shelf

set_option maxRecDepth 100000 in
set_option maxHeartbeats 1000000 in
theorem rfirst_any (c : PC.Circ) (vc : Value) (at_ : Nat) (w : World) (h : IsCirc w vc c) (hR : PC.Right c) (ha : at_ < c.ands.length) :
    Calls Tryd.prog 38 #[vc, .int .i64 (at_ : Int)] w fun e w' => e = .returned (.bool true) ∧ Below w.heap.size w w' := by
  obtain ⟨vi, vl, vo, vb, vv, va, vn, rfl, hp, hm⟩ := h
  obtain ⟨aa, capa, rfl, ha1, ha2, ha3⟩ := hp.ands.open_
  clear hp
  have HG := Lib.hid ha3
  clear ha3
  have HR := Lib.hid hR
  clear hR
  have hb0 : Below w.heap.size w (w.alloc (.cells #[.int .i64 c.max, vi, vl, vo, vb, vv, .slice aa c.ands.length capa, vn] 27)) := (Below.refl _ _).alloc (Nat.le_refl _) _
  have hbx0 := Lib.hid (Box8.new w (.int .i64 c.max) vi vl vo vb vv (.slice aa c.ands.length capa) vn 27)
  obtain ⟨W, hW⟩ : ∃ W, W = w.alloc (.cells #[.int .i64 c.max, vi, vl, vo, vb, vv, .slice aa c.ands.length capa, vn] 27) := ⟨_, rfl⟩
  rw [← hW] at hb0 hbx0
  have HW := Lib.hid hW
  clear hW
  go_enter Tryd.func38, Tryd.ntmps38
  go_wp2
  rw [← HW.out]
  go_loopg [5] at_ (fun gg s5 wr => ∃ k : Nat, k ≤ at_ ∧ at_ - k ≤ gg ∧ s5 = .int .i64 k ∧ Below W.heap.size W wr)
  case atStart => exact ⟨0, Nat.zero_le _, by omega, rfl, Below.refl _ _⟩
  case round =>
    obtain ⟨k, hk, hg, rfl, hbr⟩ := hrel
    have hbxr := Lib.hid (hbx0.out.mono hbr)
    by_cases hlt : k < at_
    · have hmea : ∀ g : Nat, at_ - k ≤ g → at_ - (k + 1) < g := fun g h => by omega
      obtain ⟨b, off, rfl, hbs, _, c0, _, _⟩ := HG.out k (by omega)
      obtain ⟨b2, off2, he, hbs2, _, d0, _, _⟩ := HG.out at_ ha
      cases he
      have hbwr := Below.of hb0 hbr
      have hx := HR.out.defs _ (PC.mem_defs_gat c _ (List.getElem_mem (show k < c.ands.length by omega)))
      have hz := HR.out.defs _ (PC.mem_defs_gat c _ (List.getElem_mem ha))
      have hne : c.ands[k].lit ≠ c.ands[at_].lit := by
        have hr := (PC.rising_iff c.ands).1 HR.out.rise
        have hlt' : ∀ m, k < m → (hm : m < c.ands.length) → (c.ands[k]'(by omega)).lit < c.ands[m].lit := by
          intro m
          induction m with
          | zero => intro h0; omega
          | succ m ih =>
            intro h0 hm
            have h1 := hr m hm
            by_cases e : k = m
            · subst e; exact h1
            · have := ih (by omega) (by omega)
              omega
        have := hlt' at_ hlt ha
        omega
      have c0 : ∀ y : Later wr, y.at_.cell? ⟨b, off + k * 3, none⟩ = some (.int .i64 c.ands[k].lit) := fun y => y.cell ((hbwr.cell hbs).trans c0)
      have d0 : ∀ y : Later wr, y.at_.cell? ⟨b, off + at_ * 3, none⟩ = some (.int .i64 c.ands[at_].lit) := fun y => y.cell ((hbwr.cell hbs).trans d0)
      generalize c.ands[k].lit = x at *
      generalize c.ands[at_].lit = z at *
      obtain ⟨v, rfl⟩ : ∃ v : Nat, x = 2 * (v : Int) := ⟨(x / 2).toNat, by omega⟩
      obtain ⟨u, rfl⟩ : ∃ u : Nat, z = 2 * (u : Int) := ⟨(z / 2).toNat, by omega⟩
      have hmx := HR.out.max1
      have hwv := Lib.hid (show wrap64 (v : Int) = (v : Int) by unfold wrap64; omega)
      have hwu := Lib.hid (show wrap64 (u : Int) = (u : Int) by unfold wrap64; omega)
      have hq1 : (2 * (v : Int)).tdiv 2 = (v : Int) := Int.mul_tdiv_cancel_left _ (by omega)
      have hq2 : (2 * (u : Int)).tdiv 2 = (u : Int) := Int.mul_tdiv_cancel_left _ (by omega)
      have hvu : ((v : Int) == (u : Int)) = false := by
        have : ¬ (v : Int) = (u : Int) := fun e => hne (by rw [e])
        simpa using this
      have hge : decide (0 ≤ 2 * (v : Int)) = true := decide_eq_true (by omega)
      have hltz : (k : Int) < (at_ : Int) := by omega
      have hk2 : k < c.ands.length := by omega
      have hk3 : (k : Int) < (c.ands.length : Int) := by omega
      have ha3 : (at_ : Int) < (c.ands.length : Int) := by omega
      clear hx hz hne hmx
      go_wp2_with fail
      obtain ⟨q0, q1, q2, q3, q4, q5, q6, q7⟩ := hbxr.out.later
      have hwv := hwv.out
      have hwu := hwu.out
      refine wp_region_later (by kernel_rfl) (by kernel_rfl) ?_; (repeat (go_big_quiet_step (fail))); refine wpQuiet_nil ?_; rintro w3 ⟨⟨_, hb3⟩, rfl⟩
      clear hwv hwu q0 q1 q2 q3 q4 q5 q6 q7
      go_wp2_with fail
      go_roundg (at_ - (k + 1))
      case measure => exact hmea _ hg
      case rel => exact ⟨k + 1, by omega, by omega, by go_num, Below.of hbr hb3⟩
    · have hltz : ¬ (k : Int) < (at_ : Int) := by omega
      go_wp2_with fail
      go_ret
      exact ⟨rfl, Below.of hb0 hbr⟩

end Go.Proofs.YtmnionocehflmaaDoor
