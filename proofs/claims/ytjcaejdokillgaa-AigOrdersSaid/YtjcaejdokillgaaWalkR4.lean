/- Contract: the page's names. -/
import Derived.Test.YtjcaejdokillgaaWalkR3
namespace Go.Proofs.Ytjcaejdokillgaa
open Go.RowKit Go.Shelf
attribute [local simp] mk_get

namespace PC
theorem nameOk_at (c : Circ) (x : Nam) (h : x.at_ < 0) : nameOk c x = false := by simp [nameOk]; intro h'; omega
theorem nameOk_count (c : Circ) (x : Nam) (h : count c x.kind ≤ x.at_) : nameOk c x = false := by simp [nameOk]; intro h' h''; omega
theorem nameOk_empty (c : Circ) (x : Nam) (h : x.text = []) : nameOk c x = false := by simp [nameOk, textOk, h]
theorem nameOk_long (c : Circ) (x : Nam) (h : 32 < x.text.length) : nameOk c x = false := by simp [nameOk, textOk]; intros; omega
theorem nameOk_byte (c : Circ) (x : Nam) (j : Nat) (hj : j < x.text.length) (h : x.text[j].toNat < 33 ∨ 126 < x.text[j].toNat) : nameOk c x = false := by
  rw [Bool.eq_false_iff]
  intro hh
  simp only [nameOk, textOk, Bool.and_eq_true, List.all_eq_true, decide_eq_true_eq] at hh
  have := hh.2.2 _ (List.getElem_mem hj)
  omega
theorem nameOk_all (c : Circ) (x : Nam) (h0 : 0 ≤ x.at_) (h1 : x.at_ < count c x.kind) (h2 : x.text ≠ []) (h3 : x.text.length ≤ 32)
    (h : ∀ j (hj : j < x.text.length), 33 ≤ x.text[j].toNat ∧ x.text[j].toNat ≤ 126) : nameOk c x = true := by
  simp only [nameOk, textOk, Bool.and_eq_true, List.all_eq_true, decide_eq_true_eq, Bool.not_eq_true', List.isEmpty_eq_false_iff]
  refine ⟨⟨h0, h1⟩, ⟨h2, h3⟩, fun b hb => ?_⟩
  obtain ⟨j, hj, e⟩ := List.getElem_of_mem hb
  rw [← e]; exact h j hj
end PC

set_option maxRecDepth 100000 in
set_option maxHeartbeats 4000000 in
theorem rnames_any (c : PC.Circ) (vc : Value) (w : World) (h : IsCirc w vc c) :
    Calls Try.prog 28 #[vc] w fun e w' => e = .returned (.bool (PC.namesFrom c none c.names)) ∧ Below w.heap.size w w' := by
  have hcnt : ∀ (k : List UInt8) w1, Below w.heap.size w w1 → _ := fun k w1 hb => rcount_any c vc k w1 (h.mono hb)
  obtain ⟨vi, vl, vo, vb, vv, va, vn, rfl, hp, hmax⟩ := h
  obtain ⟨an, capn, rfl, hn1, hn2, hn3⟩ := hp.names.open_
  clear hp hmax
  obtain ⟨R, hR⟩ : ∃ R, R = PC.namesFrom c none c.names := ⟨_, rfl⟩
  rw [← hR]
  rw [← PC.namesAt_zero] at hR
  have HR := Lib.hid hR
  clear hR
  go_enter Try.func28, Try.ntmps28
  go_wp2
  go_loopg [3] c.names.length (fun gg s3 wr => ∃ k : Nat, k ≤ c.names.length ∧ c.names.length - k ≤ gg ∧ s3 = .int .i64 k ∧ Below w.heap.size w wr ∧ Box8 wr w.heap.size (.int .i64 c.max) vi vl vo vb vv va (.slice an c.names.length capn) ∧ Aside (R = PC.namesAt c k))
  case atStart => exact ⟨0, Nat.zero_le _, by omega, rfl, (Below.refl _ _).alloc (Nat.le_refl _) _, Box8.new _ _ _ _ _ _ _ _ _ _, HR⟩
  case round =>
    obtain ⟨k, hk, hg, rfl, hbel, hbox, A⟩ := hrel
    clear HR
    by_cases hlt : k < c.names.length
    · have hstep := PC.namesAt_step c k hlt
      obtain ⟨b, off, han, hbs, ⟨⟨r1, r2⟩, r3, r4⟩, c0, c1, c2⟩ := hn3 k hlt
      have hprev : ¬ k = 0 → b < wr.heap.size ∧ rng (PC.before c k).at_ ∧ wr.cell? ⟨b, off + (k - 1) * 3, none⟩ = some (.string ⟨(PC.before c k).kind.toArray⟩) ∧ wr.cell? ⟨b, off + (k - 1) * 3 + 1, none⟩ = some (.int .i64 (PC.before c k).at_) ∧ wr.cell? ⟨b, off + (k - 1) * 3 + 2, none⟩ = some (.string ⟨(PC.before c k).text.toArray⟩) := by
        intro h0
        obtain ⟨b', off', e, hbs', ⟨hr, _⟩, c0, c1, c2⟩ := hn3 (k - 1) (by omega)
        rw [han] at e
        cases e
        unfold PC.before
        rw [List.getElem?_eq_getElem (by omega)]
        exact ⟨Nat.lt_of_lt_of_le hbs' hbel.size, hr, (hbel.cell hbs').trans c0, (hbel.cell hbs').trans c1, (hbel.cell hbs').trans c2⟩
      subst han
      have c0 := (hbel.cell hbs).trans c0
      have c1 := (hbel.cell hbs).trans c1
      have c2 := (hbel.cell hbs).trans c2
      clear hn3
      rw [PC.namesAt_step c k hlt] at A
      generalize c.names[k] = x at *
      generalize PC.before c k = y at *
      have hprev := Lib.hid hprev
      have hboxA := Lib.hid hbox
      obtain ⟨q0, q1, q2, q3, q4, q5, q6, q7⟩ := hbox
      have hltz : (k : Int) < (c.names.length : Int) := by omega
      go_wp2_with fail
      obtain ⟨W2, hW2⟩ : ∃ W2, W2 = wr.alloc (.cells #[.string ⟨x.kind.toArray⟩, .int .i64 x.at_, .string ⟨x.text.toArray⟩] 40) := ⟨_, rfl⟩
      rw [← hW2]
      have hb2 : Below wr.heap.size wr W2 := by rw [hW2]; exact (Below.refl _ _).alloc (Nat.le_refl _) _
      have hX : Box3 W2 wr.heap.size (.string ⟨x.kind.toArray⟩) (.int .i64 x.at_) (.string ⟨x.text.toArray⟩) := by rw [hW2]; exact Box3.new _ _ _ _ _
      clear hW2 q0 q1 q2 q3 q4 q5 q6 q7 c0 c1 c2
      have hbox2 := hboxA.out.mono hb2
      clear hboxA
      have hbel2 := Below.of hbel hb2
      generalize wr.heap.size = bx at hX ⊢
      have hcnt : ∀ x1 : Later W2, _ := fun x1 => hcnt x.kind x1.at_ (Below.of hbel2 x1.below)
      obtain ⟨l0, l1, l2, l3, l4, l5, l6, l7⟩ := hbox2.later
      obtain ⟨m0, m1, m2⟩ := hX.later
      by_cases hA : x.at_ < 0
      · refine wp_region_later (by kernel_rfl) (by kernel_rfl) ?_; (repeat (go_big_quiet_step ((go_at_call 49; exact Calls.later (hcnt _))))); refine wpQuiet_nil ?_; rintro w3 ⟨⟨_, hb3⟩, rfl⟩
        go_wp2
        go_ret
        refine ⟨?_, Below.of hbel2 hb3⟩
        rw [A.out, PC.nameOk_at c x hA]; rfl
      by_cases hB : PC.count c x.kind ≤ x.at_
      · refine wp_region_later (by kernel_rfl) (by kernel_rfl) ?_; (repeat (go_big_quiet_step ((go_at_call 49; exact Calls.later (hcnt _))))); refine wpQuiet_nil ?_; rintro w3 ⟨⟨_, hb3⟩, rfl⟩
        go_wp2
        go_ret
        refine ⟨?_, Below.of hbel2 hb3⟩
        rw [A.out, PC.nameOk_count c x hB]; rfl
      have hB' : x.at_ < PC.count c x.kind := by omega
      by_cases hC : x.text = []
      · have hCb : (x.text == []) = true := by simpa using hC
        refine wp_region_later (by kernel_rfl) (by kernel_rfl) ?_; (repeat (go_big_quiet_step ((go_at_call 49; exact Calls.later (hcnt _))))); refine wpQuiet_nil ?_; rintro w3 ⟨⟨_, hb3⟩, rfl⟩
        go_wp2
        go_ret
        refine ⟨?_, Below.of hbel2 hb3⟩
        rw [A.out, PC.nameOk_empty c x hC]; rfl
      by_cases hD : 32 < x.text.length
      · have hCb : (x.text == []) = false := by simpa using hC
        refine wp_region_later (by kernel_rfl) (by kernel_rfl) ?_; (repeat (go_big_quiet_step ((go_at_call 49; exact Calls.later (hcnt _))))); refine wpQuiet_nil ?_; rintro w3 ⟨⟨_, hb3⟩, rfl⟩
        go_wp2
        go_ret
        refine ⟨?_, Below.of hbel2 hb3⟩
        rw [A.out, PC.nameOk_long c x hD]; rfl
      have hCb : (x.text == []) = false := by simpa using hC
      refine wp_region_later (by kernel_rfl) (by kernel_rfl) ?_; (repeat (go_big_quiet_step ((go_at_call 49; exact Calls.later (hcnt _))))); refine wpQuiet_nil ?_; rintro w3 ⟨⟨_, hb3⟩, rfl⟩
      clear hcnt l0 l1 l2 l3 l4 l5 l6 l7 m0 m1 m2
      have hbox3 := Lib.hid (hbox2.mono hb3)
      have hX3 := hX.mono hb3
      have hX3' := Lib.hid hX3
      clear hX hbox2
      have hbel3 := Below.of hbel2 hb3
      have hpr3 : Hid (¬ k = 0 → b < w3.heap.size ∧ rng y.at_ ∧ w3.cell? ⟨b, off + (k - 1) * 3, none⟩ = some (.string ⟨y.kind.toArray⟩) ∧ w3.cell? ⟨b, off + (k - 1) * 3 + 1, none⟩ = some (.int .i64 y.at_) ∧ w3.cell? ⟨b, off + (k - 1) * 3 + 2, none⟩ = some (.string ⟨y.text.toArray⟩)) := by
        intro h0
        obtain ⟨g0, g1, g2, g3, g4⟩ := hprev.out h0
        have hb23 := Below.of hb2 hb3
        exact ⟨Nat.lt_of_lt_of_le g0 hb23.size, g1, (hb23.cell g0).trans g2, (hb23.cell g0).trans g3, (hb23.cell g0).trans g4⟩
      clear hprev hb2 hbel2 hb3
      obtain ⟨n0, n1, n2⟩ := hX3
      go_wp2_with fail
      go_loopg [5] x.text.length (fun gg s5 w4 => ∃ j : Nat, j ≤ x.text.length ∧ x.text.length - j ≤ gg ∧ s5 = .int .i64 j ∧ w3 = w4 ∧ Aside (∀ i (hi : i < j) (h : i < x.text.length), 33 ≤ x.text[i].toNat ∧ x.text[i].toNat ≤ 126))
      case atStart => exact ⟨0, Nat.zero_le _, by omega, rfl, rfl, fun j hj => absurd hj (Nat.not_lt_zero _)⟩
      case round =>
        obtain ⟨j, hj, hgj, rfl, rfl, T⟩ := hrel
        by_cases hjt : j < x.text.length
        · have hjz : (j : Int) < (x.text.length : Int) := by omega
          obtain ⟨z, hz⟩ : ∃ z, z = x.text[j].toNat := ⟨_, rfl⟩
          have HZ := Lib.hid hz
          by_cases hlo : z < 33
          · have hlo' : (x.text[j].toNat : Int) < 33 := by omega
            clear hz
            go_wp2
            go_ret
            refine ⟨?_, hbel3⟩
            rw [A.out, PC.nameOk_byte c x j hjt (by have := HZ.out; omega)]; rfl
          · by_cases hhi : 126 < z
            · have hlo' : ¬ (x.text[j].toNat : Int) < 33 := by omega
              have hhi' : 126 < (x.text[j].toNat : Int) := by omega
              clear hz
              go_wp2
              go_ret
              refine ⟨?_, hbel3⟩
              rw [A.out, PC.nameOk_byte c x j hjt (by have := HZ.out; omega)]; rfl
            · have hlo' : ¬ (x.text[j].toNat : Int) < 33 := by omega
              have hhi' : ¬ 126 < (x.text[j].toNat : Int) := by omega
              clear hz
              go_wp2
              go_roundg (x.text.length - (j + 1))
              case measure => omega
              case rel =>
                refine ⟨j + 1, by omega, by omega, by go_num, rfl, (show Aside _ from fun i hi h => ?_)⟩
                by_cases e : i = j
                · subst e; have := HZ.out; omega
                · exact T.out i (by omega) h
        · have hjz : ¬ (j : Int) < (x.text.length : Int) := by omega
          have hok := Lib.hid (PC.nameOk_all c x (by omega) hB' hC (by omega) fun i hi => T.out i (by omega) hi)
          clear T
          by_cases h0 : k = 0
          · subst h0
            go_wp2
            go_roundg (c.names.length - (0 + 1))
            case measure => omega
            case rel => exact ⟨0 + 1, by omega, by omega, by go_num, hbel3, hbox3.out, by have := A.out; rw [hok.out] at this; simpa [Aside] using this⟩
          · have hkp : 0 < (k : Int) := by omega
            obtain ⟨g0, _, g2, g3, g4⟩ := hpr3.out h0
            obtain ⟨q0, q1, q2, q3, q4, q5, q6, q7⟩ := hbox3.out
            go_wp2_with fail
            obtain ⟨W4, hW4⟩ : ∃ W4, W4 = w3.alloc (.cells #[.string ⟨y.kind.toArray⟩, .int .i64 y.at_, .string ⟨y.text.toArray⟩] 40) := ⟨_, rfl⟩
            rw [← hW4]
            have hb4 : Below w3.heap.size w3 W4 := by rw [hW4]; exact (Below.refl _ _).alloc (Nat.le_refl _) _
            have hY : Box3 W4 w3.heap.size (.string ⟨y.kind.toArray⟩) (.int .i64 y.at_) (.string ⟨y.text.toArray⟩) := by rw [hW4]; exact Box3.new _ _ _ _ _
            clear hW4 q0 q1 q2 q3 q4 q5 q6 q7 g0 g2 g3 g4 n0 n1 n2
            have hX4 := hX3'.out.mono hb4
            have hbel4 := Below.of hbel3 hb4
            generalize w3.heap.size = by_ at hY ⊢
            obtain ⟨m0, m1, m2⟩ := hX4.later
            obtain ⟨m3, m4, m5⟩ := hY.later
            have hA' : R = (PC.ahead y x && PC.namesAt c (k + 1)) := by
              have := A.out; rw [hok.out] at this; simpa [h0] using this
            have A' := Lib.hid hA'
            clear hA' A
            clear hX4 hY
            by_cases hgt : PC.rank x.kind < PC.rank y.kind
            · refine wp_region_later (by kernel_rfl) (by kernel_rfl) ?_; (repeat (go_big_quiet_step ((go_at_call 50; exact Calls.later (rrank_any _ _))))); refine wpQuiet_nil ?_; rintro w3 ⟨⟨_, hb3⟩, rfl⟩
              go_wp2
              go_ret
              refine ⟨?_, Below.of hbel4 hb3⟩
              have : PC.ahead y x = false := by unfold PC.ahead; rw [decide_eq_true hgt]; rfl
              rw [A'.out, this]; rfl
            · cases heq : (y.kind == x.kind) with
              | false =>
                refine wp_region_later (by kernel_rfl) (by kernel_rfl) ?_; (repeat (go_big_quiet_step ((go_at_call 50; exact Calls.later (rrank_any _ _))))); refine wpQuiet_nil ?_; rintro w3 ⟨⟨_, hb3⟩, rfl⟩
                go_wp2
                go_roundg (c.names.length - (k + 1))
                case measure => omega
                case rel =>
                  have : PC.ahead y x = true := by
                    unfold PC.ahead
                    have e : ¬ y.kind = x.kind := by simpa using heq
                    rw [decide_eq_false (show ¬ PC.rank x.kind < PC.rank y.kind by omega), decide_eq_false e]; rfl
                  exact ⟨k + 1, by omega, by omega, by go_num, Below.of hbel4 hb3, (hbox3.out.mono hb4).mono hb3, by have t := A'.out; rw [this] at t; simpa [Aside] using t⟩
              | true =>
                have e : y.kind = x.kind := by simpa using heq
                have E := Lib.hid e
                clear e
                by_cases hat : x.at_ ≤ y.at_
                · refine wp_region_later (by kernel_rfl) (by kernel_rfl) ?_; (repeat (go_big_quiet_step ((go_at_call 50; exact Calls.later (rrank_any _ _))))); refine wpQuiet_nil ?_; rintro w3 ⟨⟨_, hb3⟩, rfl⟩
                  go_wp2
                  go_ret
                  refine ⟨?_, Below.of hbel4 hb3⟩
                  have : PC.ahead y x = false := by unfold PC.ahead; rw [decide_eq_false (show ¬ PC.rank x.kind < PC.rank y.kind by omega), decide_eq_true E.out, decide_eq_true (show x.at_ ≤ y.at_ by omega)]; rfl
                  rw [A'.out, this]; rfl
                · refine wp_region_later (by kernel_rfl) (by kernel_rfl) ?_; (repeat (go_big_quiet_step ((go_at_call 50; exact Calls.later (rrank_any _ _))))); refine wpQuiet_nil ?_; rintro w3 ⟨⟨_, hb3⟩, rfl⟩
                  go_wp2
                  go_roundg (c.names.length - (k + 1))
                  case measure => omega
                  case rel =>
                    have : PC.ahead y x = true := by
                      unfold PC.ahead
                      rw [decide_eq_false (show ¬ PC.rank x.kind < PC.rank y.kind by omega), decide_eq_true E.out, decide_eq_false (show ¬ x.at_ ≤ y.at_ by omega)]; rfl
                    exact ⟨k + 1, by omega, by omega, by go_num, Below.of hbel4 hb3, (hbox3.out.mono hb4).mono hb3, by have t := A'.out; rw [this] at t; simpa [Aside] using t⟩
    · have hltz : ¬ (k : Int) < (c.names.length : Int) := by omega
      obtain ⟨q0, q1, q2, q3, q4, q5, q6, q7⟩ := hbox
      go_wp2
      go_ret
      obtain rfl : k = c.names.length := by omega
      refine ⟨?_, hbel⟩
      have := A.out
      rw [PC.namesAt_end] at this
      rw [this]; rfl

end Go.Proofs.Ytjcaejdokillgaa
