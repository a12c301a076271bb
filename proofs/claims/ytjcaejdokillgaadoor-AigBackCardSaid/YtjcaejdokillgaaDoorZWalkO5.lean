/- Contracts: the page's look whether a circuit is in order. -/
import Derived.Test.YtjcaejdokillgaaDoorZWalkR5
import Derived.Test.YtjcaejdokillgaaDoorZP3
import Derived.Test.YtjcaejdokillgaaDoorZL1
import Derived.BigRegion
import Derived.Deep.QuietTactic
namespace Go.Proofs.YtjcaejdokillgaaDoor
open Go.RowKit Go.Shelf
attribute [local simp] mk_get

set_option maxRecDepth 100000 in
set_option maxHeartbeats 8000000 in
theorem ordered05_any (c : PC.Circ) (vc : Value) (w : World) (h : IsCirc w vc c) (hf : c.ands.length * 8 ≤ 140737488351232) :
    Calls Tryd.prog 22 #[vc] w fun e w' => e = .returned (.bool (PA.ordered c)) ∧ Below w.heap.size w w' := by
  have hRC := Lib.hid fun y (hy : Below w.heap.size w y) => rCheck_any c vc y (h.mono hy) hf
  rw [PA.ordered_eq]
  obtain ⟨vi, vl, vo, vb, vv, va, vn, rfl, hp, hm⟩ := h
  obtain ⟨ai, capi, rfl, hi1, hi2, hi3⟩ := hp.inputs.open_
  obtain ⟨al, capl, rfl, hl1, hl2, hl3⟩ := hp.latches.open_
  obtain ⟨aa, capa, rfl, ha1, ha2, ha3⟩ := hp.ands.open_
  have HI := Lib.hid hi3
  have HL := Lib.hid hl3
  have HN := Lib.hid ha3
  clear hp hi3 hl3 ha3
  have hbx := Lib.hid (Box8.new w (.int .i64 c.max) (.slice ai c.inputs.length capi) (.slice al c.latches.length capl) vo vb vv (.slice aa c.ands.length capa) vn 27)
  have hb0 := Lib.hid ((Below.refl w.heap.size w).alloc (Nat.le_refl _) (.cells #[.int .i64 c.max, .slice ai c.inputs.length capi, .slice al c.latches.length capl, vo, vb, vv, .slice aa c.ands.length capa, vn] 27))
  obtain ⟨q0, q1, q2, q3, q4, q5, q6, q7⟩ := hbx.out
  cases hck : PC.chk c with
  | false =>
    rw [hck] at hRC
    clear hck
    go_enter Tryd.func22, Tryd.ntmps22
    go_wp2_with fail
    refine (hRC.out _ hb0.out).mono ?_
    rintro e w1 ⟨rfl, hb1⟩
    clear q0 q1 q2 q3 q4 q5 q6 q7
    go_wp2_with fail
    go_ret
    exact ⟨rfl, Below.of hb0.out hb1⟩
  | true =>
    rw [hck] at hRC
    have hR := PC.right_of c hck
    have hil := hR.ins
    have hll := hR.lats
    have hal := PC.ands_len c hR
    have hiff := Lib.hid (PA.gapless_iff c)
    obtain ⟨R, hRe⟩ : ∃ R, R = PA.gapless c := ⟨_, rfl⟩
    rw [← hRe] at hiff ⊢
    clear hRe hck hR
    go_enter Tryd.func22, Tryd.ntmps22
    go_wp2_with fail
    refine (hRC.out _ hb0.out).mono ?_
    rintro e X ⟨rfl, hb1⟩
    clear q0 q1 q2 q3 q4 q5 q6 q7
    have HB := Lib.hid (Below.of hb0.out hb1)
    have HBX := Lib.hid (hbx.out.mono hb1)
    clear hb1 hb0 hbx hRC
    go_wp2_with fail
    go_loopg [3, 4] c.inputs.length (fun gg s3 s4 wr => ∃ k : Nat, k ≤ c.inputs.length ∧ c.inputs.length - k ≤ gg ∧ s3 = .int .i64 k ∧ s4 = .int .i64 k ∧ X = wr ∧ Aside (∀ j (_ : j < k) (h : j < c.inputs.length), c.inputs[j] = 2 * ((j : Int) + 1)))
    case atStart => exact ⟨0, Nat.zero_le _, by omega, rfl, rfl, rfl, fun j hj => absurd hj (Nat.not_lt_zero _)⟩
    case round =>
      obtain ⟨k, hk, hg, rfl, rfl, rfl, hA⟩ := hrel
      obtain ⟨q0, q1, q2, q3, q4, q5, q6, q7⟩ := HBX.out
      by_cases hlt : k < c.inputs.length
      · obtain ⟨b', off, rfl, hbs, hry, hc⟩ := HI.out k hlt
        have hmea : ∀ g : Nat, c.inputs.length - k ≤ g → c.inputs.length - (k + 1) < g := fun g h => by omega
        have hc := (HB.out.cell hbs).trans hc
        have hltz : (k : Int) < (c.inputs.length : Int) := by omega
        generalize hx : c.inputs[k] = x at *
        by_cases he : x = 2 * ((k : Int) + 1)
        · have heb : (x != 2 * ((k : Int) + 1)) = false := by rw [bne_eq_false_iff_eq]; exact he
          have hX := Lib.hid (hx.trans he)
          clear hx he
          go_wp2_with fail
          go_roundg (c.inputs.length - (k + 1))
          case measure => exact hmea _ hg
          case rel =>
            refine ⟨k + 1, by omega, by omega, by go_num, by go_num, rfl, (show Aside _ from fun j hj h => ?_)⟩
            by_cases e : j = k
            · subst e; exact hX.out
            · exact hA.out j (by omega) h
        · have heb : (x != 2 * ((k : Int) + 1)) = true := by rw [bne_iff_ne]; exact he
          have hF : R = false := by
            rw [Bool.eq_false_iff]
            intro hr
            exact he (hx.symm.trans ((hiff.out.1 hr).1 k hlt))
          clear hiff hx he
          subst hF
          go_wp2_with fail
          go_ret
          exact ⟨rfl, HB.out⟩
      · have hltz : ¬ (k : Int) < (c.inputs.length : Int) := by omega
        obtain rfl : k = c.inputs.length := by omega
        have hI := Lib.hid hA
        clear hA hg hk hlt
        go_wp2_with fail
        clear hltz
        go_loopg [3, 5] c.latches.length (fun gg s3 s5 wr => ∃ k : Nat, k ≤ c.latches.length ∧ c.latches.length - k ≤ gg ∧ s3 = .int .i64 ((c.inputs.length : Int) + k) ∧ s5 = .int .i64 k ∧ X = wr ∧ Aside (∀ j (_ : j < k) (h : j < c.latches.length), c.latches[j].lit = 2 * ((c.inputs.length : Int) + j + 1)))
        case atStart => exact ⟨0, Nat.zero_le _, by omega, by simp, rfl, rfl, fun j hj => absurd hj (Nat.not_lt_zero _)⟩
        case round =>
          obtain ⟨k, hk, hg, rfl, rfl, rfl, hA⟩ := hrel
          by_cases hlt : k < c.latches.length
          · obtain ⟨b', off, rfl, hbs, ⟨hr0, hr1, hr2⟩, c0, c1, c2⟩ := HL.out k hlt
            have hmea : ∀ g : Nat, c.latches.length - k ≤ g → c.latches.length - (k + 1) < g := fun g h => by omega
            have c0 := (HB.out.cell hbs).trans c0
            have hltz : (k : Int) < (c.latches.length : Int) := by omega
            generalize hx : c.latches[k].lit = x at *
            clear c1 c2
            by_cases he : x = 2 * ((c.inputs.length : Int) + k + 1)
            · have heb : (x != 2 * ((c.inputs.length : Int) + k + 1)) = false := by rw [bne_eq_false_iff_eq]; exact he
              have hX := Lib.hid (hx.trans he)
              clear hx he
              go_wp2_with fail
              go_roundg (c.latches.length - (k + 1))
              case measure => exact hmea _ hg
              case rel =>
                refine ⟨k + 1, by omega, by omega, by go_num, by go_num, rfl, (show Aside _ from fun j hj h => ?_)⟩
                by_cases e : j = k
                · subst e; exact hX.out
                · exact hA.out j (by omega) h
            · have heb : (x != 2 * ((c.inputs.length : Int) + k + 1)) = true := by rw [bne_iff_ne]; exact he
              have hF : R = false := by
                rw [Bool.eq_false_iff]
                intro hr
                exact he (hx.symm.trans ((hiff.out.1 hr).2.1 k hlt))
              clear hiff hx he
              subst hF
              go_wp2_with fail
              go_ret
              exact ⟨rfl, HB.out⟩
          · have hltz : ¬ (k : Int) < (c.latches.length : Int) := by omega
            obtain rfl : k = c.latches.length := by omega
            have hLt := Lib.hid hA
            clear hA hg hk hlt
            go_wp2_with fail
            clear hltz q0 q1 q2 q3 q4 q5 q6 q7
            go_loopg [3, 6] c.ands.length (fun gg s3 s6 wr => ∃ k : Nat, k ≤ c.ands.length ∧ c.ands.length - k ≤ gg ∧ s3 = .int .i64 ((c.inputs.length : Int) + c.latches.length + k) ∧ s6 = .int .i64 k ∧ Hid (Below X.heap.size X wr) ∧ Aside (∀ j (_ : j < k) (h : j < c.ands.length), c.ands[j].lit = 2 * ((c.inputs.length : Int) + c.latches.length + j + 1) ∧ c.ands[j].right ≤ c.ands[j].left))
            case atStart => exact ⟨0, Nat.zero_le _, by omega, by simp, rfl, Below.refl _ _, fun j hj => absurd hj (Nat.not_lt_zero _)⟩
            case round =>
              obtain ⟨k, hk, hg, rfl, rfl, hbr, hA⟩ := hrel
              obtain ⟨q0, q1, q2, q3, q4, q5, q6, q7⟩ := HBX.out.mono hbr.out
              have hBw := Lib.hid (Below.of HB.out hbr.out)
              by_cases hlt : k < c.ands.length
              · obtain ⟨b', off, rfl, hbs, ⟨hr0, hr1, hr2⟩, c0, c1, c2⟩ := HN.out k hlt
                have hmea : ∀ g : Nat, c.ands.length - k ≤ g → c.ands.length - (k + 1) < g := fun g h => by omega
                obtain ⟨Q, hQ⟩ : ∃ Q, Q = wr := ⟨_, rfl⟩
                subst hQ
                have l0 : ∀ x : Later Q, _ := fun x => ((Below.of hBw.out x.below).cell hbs).trans c0
                have l1 : ∀ x : Later Q, _ := fun x => ((Below.of hBw.out x.below).cell hbs).trans c1
                have l2 : ∀ x : Later Q, _ := fun x => ((Below.of hBw.out x.below).cell hbs).trans c2
                have l6 : ∀ x : Later Q, x.at_.cell? ⟨w.heap.size, 6, none⟩ = some (.slice (some ⟨b', off, none⟩) c.ands.length capa) := fun x => (HBX.out.mono (Below.of hbr.out x.below)).2.2.2.2.2.2.1
                have hltz : (k : Int) < (c.ands.length : Int) := by omega
                generalize hx : c.ands[k].lit = x at *
                generalize hxl : c.ands[k].left = xl at *
                generalize hxr : c.ands[k].right = xr at *
                clear c0 c1 c2
                by_cases he : x = 2 * ((c.inputs.length : Int) + c.latches.length + k + 1)
                · have heb : (x != 2 * ((c.inputs.length : Int) + c.latches.length + k + 1)) = false := by rw [bne_eq_false_iff_eq]; exact he
                  by_cases hlr : xl < xr
                  · have hdb : decide (xl < xr) = true := by simpa using hlr
                    have hF : R = false := by
                      rw [Bool.eq_false_iff]
                      intro hr
                      have := ((hiff.out.1 hr).2.2.1 k hlt).2
                      omega
                    clear hiff hx he hxl hxr
                    subst hF
                    go_wp2_with fail
                    refine wp_region_later (by kernel_rfl) (by kernel_rfl) ?_; (repeat (go_big_quiet_step ((fail)))); refine wpQuiet_nil ?_; rintro w3 ⟨⟨_, hb3⟩, rfl⟩
                    go_wp2_with fail
                    go_ret
                    exact ⟨rfl, Below.of hBw.out hb3⟩
                  · have hdb : decide (xl < xr) = false := by simpa using hlr
                    have hX : Hid (c.ands[k].lit = 2 * ((c.inputs.length : Int) + c.latches.length + k + 1) ∧ c.ands[k].right ≤ c.ands[k].left) := ⟨hx.trans he, by omega⟩
                    clear hx he hxl hxr
                    go_wp2_with fail
                    refine wp_region_later (by kernel_rfl) (by kernel_rfl) ?_; (repeat (go_big_quiet_step ((fail)))); refine wpQuiet_nil ?_; rintro w3 ⟨⟨_, hb3⟩, rfl⟩
                    have hb6 : Hid (Below X.heap.size X w3) := Below.of hbr.out hb3
                    clear l0 l1 l2 l6
                    go_wp2_with fail
                    go_roundg (c.ands.length - (k + 1))
                    case measure => exact hmea _ hg
                    case rel =>
                      refine ⟨k + 1, by omega, by omega, by go_num, by go_num, hb6, (show Aside _ from fun j hj h => ?_)⟩
                      by_cases e : j = k
                      · subst e; exact hX.out
                      · exact hA.out j (by omega) h
                · have heb : (x != 2 * ((c.inputs.length : Int) + c.latches.length + k + 1)) = true := by rw [bne_iff_ne]; exact he
                  have hF : R = false := by
                    rw [Bool.eq_false_iff]
                    intro hr
                    exact he (hx.symm.trans ((hiff.out.1 hr).2.2.1 k hlt).1)
                  clear hiff hx he hxl hxr
                  subst hF
                  go_wp2_with fail
                  refine wp_region_later (by kernel_rfl) (by kernel_rfl) ?_; (repeat (go_big_quiet_step ((fail)))); refine wpQuiet_nil ?_; rintro w3 ⟨⟨_, hb3⟩, rfl⟩
                  go_wp2_with fail
                  go_ret
                  exact ⟨rfl, Below.of hBw.out hb3⟩
              · have hltz : ¬ (k : Int) < (c.ands.length : Int) := by omega
                obtain rfl : k = c.ands.length := by omega
                have hRe : Hid (R = ((c.inputs.length : Int) + c.latches.length + c.ands.length == c.max)) := by
                  show _ = _
                  rw [Bool.eq_iff_iff, hiff.out, beq_iff_eq]
                  exact ⟨fun h => h.2.2.2.symm, fun h => ⟨fun j hj => hI.out j (by omega) hj, fun j hj => hLt.out j (by omega) hj, fun j hj => hA.out j (by omega) hj, h.symm⟩⟩
                clear hiff hg hk hlt
                go_wp2_with fail
                go_ret
                exact ⟨by rw [hRe.out]; rfl, hBw.out⟩

/-! ### circuits of one content -/
set_option maxHeartbeats 1000000 in
theorem sameInts_eq (l : List Int) (va vb : Value) (w : World) (ha : Ints w va l) (hb : Ints w vb l) :
    Calls Tryd.prog 38 #[va, vb] w fun e w' => e = .returned (.bool true) ∧ Below w.heap.size w w' := by
  obtain ⟨aa, capa, rfl, a1, a2, a3⟩ := ha.open_
  obtain ⟨ab, capb, rfl, b1, b2, b3⟩ := hb.open_
  have HA := Lib.hid a3
  have HB := Lib.hid b3
  have hne : ((l.length : Int) != (l.length : Int)) = false := by simp
  clear ha hb a3 b3
  go_enter Tryd.func38, Tryd.ntmps38
  go_wp2_with fail
  go_loopg [5] l.length (fun gg s5 wr => ∃ k : Nat, k ≤ l.length ∧ l.length - k ≤ gg ∧ s5 = .int .i64 k ∧ Hid (Below w.heap.size w wr))
  case atStart => exact ⟨0, Nat.zero_le _, by omega, rfl, Below.refl _ _⟩
  case round =>
    obtain ⟨k, hk, hg, rfl, hbr⟩ := hrel
    by_cases hlt : k < l.length
    · obtain ⟨b', off, rfl, hbs, _, c0⟩ := HA.out k hlt
      obtain ⟨b'', off', rfl, hbs', _, c1⟩ := HB.out k hlt
      have hmea : ∀ g : Nat, l.length - k ≤ g → l.length - (k + 1) < g := fun g h => by omega
      have hltz : (k : Int) < (l.length : Int) := by omega
      have l0 : ∀ x : Later wr, _ := fun x => ((Below.of hbr.out x.below).cell hbs).trans c0
      have l1 : ∀ x : Later wr, _ := fun x => ((Below.of hbr.out x.below).cell hbs').trans c1
      generalize l[k] = x at *
      have hx : (x != x) = false := by simp
      clear c0 c1
      go_wp2_with fail
      refine wp_region_later (by kernel_rfl) (by kernel_rfl) ?_; (repeat (go_big_quiet_step ((fail)))); refine wpQuiet_nil ?_; rintro w3 ⟨⟨_, hb3⟩, rfl⟩
      have hb6 : Hid (Below w.heap.size w w3) := Below.of hbr.out hb3
      clear l0 l1
      go_wp2_with fail
      go_roundg (l.length - (k + 1))
      case measure => exact hmea _ hg
      case rel => exact ⟨k + 1, by omega, by omega, by go_num, hb6⟩
    · have hltz : ¬ (k : Int) < (l.length : Int) := by omega
      obtain rfl : k = l.length := by omega
      go_wp2_with fail
      go_ret
      exact ⟨rfl, hbr.out⟩

end Go.Proofs.YtjcaejdokillgaaDoor
