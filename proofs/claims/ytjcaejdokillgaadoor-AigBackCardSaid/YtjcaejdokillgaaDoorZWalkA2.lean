/- Contracts: is a circuit in order? -/
import Derived.Test.YtjcaejdokillgaaDoorZC6
import Derived.Test.YtjcaejdokillgaaDoorZP3
import Derived.Test.YtjcaejdokillgaaDoorZL1
namespace Go.Proofs.YtjcaejdokillgaaDoor
open Go.RowKit Go.Shelf
attribute [local simp] mk_get

theorem litsMake_no (v : Int) (w : World) (h0 : 0 ≤ v) (h1 : v ≤ 1000000) : Calls Tryd.prog 115 #[.int .i64 v, .bool false] w fun e w' => e = .returned (.int .i64 (2 * v)) ∧ w = w' := by
  have h2 : ¬ v < 0 := by omega
  have h3 : ¬ v > 1099511627776 := by omega
  go_enter Tryd.func115, Tryd.ntmps115
  go_wp2
  go_ret
  exact ⟨rfl, rfl⟩

/-- the counter in its block -/
def Cnt (g : Nat) (v : Int) (w : World) : Prop := w.cell? ⟨g, 0, none⟩ = some (.int .i64 v) ∧ w.frozen? ⟨g, 0, none⟩ = false

theorem gap1_any (g : Nat) (v l : Int) (w : World) (h : Cnt g v w) (h0 : 0 ≤ v) (h1 : v ≤ 100000) :
    Calls Tryd.prog 114 #[.int .i64 l, .pointer (some ⟨g, 0, none⟩)] w fun e w' => e = .returned (.bool (l == 2 * (v + 1))) ∧ w' = w.setCell ⟨g, 0, none⟩ (.int .i64 (v + 1)) := by
  obtain ⟨hc, hf⟩ := h
  have hb1 : v + 1 ≤ 9223372036854775807 := by omega
  have hb2 : -9223372036854775808 ≤ v + 1 := by omega
  have hM := Lib.hid fun w => litsMake_no (v + 1) w (by omega) (by omega)
  have hc2 : (w.setCell ⟨g, 0, none⟩ (.int .i64 (v + 1))).cell? ⟨g, 0, none⟩ = some (.int .i64 (v + 1)) := World.cell?_setCell_same' _ _ _ (by rw [hc]; rfl)
  go_enter Tryd.func114, Tryd.ntmps114
  go_wp2_with (go_at_call 115; refine (hM.out _).mono ?_; rintro e w2 ⟨rfl, rfl⟩)
  go_ret
  exact ⟨rfl, rfl⟩

theorem cell_far (w : World) (p q : Addr) (v : Value) (h : p.block ≠ q.block) : (w.setCell p v).cell? q = w.cell? q := by
  apply World.cell?_setCell_other
  intro e
  exact h (congrArg Addr.block e)

theorem Cnt.below {g : Nat} {v : Int} {w w' : World} (h : Cnt g v w) (hb : Below w.heap.size w w') : Cnt g v w' := by
  have hl := World.block_lt_of_cell? w _ h.1
  exact ⟨(hb.cell hl).trans h.1, (hb.frozen hl).trans h.2⟩
theorem Cnt.set {g : Nat} {v : Int} {w : World} (h : Cnt g v w) (u : Int) : Cnt g u (w.setCell ⟨g, 0, none⟩ (.int .i64 u)) := by
  refine ⟨World.cell?_setCell_same' _ _ _ (by rw [h.1]; rfl), ?_⟩
  rw [World.frozen?_setCell]
  exact h.2

set_option maxRecDepth 100000 in
set_option maxHeartbeats 8000000 in
theorem aGap_any (c : PC.Circ) (vc : Value) (w : World) (h : IsCirc w vc c) (hR : PC.Right c) :
    Calls Tryd.prog 88 #[vc] w fun e w' => e = .returned (.bool (!PA.gapless c)) ∧ Below w.heap.size w w' := by
  have hmf : ∀ (fn : Fn) (first cap : Array Value) (w : World), (Instr.makeFunc fn first cap).run Tryd.prog w = .ok (.func fn first cap) w := fun _ _ _ _ => rfl
  have hal := PC.ands_len c hR
  have hil := hR.ins
  have hll := hR.lats
  have hiff := Lib.hid (PA.gapless_iff c)
  obtain ⟨R, hRe⟩ : ∃ R, R = PA.gapless c := ⟨_, rfl⟩
  rw [← hRe] at hiff ⊢
  clear hRe
  obtain ⟨vi, vl, vo, vb, vv, va, vn, rfl, hp, hm⟩ := h
  obtain ⟨ai, capi, rfl, hi1, hi2, hi3⟩ := hp.inputs.open_
  obtain ⟨al, capl, rfl, hl1, hl2, hl3⟩ := hp.latches.open_
  obtain ⟨aa, capa, rfl, ha1, ha2, ha3⟩ := hp.ands.open_
  have HI := Lib.hid hi3
  have HL := Lib.hid hl3
  have HN := Lib.hid ha3
  clear hp hi3 hl3 ha3
  have hbx := Box8.new w (.int .i64 c.max) (.slice ai c.inputs.length capi) (.slice al c.latches.length capl) vo vb vv (.slice aa c.ands.length capa) vn 27
  have hb0 : Below w.heap.size w (w.alloc (.cells #[.int .i64 c.max, .slice ai c.inputs.length capi, .slice al c.latches.length capl, vo, vb, vv, .slice aa c.ands.length capa, vn] 27)) := (Below.refl _ _).alloc (Nat.le_refl _) _
  obtain ⟨W, hW⟩ : ∃ W, W = w.alloc (.cells #[.int .i64 c.max, .slice ai c.inputs.length capi, .slice al c.latches.length capl, vo, vb, vv, .slice aa c.ands.length capa, vn] 27) := ⟨_, rfl⟩
  rw [← hW] at hbx hb0
  have hWs : W.heap.size = w.heap.size + 1 := by rw [hW]; simp
  have HW := Lib.hid hW
  clear hW
  have HBX := Lib.hid hbx
  have HB0 := Lib.hid hb0
  clear hbx hb0
  have hC0 : Hid (Cnt (w.heap.size + 1) 0 (W.alloc (.cells #[.int .i64 0] 3))) := by rw [← hWs]; exact ⟨by simp [go_sem], by simp [go_sem]⟩
  have hb1 : Hid (Below (w.heap.size + 1) W (W.alloc (.cells #[.int .i64 0] 3))) := (Below.refl _ _).alloc (by omega) _
  go_enter Tryd.func88, Tryd.ntmps88
  go_wp2_with fail
  go_loopg [15] c.inputs.length (fun gg s15 wr => ∃ k : Nat, k ≤ c.inputs.length ∧ c.inputs.length - k ≤ gg ∧ s15 = .int .i64 k ∧ Hid (Below (w.heap.size + 1) W wr) ∧ Hid (Cnt (w.heap.size + 1) k wr) ∧ Aside (∀ j (_ : j < k) (h : j < c.inputs.length), c.inputs[j] = 2 * ((j : Int) + 1)))
  case atStart => exact ⟨0, Nat.zero_le _, by omega, rfl, by rw [← HW.out]; exact hb1.out, by rw [← HW.out]; exact hC0.out, fun j hj => absurd hj (Nat.not_lt_zero _)⟩
  case round =>
    obtain ⟨k, hk, hg, rfl, hbr, hcn, hA⟩ := hrel
    have HBw := Lib.hid (Below.of HB0.out (hbr.out.mono (by omega)))
    obtain ⟨q0, q1, q2, q3, q4, q5, q6, q7⟩ := HBX.out.mono (by rw [hWs]; exact hbr.out)
    by_cases hlt : k < c.inputs.length
    · obtain ⟨b', off, rfl, hbs, hry, hc⟩ := HI.out k hlt
      have hmea : ∀ g : Nat, c.inputs.length - k ≤ g → c.inputs.length - (k + 1) < g := fun g h => by omega
      have hc := (HBw.out.cell hbs).trans hc
      have hltz : (k : Int) < (c.inputs.length : Int) := by omega
      generalize hx : c.inputs[k] = x at *
      have hG := Lib.hid (gap1_any (w.heap.size + 1) k x wr hcn.out (by omega) (by omega))
      by_cases he : x = 2 * ((k : Int) + 1)
      · have heb : (x == 2 * ((k : Int) + 1)) = true := by simpa using he
        rw [heb] at hG
        have hbn : Hid (Below (w.heap.size + 1) W (wr.setCell ⟨w.heap.size + 1, 0, none⟩ (.int .i64 ((k : Int) + 1)))) := hbr.out.setCell (p := ⟨w.heap.size + 1, 0, none⟩) (Nat.le_refl _) _
        have hcn2 := Lib.hid (hcn.out.set ((k : Int) + 1))
        have hX := Lib.hid (hx.trans he)
        clear hx he
        go_wp2_with (go_at_call 114; refine hG.out.mono ?_; rintro e w5 ⟨rfl, rfl⟩)
        go_roundg (c.inputs.length - (k + 1))
        case measure => exact hmea _ hg
        case rel =>
          refine ⟨k + 1, by omega, by omega, by go_num, hbn, hcn2, (show Aside _ from fun j hj h => ?_)⟩
          by_cases e : j = k
          · subst e; exact hX.out
          · exact hA.out j (by omega) h
      · have heb : (x == 2 * ((k : Int) + 1)) = false := by simpa using he
        rw [heb] at hG
        have hne : ¬ c.inputs[k] = 2 * ((k : Int) + 1) := by rw [hx]; exact he
        have hbn : Hid (Below (w.heap.size + 1) W (wr.setCell ⟨w.heap.size + 1, 0, none⟩ (.int .i64 ((k : Int) + 1)))) := hbr.out.setCell (p := ⟨w.heap.size + 1, 0, none⟩) (Nat.le_refl _) _
        have hF : R = false := by
          rw [Bool.eq_false_iff]
          intro hr
          exact hne ((hiff.out.1 hr).1 k hlt)
        clear hiff hx he hne
        subst hF
        go_wp2_with (go_at_call 114; refine hG.out.mono ?_; rintro e w5 ⟨rfl, rfl⟩)
        go_ret
        exact ⟨rfl, HB0.out.trans (hbn.out.mono (by omega))⟩
    · have hltz : ¬ (k : Int) < (c.inputs.length : Int) := by omega
      obtain rfl : k = c.inputs.length := by omega
      have hI := Lib.hid hA
      clear hA hg hk hlt
      go_wp2_with fail
      clear q0 q1 q2 q3 q4 q5 q6 q7 hltz
      obtain ⟨W2, hW2⟩ : ∃ Y, Y = wr := ⟨_, rfl⟩
      subst hW2
      go_loopg [27] c.latches.length (fun gg s27 wr => ∃ k : Nat, k ≤ c.latches.length ∧ c.latches.length - k ≤ gg ∧ s27 = .int .i64 k ∧ Hid (Below (w.heap.size + 1) W wr) ∧ Hid (Cnt (w.heap.size + 1) ((c.inputs.length : Int) + k) wr) ∧ Aside (∀ j (_ : j < k) (h : j < c.latches.length), c.latches[j].lit = 2 * ((c.inputs.length : Int) + j + 1)))
      case atStart => exact ⟨0, Nat.zero_le _, by omega, rfl, hbr.out, by simpa [Hid] using hcn.out, fun j hj => absurd hj (Nat.not_lt_zero _)⟩
      case round =>
        clear HBw hbr hcn
        obtain ⟨k, hk, hg, rfl, hbr, hcn, hA⟩ := hrel
        have HBw := Lib.hid (Below.of HB0.out (hbr.out.mono (by omega)))
        obtain ⟨q0, q1, q2, q3, q4, q5, q6, q7⟩ := HBX.out.mono (by rw [hWs]; exact hbr.out)
        by_cases hlt : k < c.latches.length
        · obtain ⟨b', off, rfl, hbs, ⟨hr0, hr1, hr2⟩, c0, c1, c2⟩ := HL.out k hlt
          have hmea : ∀ g : Nat, c.latches.length - k ≤ g → c.latches.length - (k + 1) < g := fun g h => by omega
          have c0 := (HBw.out.cell hbs).trans c0
          have c1 := (HBw.out.cell hbs).trans c1
          have c2 := (HBw.out.cell hbs).trans c2
          have hltz : (k : Int) < (c.latches.length : Int) := by omega
          generalize hx : c.latches[k].lit = x at *
          generalize c.latches[k].next = xn at *
          generalize c.latches[k].reset = xr at *
          obtain ⟨V, hV⟩ : ∃ V, V = wr.alloc (.cells #[.int .i64 x, .int .i64 xn, .int .i64 xr] 64) := ⟨_, rfl⟩
          have hcv : Cnt (w.heap.size + 1) ((c.inputs.length : Int) + k) V := by rw [hV]; exact hcn.out.below ((Below.refl _ _).alloc (Nat.le_refl _) _)
          have hbv : Below (w.heap.size + 1) W V := by rw [hV]; exact hbr.out.alloc (by have := hbr.out.size; omega) _
          have hG := Lib.hid (gap1_any (w.heap.size + 1) ((c.inputs.length : Int) + k) x V hcv (by omega) (by omega))
          have hbn : Hid (Below (w.heap.size + 1) W (V.setCell ⟨w.heap.size + 1, 0, none⟩ (.int .i64 ((c.inputs.length : Int) + k + 1)))) := hbv.setCell (p := ⟨w.heap.size + 1, 0, none⟩) (Nat.le_refl _) _
          have hcn2 := Lib.hid (hcv.set ((c.inputs.length : Int) + k + 1))
          rw [hV] at hG hbn hcn2
          clear hV hcv hbv
          by_cases he : x = 2 * ((c.inputs.length : Int) + k + 1)
          · have heb : (x == 2 * ((c.inputs.length : Int) + k + 1)) = true := by simpa using he
            rw [heb] at hG
            have hX := Lib.hid (hx.trans he)
            clear hx he
            go_wp2_with (go_at_call 114; refine hG.out.mono ?_; rintro e w5 ⟨rfl, rfl⟩)
            go_roundg (c.latches.length - (k + 1))
            case measure => exact hmea _ hg
            case rel =>
              refine ⟨k + 1, by omega, by omega, by go_num, hbn, by rw [show ((c.inputs.length : Int) + ((k + 1 : Nat) : Int)) = (c.inputs.length : Int) + k + 1 by omega]; exact hcn2, (show Aside _ from fun j hj h => ?_)⟩
              by_cases e : j = k
              · subst e; exact hX.out
              · exact hA.out j (by omega) h
          · have heb : (x == 2 * ((c.inputs.length : Int) + k + 1)) = false := by simpa using he
            rw [heb] at hG
            have hne : ¬ c.latches[k].lit = 2 * ((c.inputs.length : Int) + k + 1) := by rw [hx]; exact he
            have hF : R = false := by
              rw [Bool.eq_false_iff]
              intro hr
              exact hne ((hiff.out.1 hr).2.1 k hlt)
            clear hiff hx he hne
            subst hF
            go_wp2_with (go_at_call 114; refine hG.out.mono ?_; rintro e w5 ⟨rfl, rfl⟩)
            go_ret
            exact ⟨rfl, HB0.out.trans (hbn.out.mono (by omega))⟩
        · have hltz : ¬ (k : Int) < (c.latches.length : Int) := by omega
          obtain rfl : k = c.latches.length := by omega
          have hLt := Lib.hid hA
          clear hA hg hk hlt
          go_wp2_with fail
          clear q0 q1 q2 q3 q4 q5 q6 q7 hltz
          obtain ⟨W3, hW3⟩ : ∃ Y, Y = wr := ⟨_, rfl⟩
          subst hW3
          go_loopg [40] c.ands.length (fun gg s40 wr => ∃ k : Nat, k ≤ c.ands.length ∧ c.ands.length - k ≤ gg ∧ s40 = .int .i64 k ∧ Hid (Below (w.heap.size + 1) W wr) ∧ Hid (Cnt (w.heap.size + 1) ((c.inputs.length : Int) + c.latches.length + k) wr) ∧ Aside (∀ j (_ : j < k) (h : j < c.ands.length), c.ands[j].lit = 2 * ((c.inputs.length : Int) + c.latches.length + j + 1) ∧ c.ands[j].right ≤ c.ands[j].left))
          case atStart => exact ⟨0, Nat.zero_le _, by omega, rfl, hbr.out, by simpa [Hid] using hcn.out, fun j hj => absurd hj (Nat.not_lt_zero _)⟩
          case round =>
            clear HBw hbr hcn
            obtain ⟨k, hk, hg, rfl, hbr, hcn, hA⟩ := hrel
            have HBw := Lib.hid (Below.of HB0.out (hbr.out.mono (by omega)))
            obtain ⟨q0, q1, q2, q3, q4, q5, q6, q7⟩ := HBX.out.mono (by rw [hWs]; exact hbr.out)
            by_cases hlt : k < c.ands.length
            · obtain ⟨b', off, rfl, hbs, ⟨hr0, hr1, hr2⟩, c0, c1, c2⟩ := HN.out k hlt
              have hmea : ∀ g : Nat, c.ands.length - k ≤ g → c.ands.length - (k + 1) < g := fun g h => by omega
              have c0 := (HBw.out.cell hbs).trans c0
              have c1 := (HBw.out.cell hbs).trans c1
              have c2 := (HBw.out.cell hbs).trans c2
              have hltz : (k : Int) < (c.ands.length : Int) := by omega
              generalize hx : c.ands[k].lit = x at *
              generalize hxl : c.ands[k].left = xl at *
              generalize hxr : c.ands[k].right = xr at *
              obtain ⟨V, hV⟩ : ∃ V, V = wr.alloc (.cells #[.int .i64 x, .int .i64 xl, .int .i64 xr] 66) := ⟨_, rfl⟩
              have hws : w.heap.size + 1 < wr.heap.size := World.block_lt_of_cell? wr _ hcn.out.1
              have hcv : Cnt (w.heap.size + 1) ((c.inputs.length : Int) + c.latches.length + k) V := by rw [hV]; exact hcn.out.below ((Below.refl _ _).alloc (Nat.le_refl _) _)
              have hbv : Below (w.heap.size + 1) W V := by rw [hV]; exact hbr.out.alloc (by omega) _
              have hG := Lib.hid (gap1_any (w.heap.size + 1) ((c.inputs.length : Int) + c.latches.length + k) x V hcv (by omega) (by omega))
              have hbn : Hid (Below (w.heap.size + 1) W (V.setCell ⟨w.heap.size + 1, 0, none⟩ (.int .i64 ((c.inputs.length : Int) + c.latches.length + k + 1)))) := hbv.setCell (p := ⟨w.heap.size + 1, 0, none⟩) (Nat.le_refl _) _
              have hcn2 := Lib.hid (hcv.set ((c.inputs.length : Int) + c.latches.length + k + 1))
              have d1 : (V.setCell ⟨w.heap.size + 1, 0, none⟩ (.int .i64 ((c.inputs.length : Int) + c.latches.length + k + 1))).cell? ⟨wr.heap.size, 1, none⟩ = some (.int .i64 xl) := by
                rw [cell_far _ _ _ _ (by show w.heap.size + 1 ≠ wr.heap.size; omega), hV]; simp
              have d2 : (V.setCell ⟨w.heap.size + 1, 0, none⟩ (.int .i64 ((c.inputs.length : Int) + c.latches.length + k + 1))).cell? ⟨wr.heap.size, 2, none⟩ = some (.int .i64 xr) := by
                rw [cell_far _ _ _ _ (by show w.heap.size + 1 ≠ wr.heap.size; omega), hV]; simp
              obtain ⟨Y, hY⟩ : ∃ Y, Y = V.setCell ⟨w.heap.size + 1, 0, none⟩ (.int .i64 ((c.inputs.length : Int) + c.latches.length + k + 1)) := ⟨_, rfl⟩
              rw [← hY] at hG hbn hcn2 d1 d2
              rw [hV] at hG
              clear hY hV hcv hbv hws
              by_cases he : x = 2 * ((c.inputs.length : Int) + c.latches.length + k + 1)
              · have heb : (x == 2 * ((c.inputs.length : Int) + c.latches.length + k + 1)) = true := by simpa using he
                rw [heb] at hG
                by_cases hlr : xl < xr
                · have hF : R = false := by
                    rw [Bool.eq_false_iff]
                    intro hr
                    have := ((hiff.out.1 hr).2.2.1 k hlt).2
                    omega
                  clear hiff hx he hxl hxr
                  subst hF
                  go_wp2_with (go_at_call 114; refine hG.out.mono ?_; rintro e w5 ⟨rfl, rfl⟩)
                  go_ret
                  exact ⟨rfl, HB0.out.trans (hbn.out.mono (by omega))⟩
                · have hX : Hid (c.ands[k].lit = 2 * ((c.inputs.length : Int) + c.latches.length + k + 1) ∧ c.ands[k].right ≤ c.ands[k].left) := ⟨hx.trans he, by omega⟩
                  clear hx he hxl hxr
                  go_wp2_with (go_at_call 114; refine hG.out.mono ?_; rintro e w5 ⟨rfl, rfl⟩)
                  go_roundg (c.ands.length - (k + 1))
                  case measure => exact hmea _ hg
                  case rel =>
                    refine ⟨k + 1, by omega, by omega, by go_num, hbn, by rw [show ((c.inputs.length : Int) + c.latches.length + ((k + 1 : Nat) : Int)) = (c.inputs.length : Int) + c.latches.length + k + 1 by omega]; exact hcn2, (show Aside _ from fun j hj h => ?_)⟩
                    by_cases e : j = k
                    · subst e; exact hX.out
                    · exact hA.out j (by omega) h
              · have heb : (x == 2 * ((c.inputs.length : Int) + c.latches.length + k + 1)) = false := by simpa using he
                rw [heb] at hG
                have hF : R = false := by
                  rw [Bool.eq_false_iff]
                  intro hr
                  exact he (hx.symm.trans ((hiff.out.1 hr).2.2.1 k hlt).1)
                clear hiff hx he hxl hxr
                subst hF
                go_wp2_with (go_at_call 114; refine hG.out.mono ?_; rintro e w5 ⟨rfl, rfl⟩)
                go_ret
                exact ⟨rfl, HB0.out.trans (hbn.out.mono (by omega))⟩
            · have hltz : ¬ (k : Int) < (c.ands.length : Int) := by omega
              obtain rfl : k = c.ands.length := by omega
              have hcc := hcn.out.1
              have hRe : Hid (R = (c.max == (c.inputs.length : Int) + c.latches.length + c.ands.length)) := by
                show _ = _
                rw [Bool.eq_iff_iff, hiff.out, beq_iff_eq]
                exact ⟨fun h => h.2.2.2, fun h => ⟨fun j hj => hI.out j (by omega) hj, fun j hj => hLt.out j (by omega) hj, fun j hj => hA.out j (by omega) hj, h⟩⟩
              clear hiff hg hk hlt
              by_cases hm' : c.max = (c.inputs.length : Int) + c.latches.length + c.ands.length
              · have hRt : R = true := by rw [hRe.out]; simpa using hm'
                have hmb : ((c.inputs.length : Int) + c.latches.length + c.ands.length != c.max) = false := by rw [bne_eq_false_iff_eq]; exact hm'.symm
                clear hRe hm'
                subst hRt
                go_wp2_with fail
                go_ret
                exact ⟨rfl, HBw.out⟩
              · have hRt : R = false := by rw [hRe.out]; simpa using hm'
                have hmb : ((c.inputs.length : Int) + c.latches.length + c.ands.length != c.max) = true := by rw [bne_iff_ne]; exact fun h => hm' h.symm
                clear hRe hm'
                subst hRt
                go_wp2_with fail
                go_ret
                exact ⟨rfl, HBw.out⟩

set_option maxRecDepth 100000 in
set_option maxHeartbeats 2000000 in
theorem aOrdered_any (c : PC.Circ) (vc : Value) (w : World) (h : IsCirc w vc c) :
    Calls Tryd.prog 51 #[vc] w fun e w' => e = .returned (.bool (PA.ordered c)) ∧ Below w.heap.size w w' := by
  have hC := Lib.hid fun y (hy : Below w.heap.size w y) => cCheck_any c vc y (h.mono hy)
  have hG := Lib.hid fun y (hy : Below w.heap.size w y) hR => aGap_any c vc y (h.mono hy) hR
  rw [PA.ordered_eq]
  obtain ⟨vi, vl, vo, vb, vv, va, vn, rfl, hp, hm⟩ := h
  clear hp
  have hbx := Lib.hid (Box8.new w (.int .i64 c.max) vi vl vo vb vv va vn 27)
  have hb0 := Lib.hid ((Below.refl w.heap.size w).alloc (Nat.le_refl _) (.cells #[.int .i64 c.max, vi, vl, vo, vb, vv, va, vn] 27))
  cases hck : PC.chk c with
  | false =>
    have hp : PC.pchk c = false := (PC.pchk_eq c).trans hck
    rw [hp] at hC
    obtain ⟨q0, q1, q2, q3, q4, q5, q6, q7⟩ := hbx.out
    clear hp hck
    go_enter Tryd.func51, Tryd.ntmps51
    go_wp2_with fail
    refine (hC.out _ hb0.out).mono ?_
    rintro e w1 ⟨rfl, hb1⟩
    clear q0 q1 q2 q3 q4 q5 q6 q7
    go_wp2_with fail
    go_ret
    exact ⟨rfl, Below.of hb0.out hb1⟩
  | true =>
    have hp : PC.pchk c = true := (PC.pchk_eq c).trans hck
    rw [hp] at hC
    have hR := Lib.hid (PC.right_of c hck)
    obtain ⟨q0, q1, q2, q3, q4, q5, q6, q7⟩ := hbx.out
    clear hp hck
    obtain ⟨GL, hGL⟩ : ∃ g, g = PA.gapless c := ⟨_, rfl⟩
    rw [← hGL] at hG ⊢
    clear hGL
    go_enter Tryd.func51, Tryd.ntmps51
    go_wp2_with fail
    refine (hC.out _ hb0.out).mono ?_
    rintro e w1 ⟨rfl, hb1⟩
    have HB1 := Lib.hid (Below.of hb0.out hb1)
    clear q0 q1 q2 q3 q4 q5 q6 q7
    obtain ⟨q0, q1, q2, q3, q4, q5, q6, q7⟩ := hbx.out.mono hb1
    go_wp2_with fail
    refine (hG.out _ HB1.out hR.out).mono ?_
    rintro e w2 ⟨rfl, hb2⟩
    go_wp2_with fail
    go_ret
    exact ⟨by simp, Below.of HB1.out hb2⟩

end Go.Proofs.YtjcaejdokillgaaDoor
