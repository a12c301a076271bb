/- Contracts: may a witness be one of a circuit? -/
import Derived.Test.YtmnionocehflmaaDoorWalkP1
namespace Go.Proofs.YtmnionocehflmaaDoor
open Go.RowKit Go.Shelf

theorem enters_form1 : ∀ args w, (callFunc 75 args).run Tryd.prog w = .ok (.enter 75 args) w := enters_of Tryd.func75 (by kernel_rfl) rfl

theorem form1_any (s : List UInt8) (n bx cap : Nat) (ai : Option Addr) (w : World) (hc : w.cell? ⟨bx, 1, none⟩ = some (.slice ai n cap)) (hs : s.length ≤ 9223372036854775807) (hn : n ≤ 9223372036854775807) :
    Calls Tryd.prog 75 #[.string ⟨s.toArray⟩, .pointer (some ⟨bx, 0, none⟩)] w fun e w' => e = .returned (.bool (!PC.bitsOk s n)) ∧ Below w.heap.size w w' := by
  have hB := simBits_any s n w hs hn
  cases hb : PC.bitsOk s n with
  | true =>
    rw [hb] at hB
    clear hb
    go_enter Tryd.func75, Tryd.ntmps75
    go_wp2_with (go_at_call 21; refine hB.mono ?_; rintro e w1 ⟨rfl, hb1⟩)
    go_ret
    exact ⟨rfl, hb1⟩
  | false =>
    rw [hb] at hB
    clear hb
    go_enter Tryd.func75, Tryd.ntmps75
    go_wp2_with (go_at_call 21; refine hB.mono ?_; rintro e w1 ⟨rfl, hb1⟩)
    go_ret
    exact ⟨rfl, hb1⟩

set_option maxRecDepth 100000 in
set_option maxHeartbeats 4000000 in
theorem form_any (c : PC.Circ) (vc : Value) (bad : Int) (st : List UInt8) (ins : List (List UInt8)) (vins : Value) (w : World) (h : IsCirc w vc c) (hS : Strs w vins ins) (hs : st.length ≤ 9223372036854775807) (_hbr : rng bad) :
    Calls Tryd.prog 48 #[vc, .agg #[.int .i64 bad, .string ⟨st.toArray⟩, vins]] w fun e w' => e = .returned (.int .i64 (formE c bad st ins)) ∧ Below w.heap.size w w' := by
  have hmf : ∀ (fn : Fn) (first cap : Array Value) (w : World), (Instr.makeFunc fn first cap).run Tryd.prog w = .ok (.func fn first cap) w := fun _ _ _ _ => rfl
  have hCk := Lib.hid fun w1 (hb : Below w.heap.size w w1) => cCheck_any c vc w1 (h.mono hb)
  rw [PC.pchk_eq] at hCk
  have hIn := Lib.hid fun w1 (hb : Below w.heap.size w w1) => simInitial_any c vc st w1 (h.mono hb) hs
  obtain ⟨vi, vl, vo, vb, vv, va, vn, rfl, hp, hm⟩ := h
  obtain ⟨ai, capi, rfl, hi1, hi2, _⟩ := hp.inputs.open_
  obtain ⟨al, capl, rfl, hl1, hl2, _⟩ := hp.latches.open_
  obtain ⟨ab, capb, rfl, hb1, hb2, _⟩ := hp.bads.open_
  obtain ⟨as_, caps, rfl, hs1, hs2, _⟩ := hS.open_
  clear hp
  have hB := Lib.hid fun w1 => simBits_any st c.latches.length w1 hs (by omega)
  have hCF := Lib.hid fun w1 bx (hb : Below w.heap.size w w1) (hc : w1.cell? ⟨bx, 1, none⟩ = some (.slice ai c.inputs.length capi)) => ContainsFuncS_any (fun s => !PC.bitsOk s c.inputs.length) 75 #[.pointer (some ⟨bx, 0, none⟩)] w1 enters_form1
    (fun x w2 hx hb2 => form1_any x c.inputs.length bx capi ai w2 ((hb2.cell (World.block_lt_of_cell? _ _ hc)).trans hc) hx (by omega)) ins (.slice as_ ins.length caps) (hS.mono hb)
  have hb0 : Below w.heap.size w (w.alloc (.cells #[.int .i64 c.max, .slice ai c.inputs.length capi, .slice al c.latches.length capl, vo, .slice ab c.bads.length capb, vv, va, vn] 27)) := (Below.refl _ _).alloc (Nat.le_refl _) _
  have hbx0 := Lib.hid (Box8.new w (.int .i64 c.max) (.slice ai c.inputs.length capi) (.slice al c.latches.length capl) vo (.slice ab c.bads.length capb) vv va vn 27)
  obtain ⟨W0, hW0⟩ : ∃ W, W = w.alloc (.cells #[.int .i64 c.max, .slice ai c.inputs.length capi, .slice al c.latches.length capl, vo, .slice ab c.bads.length capb, vv, va, vn] 27) := ⟨_, rfl⟩
  rw [← hW0] at hb0 hbx0
  have hsz : W0.heap.size = w.heap.size + 1 := by rw [hW0]; simp
  have hby0 := Lib.hid (Box3.new W0 (.int .i64 bad) (.string ⟨st.toArray⟩) (.slice as_ ins.length caps) 46)
  have hb1' := (Below.refl W0.heap.size W0).alloc (Nat.le_refl _) (.cells #[.int .i64 bad, .string ⟨st.toArray⟩, .slice as_ ins.length caps] 46)
  obtain ⟨W, hW⟩ : ∃ W, W = W0.alloc (.cells #[.int .i64 bad, .string ⟨st.toArray⟩, .slice as_ ins.length caps] 46) := ⟨_, rfl⟩
  rw [← hW] at hby0 hb1'
  rw [hsz] at hby0
  have hbW := Lib.hid (Below.of hb0 hb1')
  have hbx := Lib.hid (hbx0.out.mono hb1')
  have HW0 := Lib.hid hW0
  have HW := Lib.hid hW
  clear hW hW0 hbx0 hb0 hb1' hsz hS
  obtain ⟨R, hR⟩ : ∃ R, R = formE c bad st ins := ⟨_, rfl⟩
  rw [← hR]
  have HR := Lib.hid hR
  clear hR
  go_enter Tryd.func48, Tryd.ntmps48
  go_wp2_with fail
  rw [← HW0.out, ← HW.out]
  cases hck : PC.chk c with
  | false =>
    rw [hck] at hCk
    refine (hCk.out _ hbW.out).mono ?_
    rintro e w1 ⟨rfl, hb1⟩
    go_wp2_with fail
    go_ret
    have hr : R = 9 := by rw [HR.out, formE, if_pos hck]
    exact ⟨by rw [hr]; rfl, Below.of hbW.out hb1⟩
  | true =>
    rw [hck] at hCk hIn
    have HCK := Lib.hid hck
    clear hck
    refine (hCk.out _ hbW.out).mono ?_
    rintro e w1 ⟨rfl, hbA⟩
    have hbx1 := Lib.hid (hbx.out.mono hbA)
    have hby1 := Lib.hid (hby0.out.mono hbA)
    have hbW1 := Lib.hid (Below.of hbW.out hbA)
    clear hbA hbx hby0 hbW hCk
    obtain ⟨q0, q1, q2, q3, q4, q5, q6, q7⟩ := hbx1.out
    obtain ⟨r0, r1, r2⟩ := hby1.out
    by_cases h0 : bad < 0
    · have hd : decide (bad < 0) = true := decide_eq_true h0
      go_wp2_with fail
      go_ret
      have hr : R = 4 := by rw [HR.out, formE, if_neg (by rw [HCK.out]; decide), if_pos (Or.inl h0)]
      exact ⟨by rw [hr]; rfl, hbW1.out⟩
    · have hd : decide (bad < 0) = false := decide_eq_false h0
      by_cases h1 : (c.bads.length : Int) ≤ bad
      · have hd1 : decide ((c.bads.length : Int) ≤ bad) = true := decide_eq_true h1
        go_wp2_with fail
        go_ret
        have hr : R = 4 := by rw [HR.out, formE, if_neg (by rw [HCK.out]; decide), if_pos (Or.inr h1)]
        exact ⟨by rw [hr]; rfl, hbW1.out⟩
      · have hd1 : decide ((c.bads.length : Int) ≤ bad) = false := decide_eq_false h1
        have hno : ¬ (bad < 0 ∨ (c.bads.length : Int) ≤ bad) := by omega
        have HNO := Lib.hid hno
        clear hno h0 h1
        by_cases h2 : ins.length = 0
        · have hd2 : ((ins.length : Int) == 0) = true := by simp [h2]
          have he : ins.isEmpty = true := by rw [List.isEmpty_iff]; exact List.eq_nil_of_length_eq_zero h2
          go_wp2_with fail
          go_ret
          have hr : R = 8 := by rw [HR.out, formE, if_neg (by rw [HCK.out]; decide), if_neg HNO.out, if_pos he]
          exact ⟨by rw [hr]; rfl, hbW1.out⟩
        · have hd2 : ((ins.length : Int) == 0) = false := beq_eq_false_iff_ne.2 (by omega)
          have he : Hid (¬ ins.isEmpty = true) := by
            show ¬ _
            rw [List.isEmpty_iff]
            intro e; rw [e] at h2; exact h2 rfl
          clear h2
          go_wp2_with fail
          cases hbt : PC.bitsOk st c.latches.length with
          | false =>
            rw [hbt] at hB
            refine (hB.out _).mono ?_
            rintro e w2 ⟨rfl, hb2⟩
            go_wp2_with fail
            go_ret
            have hr : R = 5 := by rw [HR.out, formE, if_neg (by rw [HCK.out]; decide), if_neg HNO.out, if_neg he.out, if_pos (Or.inl hbt)]
            exact ⟨by rw [hr]; rfl, Below.of hbW1.out hb2⟩
          | true =>
            rw [hbt] at hB
            refine (hB.out _).mono ?_
            rintro e w2 ⟨rfl, hb2⟩
            have hbx2 := Lib.hid (hbx1.out.mono hb2)
            have hby2 := Lib.hid (hby1.out.mono hb2)
            have hbW2 := Lib.hid (Below.of hbW1.out hb2)
            clear q0 q1 q2 q3 q4 q5 q6 q7 r0 r1 r2 hb2 hbx1 hby1 hbW1 hB
            obtain ⟨q0, q1, q2, q3, q4, q5, q6, q7⟩ := hbx2.out
            obtain ⟨r0, r1, r2⟩ := hby2.out
            have hCF2 := Lib.hid (hCF.out w2 w.heap.size hbW2.out q1)
            cases han : ins.any (fun s => !PC.bitsOk s c.inputs.length) with
            | true =>
              rw [han] at hCF2
              go_wp2_with fail
              refine hCF2.out.mono ?_
              rintro e w3 ⟨rfl, hb3⟩
              go_wp2_with fail
              go_ret
              have hr : R = 5 := by rw [HR.out, formE, if_neg (by rw [HCK.out]; decide), if_neg HNO.out, if_neg he.out, if_pos (Or.inr han)]
              exact ⟨by rw [hr]; rfl, Below.of hbW2.out hb3⟩
            | false =>
              rw [han] at hCF2
              have hno5 : Hid (¬ (PC.bitsOk st c.latches.length = false ∨ ins.any (fun s => !PC.bitsOk s c.inputs.length) = true)) := by
                show ¬ _
                rw [hbt, han]; decide
              clear hbt han
              go_wp2_with fail
              refine hCF2.out.mono ?_
              rintro e w3 ⟨rfl, hb3⟩
              have hbx3 := Lib.hid (hbx2.out.mono hb3)
              have hby3 := Lib.hid (hby2.out.mono hb3)
              have hbW3 := Lib.hid (Below.of hbW2.out hb3)
              clear q0 q1 q2 q3 q4 q5 q6 q7 r0 r1 r2 hb3 hbx2 hby2 hbW2 hCF2
              obtain ⟨q0, q1, q2, q3, q4, q5, q6, q7⟩ := hbx3.out
              obtain ⟨r0, r1, r2⟩ := hby3.out
              go_wp2_with fail
              refine (hIn.out _ hbW3.out).mono ?_
              rintro e w4 ⟨rfl, hb4⟩
              cases hin : PC.initial c st with
              | false =>
                go_wp2_with fail
                go_ret
                have hr : R = 9 := by rw [HR.out, formE, if_neg (by rw [HCK.out]; decide), if_neg HNO.out, if_neg he.out, if_neg hno5.out, if_pos hin]
                exact ⟨by rw [hr]; rfl, Below.of hbW3.out hb4⟩
              | true =>
                go_wp2_with fail
                go_ret
                have hr : R = 0 := by rw [HR.out, formE, if_neg (by rw [HCK.out]; decide), if_neg HNO.out, if_neg he.out, if_neg hno5.out, if_neg (by rw [hin]; decide)]
                exact ⟨by rw [hr]; rfl, Below.of hbW3.out hb4⟩

end Go.Proofs.YtmnionocehflmaaDoor
