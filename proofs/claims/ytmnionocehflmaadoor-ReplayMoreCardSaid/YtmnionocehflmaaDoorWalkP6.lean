/- Contract: the page's word on whether a witness is right. -/
import Derived.Test.YtmnionocehflmaaDoorWalkP5
namespace Go.Proofs.YtmnionocehflmaaDoor
open Go.RowKit Go.Shelf

set_option maxRecDepth 100000 in
set_option maxHeartbeats 8000000 in
theorem rPath_any (c : PC.Circ) (vc va : Value) (A : List (List Int)) (bad : Int) (st : List UInt8) (ins : List (List UInt8)) (vins : Value) (w : World) (h : IsCirc w vc c) (hf : Fits c) (hA : Lists w va A) (hS : Strs w vins ins)
    (hs : st.length ≤ 9223372036854775807) (hbr : rng bad) :
    Calls Tryd.prog 24 #[vc, va, .agg #[.int .i64 bad, .string ⟨st.toArray⟩, vins]] w fun e w' => e = .returned (.int .i64 (pathE c A bad st ins)) ∧ Below w.heap.size w w' := by
  have hCk := Lib.hid fun w1 (hb : Below w.heap.size w w1) => rCheck_any c vc w1 (h.mono hb) hf
  have hIn := Lib.hid fun w1 (hb : Below w.heap.size w w1) => rInitial_any c vc st w1 (h.mono hb) hs
  have hV := Lib.hid fun s i w1 (hb : Below w.heap.size w w1) => rValues_any c vc s i w1 (h.mono hb) hf
  have hN := Lib.hid fun s i w1 (hb : Below w.heap.size w w1) => rNext_any c vc s i w1 (h.mono hb) hf
  have hAl := Lib.hid fun m w1 (hb : Below w.heap.size w w1) => rAllowed_any c vc va A m w1 (h.mono hb) (hA.mono hb)
  obtain ⟨vi, vl, vo, vb, vv, va', vn, rfl, hp, hm⟩ := h
  obtain ⟨ai, capi, rfl, hi1, hi2, _⟩ := hp.inputs.open_
  obtain ⟨al, capl, rfl, hl1, hl2, _⟩ := hp.latches.open_
  obtain ⟨ab, capb, rfl, hb1, hb2, hb3⟩ := hp.bads.open_
  obtain ⟨as_, caps, rfl, hs1, hs2, hs3⟩ := hS.open_
  have HBD := Lib.hid hb3
  have HS := Lib.hid hs3
  clear hp hs3 hb3 hS hA
  have hB := Lib.hid fun w1 => rBits_any st c.latches.length w1 hs
  have hb0 : Below w.heap.size w (w.alloc (.cells #[.int .i64 c.max, .slice ai c.inputs.length capi, .slice al c.latches.length capl, vo, .slice ab c.bads.length capb, vv, va', vn] 27)) := (Below.refl _ _).alloc (Nat.le_refl _) _
  have hbx0 := Lib.hid (Box8.new w (.int .i64 c.max) (.slice ai c.inputs.length capi) (.slice al c.latches.length capl) vo (.slice ab c.bads.length capb) vv va' vn 27)
  obtain ⟨W0, hW0⟩ : ∃ W, W = w.alloc (.cells #[.int .i64 c.max, .slice ai c.inputs.length capi, .slice al c.latches.length capl, vo, .slice ab c.bads.length capb, vv, va', vn] 27) := ⟨_, rfl⟩
  rw [← hW0] at hb0 hbx0
  have hsz : W0.heap.size = w.heap.size + 1 := by rw [hW0]; simp
  have hby0 := Lib.hid (Box3.new W0 (.int .i64 bad) (.string ⟨st.toArray⟩) (.slice as_ ins.length caps) 46)
  have hb1' := (Below.refl W0.heap.size W0).alloc (Nat.le_refl _) (.cells #[.int .i64 bad, .string ⟨st.toArray⟩, .slice as_ ins.length caps] 46)
  obtain ⟨W, hW⟩ : ∃ W, W = W0.alloc (.cells #[.int .i64 bad, .string ⟨st.toArray⟩, .slice as_ ins.length caps] 46) := ⟨_, rfl⟩
  rw [← hW] at hby0 hb1'
  rw [hsz] at hby0
  have hbW := Lib.hid (Below.of hb0 hb1')
  have hbx := Lib.hid (hbx0.out.mono hb1')
  have HW0 := Lib.hid hW0
  have HW := Lib.hid hW
  clear hW hW0 hbx0 hb0 hb1' hsz
  go_enter Tryd.func24, Tryd.ntmps24
  go_wp2_with fail
  rw [← HW0.out, ← HW.out]
  cases hck : PC.chk c with
  | false =>
    rw [hck] at hCk
    refine (hCk.out _ hbW.out).mono ?_
    rintro e w1 ⟨rfl, hb1⟩
    go_wp2_with fail
    go_ret
    have hr : formE c bad st ins = 9 := by rw [formE, if_pos hck]
    exact ⟨by rw [pathE_form (by rw [hr]; decide), hr]; rfl, Below.of hbW.out hb1⟩
  | true =>
    rw [hck] at hCk
    have HCK := Lib.hid hck
    clear hck
    refine (hCk.out _ hbW.out).mono ?_
    rintro e w1 ⟨rfl, hbA⟩
    have hbx1 := Lib.hid (hbx.out.mono hbA)
    have hby1 := Lib.hid (hby0.out.mono hbA)
    have hbW1 := Lib.hid (Below.of hbW.out hbA)
    clear hbA hbx hby0 hbW hCk
    obtain ⟨q0, q1, q2, q3, q4, q5, q6, q7⟩ := hbx1.out
    obtain ⟨r0, r1, r2⟩ := hby1.out
    by_cases h0 : bad < 0
    · have hd : decide (bad < 0) = true := decide_eq_true h0
      go_wp2_with fail
      go_ret
      have hr : formE c bad st ins = 4 := by rw [formE, if_neg (by rw [HCK.out]; decide), if_pos (Or.inl h0)]
      exact ⟨by rw [pathE_form (by rw [hr]; decide), hr]; rfl, hbW1.out⟩
    · have hd : decide (bad < 0) = false := decide_eq_false h0
      by_cases h1 : (c.bads.length : Int) ≤ bad
      · have hd1 : decide ((c.bads.length : Int) ≤ bad) = true := decide_eq_true h1
        go_wp2_with fail
        go_ret
        have hr : formE c bad st ins = 4 := by rw [formE, if_neg (by rw [HCK.out]; decide), if_pos (Or.inr h1)]
        exact ⟨by rw [pathE_form (by rw [hr]; decide), hr]; rfl, hbW1.out⟩
      · have hd1 : decide ((c.bads.length : Int) ≤ bad) = false := decide_eq_false h1
        have hno : ¬ (bad < 0 ∨ (c.bads.length : Int) ≤ bad) := by omega
        have HNO := Lib.hid hno
        clear hno
        by_cases h2 : ins.length = 0
        · have hd2 : ((ins.length : Int) == 0) = true := by simp [h2]
          have he : ins.isEmpty = true := by rw [List.isEmpty_iff]; exact List.eq_nil_of_length_eq_zero h2
          clear h0 h1
          go_wp2_with fail
          go_ret
          have hr : formE c bad st ins = 8 := by rw [formE, if_neg (by rw [HCK.out]; decide), if_neg HNO.out, if_pos he]
          exact ⟨by rw [pathE_form (by rw [hr]; decide), hr]; rfl, hbW1.out⟩
        · have hd2 : ((ins.length : Int) == 0) = false := beq_eq_false_iff_ne.2 (by omega)
          have he : Hid (¬ ins.isEmpty = true) := by
            show ¬ _
            rw [List.isEmpty_iff]
            intro e; rw [e] at h2; exact h2 rfl
          clear h2
          cases hbt : PC.bitsOk st c.latches.length with
          | false =>
            rw [hbt] at hB
            clear h0 h1
            go_wp2_with (go_at_call 17; refine (hB.out _).mono ?_; rintro e w2 ⟨rfl, rfl⟩)
            go_ret
            have hr : formE c bad st ins = 5 := by rw [formE, if_neg (by rw [HCK.out]; decide), if_neg HNO.out, if_neg he.out, if_pos (Or.inl hbt)]
            exact ⟨by rw [pathE_form (by rw [hr]; decide), hr]; rfl, hbW1.out⟩
          | true =>
            rw [hbt] at hB
            have HBT := Lib.hid hbt
            clear hbt
            obtain ⟨bd, rfl⟩ : ∃ n : Nat, bad = (n : Int) := ⟨bad.toNat, by omega⟩
            have hbd : bd < c.bads.length := by omega
            have hgd : Hid (c.bads.getD (bd : Int).toNat 0 = c.bads[bd]) := by show _ = _; simp [hbd]
            obtain ⟨b, off, rfl, hbs, hbrr, hbc⟩ := HBD.out bd hbd
            have HBC := Lib.hid hbc
            generalize hzz : c.bads[bd] = lit at *
            have hd : decide ((bd : Int) < 0) = false := decide_eq_false (by omega)
            clear hzz hbc HBD h0 h1
            go_wp2_with (go_at_call 17; refine (hB.out _).mono ?_; rintro e w2 ⟨rfl, rfl⟩)
            clear q0 q1 q2 q3 q4 q5 q6 q7 r0 r1 r2
            go_loopg [7] ins.length (fun gg s7 wr => ∃ k : Nat, k ≤ ins.length ∧ ins.length - k ≤ gg ∧ s7 = .int .i64 k ∧ Below w1.heap.size w1 wr ∧ Aside (∀ j (hj : j < k) (h : j < ins.length), PC.bitsOk ins[j] c.inputs.length = true))
            case atStart => exact ⟨0, Nat.zero_le _, by omega, rfl, Below.refl _ _, fun j hj => absurd hj (Nat.not_lt_zero _)⟩
            case round =>
              obtain ⟨k, hk, hg, rfl, hbr, AO⟩ := hrel
              have hbWr := Lib.hid (Below.of hbW1.out hbr)
              have hbxr := Lib.hid (hbx1.out.mono hbr)
              have hbyr := Lib.hid (hby1.out.mono hbr)
              by_cases hlt : k < ins.length
              · have hmea : Hid (∀ g : Nat, ins.length - k ≤ g → ins.length - (k + 1) < g) := fun g h => by omega
                have HG := Lib.hid hg
                obtain ⟨bi, offi, rfl, hbsi, hyl, hcell⟩ := HS.out k hlt
                have hcell : ∀ y : Later wr, y.at_.cell? ⟨bi, offi + k, none⟩ = some (.string ⟨ins[k].toArray⟩) := fun y => y.cell ((hbWr.out.cell hbsi).trans hcell)
                have hmem := Lib.hid (List.getElem_mem hlt)
                have hnx : Hid (PC.bitsOk ins[k] c.inputs.length = true → ∀ j (hj : j < k + 1) (h : j < ins.length), PC.bitsOk ins[j] c.inputs.length = true) := fun hh j hj h => by
                  by_cases e : j = k
                  · subst e; exact hh
                  · exact AO.out j (by omega) h
                generalize ins[k] = y at *
                have hBy : ∀ z : Later wr, Calls _ _ _ _ _ := fun z => rBits_any y c.inputs.length z.at_ hyl
                have hltz : (k : Int) < (ins.length : Int) := by omega
                clear AO hg
                cases hby : PC.bitsOk y c.inputs.length with
                | true =>
                  rw [hby] at hBy
                  have hnx1 := Lib.hid (hnx.out hby)
                  clear hby hnx
                  obtain ⟨r0, r1, r2⟩ := hbyr.out.later
                  obtain ⟨q0, q1, q2, q3, q4, q5, q6, q7⟩ := hbxr.out.later
                  have r2' := hbyr.out.2.2
                  go_wp2_with fail
                  refine wp_region_later (by kernel_rfl) (by kernel_rfl) ?_; (repeat (go_big_quiet_step ((go_at_call 17; with_reducible exact Calls.later_same (hBy _))))); refine wpQuiet_nil ?_; rintro w3 ⟨⟨_, hb3⟩, rfl⟩
                  clear q0 q1 q2 q3 q4 q5 q6 q7 r0 r1 r2 r2'
                  go_wp2_with fail
                  go_roundg (ins.length - (k + 1))
                  case measure => exact hmea.out _ HG.out
                  case rel => exact ⟨k + 1, by omega, by omega, by go_num, Below.of hbr hb3, hnx1.out⟩
                | false =>
                  rw [hby] at hBy
                  have han : ins.any (fun s => !PC.bitsOk s c.inputs.length) = true := List.any_eq_true.2 ⟨y, hmem.out, by rw [hby]; rfl⟩
                  have HAN := Lib.hid han
                  clear hby hnx han
                  obtain ⟨r0, r1, r2⟩ := hbyr.out.later
                  obtain ⟨q0, q1, q2, q3, q4, q5, q6, q7⟩ := hbxr.out.later
                  have r2' := hbyr.out.2.2
                  go_wp2_with fail
                  refine wp_region_later (by kernel_rfl) (by kernel_rfl) ?_; (repeat (go_big_quiet_step ((go_at_call 17; with_reducible exact Calls.later_same (hBy _))))); refine wpQuiet_nil ?_; rintro w3 ⟨⟨_, hb3⟩, rfl⟩
                  clear q0 q1 q2 q3 q4 q5 q6 q7 r0 r1 r2 r2'
                  go_wp2_with fail
                  go_ret
                  have hr : formE c bd st ins = 5 := by rw [formE, if_neg (by rw [HCK.out]; decide), if_neg HNO.out, if_neg he.out, if_pos (Or.inr HAN.out)]
                  exact ⟨by rw [pathE_form (by rw [hr]; decide), hr]; rfl, Below.of hbWr.out hb3⟩
              · have hltz : ¬ (k : Int) < (ins.length : Int) := by omega
                obtain rfl : k = ins.length := by omega
                have hall : Hid (∀ i ∈ ins, PC.bitsOk i c.inputs.length = true) := fun i hi => by
                  obtain ⟨j, hj, rfl⟩ := List.getElem_of_mem hi
                  exact AO.out j hj hj
                have hno5 : Hid (¬ (PC.bitsOk st c.latches.length = false ∨ ins.any (fun s => !PC.bitsOk s c.inputs.length) = true)) := by
                  rintro (e | e)
                  · rw [HBT.out] at e; cases e
                  · obtain ⟨i, hi, e⟩ := List.any_eq_true.1 e
                    rw [hall.out i hi] at e; cases e
                obtain ⟨q0, q1, q2, q3, q4, q5, q6, q7⟩ := hbxr.out
                obtain ⟨r0, r1, r2⟩ := hbyr.out
                clear AO hg hk hlt
                go_wp2_with fail
                cases hin : PC.initial c st with
                | false =>
                  rw [hin] at hIn
                  refine (hIn.out _ hbWr.out).mono ?_
                  rintro e w3 ⟨rfl, hb3⟩
                  go_wp2_with fail
                  go_ret
                  have hr : formE c bd st ins = 9 := by rw [formE, if_neg (by rw [HCK.out]; decide), if_neg HNO.out, if_neg he.out, if_neg hno5.out, if_pos hin]
                  exact ⟨by rw [pathE_form (by rw [hr]; decide), hr]; rfl, Below.of hbWr.out hb3⟩
                | true =>
                  rw [hin] at hIn
                  refine (hIn.out _ hbWr.out).mono ?_
                  rintro e wI ⟨rfl, hb3⟩
                  have HZ : Hid (formE c bd st ins = 0) := by
                    show _ = _
                    rw [formE, if_neg (by rw [HCK.out]; decide), if_neg HNO.out, if_neg he.out, if_neg hno5.out, if_neg (by rw [hin]; decide)]
                  have hbx3 := Lib.hid (hbxr.out.mono hb3)
                  have hby3 := Lib.hid (hbyr.out.mono hb3)
                  have hbW3 := Lib.hid (Below.of hbWr.out hb3)
                  clear hin q0 q1 q2 q3 q4 q5 q6 q7 r0 r1 r2 hb3 hIn hbx1 hby1 hbW1 hbxr hbyr hbWr hno5 he
                  obtain ⟨r0, r1, r2⟩ := hby3.out
                  go_wp2_with fail
                  clear r0 r1 r2
                  have hl64 := (PC.right_of c HCK.out).lats
                  have hi64 := (PC.right_of c HCK.out).ins
                  have hStb := Lib.hid (stS_bits c st ins HCK.out HBT.out hall.out)
                  go_loopg [8, 9] ins.length (fun gg s8 s9 wr => ∃ k : Nat, k ≤ ins.length ∧ ins.length - k ≤ gg ∧ s8 = .string ⟨(stS c st (ins.take k)).toArray⟩ ∧ s9 = .int .i64 k ∧ Below wI.heap.size wI wr ∧ Aside (∀ j (hj : j < k), okAt c A lit st ins j = true))
                  case atStart => exact ⟨0, Nat.zero_le _, by omega, rfl, rfl, Below.refl _ _, fun j hj => absurd hj (Nat.not_lt_zero _)⟩
                  case round =>
                    clear hltz hbr
                    obtain ⟨k, hk, hg, rfl, rfl, hbr, AO⟩ := hrel
                    have hbWr := Lib.hid (Below.of hbW3.out hbr)
                    have hbxr := Lib.hid (hbx3.out.mono hbr)
                    have hbyr := Lib.hid (hby3.out.mono hbr)
                    by_cases hlt : k < ins.length
                    · have hmea : Hid (∀ g : Nat, ins.length - k ≤ g → ins.length - (k + 1) < g) := fun g h => by omega
                      have HG := Lib.hid hg
                      obtain ⟨bi, offi, rfl, hbsi, _, hcell⟩ := HS.out k hlt
                      have HCELL := Lib.hid hcell
                      have hcell : ∀ y : Later wr, y.at_.cell? ⟨bi, offi + k, none⟩ = some (.string ⟨ins[k].toArray⟩) := fun y => y.cell ((hbWr.out.cell hbsi).trans hcell)
                      have hl0 : (stS c st (ins.take k)).length ≤ 9223372036854775806 := by
                        have := (PC.bitsOk_mem (hStb.out k hk)).2
                        omega
                      have hly : ins[k].length ≤ 9223372036854775806 := by
                        have := (PC.bitsOk_mem (hall.out _ (List.getElem_mem hlt))).2
                        omega
                      have hVk : ∀ y : Later wr, Calls _ _ _ _ _ := fun y => hV.out (stS c st (ins.take k)) ins[k] y.at_ (Below.of hbWr.out y.below) hl0 hly
                      have hvl := valuesS_len c (stS c st (ins.take k)) ins[k]
                      have hno : Hid (_ → _) := fun h => okAt_no (b := lit) (A := A) (c := c) (st := st) hlt h
                      have hmid : Hid (_ → _ → _) := fun h hn => okAt_mid (b := lit) (A := A) (c := c) (st := st) hlt h hn
                      have hlast : Hid (_ → _ → _) := fun h hn => okAt_last (b := lit) (A := A) (c := c) (st := st) hlt h hn
                      have HS1 := Lib.hid (stS_succ c st ins k hlt).symm
                      have hnx : Hid (okAt c A lit st ins k = true → ∀ j (hj : j < k + 1), okAt c A lit st ins j = true) := fun hh j hj => by
                        by_cases e : j = k
                        · subst e; exact hh
                        · exact AO.out j (by omega)
                      obtain ⟨S1, hS1⟩ : ∃ S, S = stS c st (ins.take (k + 1)) := ⟨_, rfl⟩
                      rw [← hS1] at HS1
                      have HS1' := Lib.hid hS1
                      clear hS1
                      generalize PC.valuesS c (stS c st (ins.take k)) ins[k] = VS at *
                      obtain ⟨S0, hS0⟩ : ∃ S, S = stS c st (ins.take k) := ⟨_, rfl⟩
                      rw [← hS0] at hl0 hVk HS1 ⊢
                      obtain ⟨y, hy⟩ : ∃ y, y = ins[k] := ⟨_, rfl⟩
                      rw [← hy] at hly hVk HS1 hcell HCELL
                      generalize PC.valuesE c S0 y = VE at *
                      have hltz : (k : Int) < (ins.length : Int) := by omega
                      clear AO hg hS0 hy
                      obtain ⟨q0, q1, q2, q3, q4, q5, q6, q7⟩ := hbxr.out.later
                      obtain ⟨r0, r1, r2⟩ := hbyr.out.later
                      have r2' := hbyr.out.2.2
                      go_wp2_with fail
                      refine wp_region_later (by kernel_rfl) (by kernel_rfl) ?_; (repeat (go_big_quiet_step ((go_at_call 14; with_reducible exact Calls.later (hVk _))))); refine wpQuiet_nil ?_; rintro w3 ⟨⟨_, hb3⟩, rfl⟩
                      clear q0 q1 q2 q3 q4 q5 q6 q7 r0 r1 r2 r2' hVk hcell
                      have hbx4 := Lib.hid (hbxr.out.mono hb3)
                      have hby4 := Lib.hid (hbyr.out.mono hb3)
                      have hbW4 := Lib.hid (Below.of hbWr.out hb3)
                      have hbr4 := Lib.hid (Below.of hbr hb3)
                      clear hb3
                      obtain ⟨W4, hW4⟩ : ∃ W, W = w3 := ⟨_, rfl⟩
                      subst hW4
                      obtain ⟨q0, q1, q2, q3, q4, q5, q6, q7⟩ := hbx4.out
                      have hAk := Lib.hid (hAl.out VS W4 hbW4.out (by omega))
                      go_wp2_with fail
                      cases hal : PC.allowed c A VS with
                      | false =>
                        rw [hal] at hAk
                        refine hAk.out.mono ?_
                        rintro e w5 ⟨rfl, hb5⟩
                        have hq := Lib.hid (hno.out hal)
                        clear hal q0 q1 q2 q3 q4 q5 q6 q7
                        go_wp2_with fail
                        go_ret
                        refine ⟨?_, Below.of hbW4.out hb5⟩
                        rw [pathE_bad HZ.out k hlt (by rw [hgd.out]; exact hq.out)]; rfl
                      | true =>
                        rw [hal] at hAk
                        refine hAk.out.mono ?_
                        rintro e w5 ⟨rfl, hb5⟩
                        have hbx5 := Lib.hid (hbx4.out.mono hb5)
                        have hby5 := Lib.hid (hby4.out.mono hb5)
                        have hbW5 := Lib.hid (Below.of hbW4.out hb5)
                        have hbr5 := Lib.hid (Below.of hbr4.out hb5)
                        clear q0 q1 q2 q3 q4 q5 q6 q7
                        obtain ⟨q0, q1, q2, q3, q4, q5, q6, q7⟩ := hbx5.out
                        obtain ⟨r0, r1, r2⟩ := hby5.out
                        by_cases hk1 : k + 1 = ins.length
                        · have hkn : ((k : Int) == (ins.length : Int) - 1) = true := beq_iff_eq.2 (by omega)
                          have hq := Lib.hid (hlast.out hal hk1)
                          have hIs := Lib.hid (rTrue_any VS lit w5 hbrr (by omega))
                          have hcl := (hbW5.out.cell hbs).trans HBC.out
                          have hbdz : (bd : Int) < (c.bads.length : Int) := by omega
                          cases htr : PC.tru VS lit with
                          | true =>
                            rw [htr] at hIs hq
                            have hnx1 := Lib.hid (hnx.out hq.out)
                            clear hal htr hnx hmid hno hlast hk1
                            go_wp2_with (go_at_call 18; refine hIs.out.mono ?_; rintro e w6 ⟨rfl, rfl⟩)
                            clear q0 q1 q2 q3 q4 q5 q6 q7 r0 r1 r2
                            obtain ⟨q0, q1, q2, q3, q4, q5, q6, q7⟩ := hbx5.out.later
                            obtain ⟨r0, r1, r2⟩ := hby5.out.later
                            have r2' := hby5.out.2.2
                            have hcell2 : ∀ z : Later w5, z.at_.cell? ⟨bi, offi + k, none⟩ = some (.string ⟨y.toArray⟩) := fun z => z.cell ((hbW5.out.cell hbsi).trans HCELL.out)
                            have hNk : ∀ z : Later w5, Calls _ _ _ _ _ := fun z => hN.out S0 y z.at_ (Below.of hbW5.out z.below) hl0 hly
                            rw [HS1.out] at hNk
                            refine wp_region_later (by kernel_rfl) (by kernel_rfl) ?_; (repeat (go_big_quiet_step ((go_at_call 16; with_reducible exact Calls.later (hNk _))))); refine wpQuiet_nil ?_; rintro w3 ⟨⟨_, hb3⟩, rfl⟩
                            clear q0 q1 q2 q3 q4 q5 q6 q7 r0 r1 r2 r2'
                            go_wp2_with fail
                            go_roundg (ins.length - (k + 1))
                            case measure => exact hmea.out _ HG.out
                            case rel => exact ⟨k + 1, by omega, by omega, by rw [HS1'.out], by go_num, Below.of hbr5.out hb3, hnx1.out⟩
                          | false =>
                            rw [htr] at hIs hq
                            clear hal htr hnx hmid hno hlast hk1
                            go_wp2_with (go_at_call 18; refine hIs.out.mono ?_; rintro e w6 ⟨rfl, rfl⟩)
                            go_ret
                            refine ⟨?_, hbW5.out⟩
                            rw [pathE_bad HZ.out k hlt (by rw [hgd.out]; exact hq.out)]; rfl
                        · have hkn : ((k : Int) == (ins.length : Int) - 1) = false := beq_eq_false_iff_ne.2 (by omega)
                          have hnx1 := Lib.hid (hnx.out (hmid.out hal hk1))
                          clear hal hnx hmid hno hlast
                          go_wp2_with fail
                          clear q0 q1 q2 q3 q4 q5 q6 q7 r0 r1 r2
                          obtain ⟨q0, q1, q2, q3, q4, q5, q6, q7⟩ := hbx5.out.later
                          obtain ⟨r0, r1, r2⟩ := hby5.out.later
                          have r2' := hby5.out.2.2
                          have hcell2 : ∀ z : Later w5, z.at_.cell? ⟨bi, offi + k, none⟩ = some (.string ⟨y.toArray⟩) := fun z => z.cell ((hbW5.out.cell hbsi).trans HCELL.out)
                          have hNk : ∀ z : Later w5, Calls _ _ _ _ _ := fun z => hN.out S0 y z.at_ (Below.of hbW5.out z.below) hl0 hly
                          rw [HS1.out] at hNk
                          refine wp_region_later (by kernel_rfl) (by kernel_rfl) ?_; (repeat (go_big_quiet_step ((go_at_call 16; with_reducible exact Calls.later (hNk _))))); refine wpQuiet_nil ?_; rintro w3 ⟨⟨_, hb3⟩, rfl⟩
                          clear q0 q1 q2 q3 q4 q5 q6 q7 r0 r1 r2 r2'
                          go_wp2_with fail
                          go_roundg (ins.length - (k + 1))
                          case measure => exact hmea.out _ HG.out
                          case rel => exact ⟨k + 1, by omega, by omega, by rw [HS1'.out], by go_num, Below.of hbr5.out hb3, hnx1.out⟩
                    · have hltz : ¬ (k : Int) < (ins.length : Int) := by omega
                      obtain rfl : k = ins.length := by omega
                      obtain ⟨r0, r1, r2⟩ := hbyr.out
                      go_wp2_with fail
                      go_ret
                      refine ⟨?_, hbWr.out⟩
                      rw [pathE_ok HZ.out (by rw [hgd.out]; exact AO.out)]; rfl

end Go.Proofs.YtmnionocehflmaaDoor
