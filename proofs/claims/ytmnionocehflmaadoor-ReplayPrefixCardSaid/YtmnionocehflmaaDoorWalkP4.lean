/- Contract: replay.Check. -/
import Derived.Test.YtmnionocehflmaaDoorWalkP3
namespace Go.Proofs.YtmnionocehflmaaDoor
open Go.RowKit Go.Shelf

theorem okAt_no {c : PC.Circ} {A : List (List Int)} {b : Int} {st : PC.Bs} {ins : List PC.Bs} {k : Nat} (hk : k < ins.length) (h : PC.allowed c A (PC.valuesS c (stS c st (ins.take k)) ins[k]) = false) : okAt c A b st ins k = false := by
  unfold okAt
  rw [List.getD_eq_getElem?_getD, List.getElem?_eq_getElem hk, Option.getD_some, h]; rfl

theorem okAt_mid {c : PC.Circ} {A : List (List Int)} {b : Int} {st : PC.Bs} {ins : List PC.Bs} {k : Nat} (hk : k < ins.length) (h : PC.allowed c A (PC.valuesS c (stS c st (ins.take k)) ins[k]) = true) (hn : k + 1 ≠ ins.length) : okAt c A b st ins k = true := by
  unfold okAt
  rw [List.getD_eq_getElem?_getD, List.getElem?_eq_getElem hk, Option.getD_some, h, decide_eq_true hn]; rfl

theorem okAt_last {c : PC.Circ} {A : List (List Int)} {b : Int} {st : PC.Bs} {ins : List PC.Bs} {k : Nat} (hk : k < ins.length) (h : PC.allowed c A (PC.valuesS c (stS c st (ins.take k)) ins[k]) = true) (hn : k + 1 = ins.length) :
    okAt c A b st ins k = PC.tru (PC.valuesS c (stS c st (ins.take k)) ins[k]) b := by
  unfold okAt
  rw [List.getD_eq_getElem?_getD, List.getElem?_eq_getElem hk, Option.getD_some, h, decide_eq_false (by simpa using hn)]
  simp

set_option maxRecDepth 100000 in
set_option maxHeartbeats 8000000 in
theorem repCheck_any (c : PC.Circ) (vc va : Value) (A : List (List Int)) (bad : Int) (st : List UInt8) (ins : List (List UInt8)) (vins : Value) (w : World) (h : IsCirc w vc c) (hA : Lists w va A) (hS : Strs w vins ins)
    (hs : st.length ≤ 9223372036854775807) (hbr : rng bad) (hroom : (ins.length + 1) * 16 ≤ 140737488355328) :
    Calls Tryd.prog 23 #[vc, va, .agg #[.int .i64 bad, .string ⟨st.toArray⟩, vins]] w fun e w' => e = .returned (.int .i64 (pathE c A bad st ins)) ∧ Below w.heap.size w w' := by
  have hF := Lib.hid fun w1 (hb : Below w.heap.size w w1) => form_any c vc bad st ins vins w1 (h.mono hb) (hS.mono hb) hs hbr
  have hSt := Lib.hid fun w1 (hb : Below w.heap.size w w1) => States_any c vc st ins vins w1 (h.mono hb) (hS.mono hb)
  have hV := Lib.hid fun s i w1 (hb : Below w.heap.size w w1) => simValues_any c vc s i w1 (h.mono hb)
  have hAl := Lib.hid fun m w1 (hb : Below w.heap.size w w1) => repAllowed_any c vc va A m w1 (h.mono hb) (hA.mono hb)
  obtain ⟨vi, vl, vo, vb, vv, va', vn, rfl, hp, hm⟩ := h
  obtain ⟨ab, capb, rfl, hb1, hb2, hb3⟩ := hp.bads.open_
  obtain ⟨as_, caps, rfl, hs1, hs2, hs3⟩ := hS.open_
  have HBD := Lib.hid hb3
  have HS := Lib.hid hs3
  clear hp hs3 hb3 hS hA
  have hb0 : Below w.heap.size w (w.alloc (.cells #[.int .i64 c.max, vi, vl, vo, .slice ab c.bads.length capb, vv, va', vn] 27)) := (Below.refl _ _).alloc (Nat.le_refl _) _
  have hbx0 := Lib.hid (Box8.new w (.int .i64 c.max) vi vl vo (.slice ab c.bads.length capb) vv va' vn 27)
  obtain ⟨W0, hW0⟩ : ∃ W, W = w.alloc (.cells #[.int .i64 c.max, vi, vl, vo, .slice ab c.bads.length capb, vv, va', vn] 27) := ⟨_, rfl⟩
  rw [← hW0] at hb0 hbx0
  have hsz : W0.heap.size = w.heap.size + 1 := by rw [hW0]; simp
  have hby0 := Lib.hid (Box3.new W0 (.int .i64 bad) (.string ⟨st.toArray⟩) (.slice as_ ins.length caps) 46)
  have hb1' := (Below.refl W0.heap.size W0).alloc (Nat.le_refl _) (.cells #[.int .i64 bad, .string ⟨st.toArray⟩, .slice as_ ins.length caps] 46)
  obtain ⟨W, hW⟩ : ∃ W, W = W0.alloc (.cells #[.int .i64 bad, .string ⟨st.toArray⟩, .slice as_ ins.length caps] 46) := ⟨_, rfl⟩
  rw [← hW] at hby0 hb1'
  rw [hsz] at hby0
  have hbW := Lib.hid (Below.of hb0 hb1')
  have hbx := Lib.hid (hbx0.out.mono hb1')
  have HW0 := Lib.hid hW0
  have HW := Lib.hid hW
  clear hW hW0 hbx0 hb0 hb1' hsz
  go_enter Tryd.func23, Tryd.ntmps23
  go_wp2_with fail
  rw [← HW0.out, ← HW.out]
  refine (hF.out _ hbW.out).mono ?_
  rintro e w1 ⟨rfl, hbA⟩
  have hbx1 := Lib.hid (hbx.out.mono hbA)
  have hby1 := Lib.hid (hby0.out.mono hbA)
  have hbW1 := Lib.hid (Below.of hbW.out hbA)
  clear hbA hbx hby0 hbW hF
  by_cases hz : formE c bad st ins = 0
  · have HZ := Lib.hid hz
    obtain ⟨f1, f2, f3, f4, f5, f6, f7⟩ := formE_zero hz
    have hSt1 := Lib.hid (hSt.out w1 hbW1.out f1 f5 f6 hroom)
    obtain ⟨bd, rfl⟩ : ∃ n : Nat, bad = (n : Int) := ⟨bad.toNat, by omega⟩
    have hbd : bd < c.bads.length := by omega
    have hgd : Hid (c.bads.getD (bd : Int).toNat 0 = c.bads[bd]) := by show _ = _; simp [hbd]
    obtain ⟨b, off, rfl, hbs, hbrr, hbc⟩ := HBD.out bd hbd
    have HBC := Lib.hid hbc
    generalize hzz : c.bads[bd] = lit at *
    clear hzz f1 f2 f4 f5 f6 f7 hSt hbc HBD
    rw [hz]
    clear hz
    obtain ⟨q0, q1, q2, q3, q4, q5, q6, q7⟩ := hbx1.out
    obtain ⟨r0, r1, r2⟩ := hby1.out
    go_wp2_with fail
    refine hSt1.out.mono ?_
    rintro e w2 ⟨u, rfl, hL, hb2⟩
    have hbx2 := Lib.hid (hbx1.out.mono hb2)
    have hby2 := Lib.hid (hby1.out.mono hb2)
    have hbW2 := Lib.hid (Below.of hbW1.out hb2)
    clear hb2 hbx1 hby1 hbW1 hSt1 q0 q1 q2 q3 q4 q5 q6 q7 r0 r1 r2
    obtain ⟨au, capu, rfl, hu1, hu2, hu3⟩ := hL.open_
    have HU := Lib.hid hu3
    clear hL hu3
    rw [statesL_len] at *
    obtain ⟨r0, r1, r2⟩ := hby2.out
    go_wp2_with fail
    go_loopg [32] ins.length (fun gg s32 wr => ∃ k : Nat, k ≤ ins.length ∧ ins.length - k ≤ gg ∧ s32 = .int .i64 k ∧ Below w2.heap.size w2 wr ∧ Aside (∀ j (hj : j < k), okAt c A lit st ins j = true))
    case atStart => exact ⟨0, Nat.zero_le _, by omega, rfl, Below.refl _ _, fun j hj => absurd hj (Nat.not_lt_zero _)⟩
    case round =>
      obtain ⟨k, hk, hg, rfl, hbr, AO⟩ := hrel
      by_cases hlt : k < ins.length
      · have hmea : Hid (∀ g : Nat, ins.length - k ≤ g → ins.length - (k + 1) < g) := fun g h => by omega
        have HG := Lib.hid hg
        obtain ⟨bi, offi, rfl, hbsi, hyl, hcell⟩ := HS.out k hlt
        have hbWr := Lib.hid (Below.of hbW2.out hbr)
        have hcell := (hbWr.out.cell hbsi).trans hcell
        obtain ⟨bu, offu, rfl, hbu, hul, hcu⟩ := HU.out k (by rw [statesL_len]; omega)
        rw [statesL_get] at hul hcu
        have hcu : ∀ y : Later wr, y.at_.cell? ⟨bu, offu + k, none⟩ = some (.string ⟨(stS c st (ins.take k)).toArray⟩) := fun y => y.cell ((hbr.cell hbu).trans hcu)
        have hVk : ∀ y : Later wr, Calls _ _ _ _ _ := fun y => hV.out (stS c st (ins.take k)) ins[k] y.at_ (Below.of hbWr.out y.below) hul hyl
        have hbit := Lib.hid (valuesS_bits c (stS c st (ins.take k)) ins[k])
        have hvl := valuesS_len c (stS c st (ins.take k)) ins[k]
        have hno : Hid (_ → _) := fun h => okAt_no (b := lit) (A := A) (c := c) (st := st) hlt h
        have hmid : Hid (_ → _ → _) := fun h hn => okAt_mid (b := lit) (A := A) (c := c) (st := st) hlt h hn
        have hlast : Hid (_ → _ → _) := fun h hn => okAt_last (b := lit) (A := A) (c := c) (st := st) hlt h hn
        have hnx : Hid (okAt c A lit st ins k = true → ∀ j (hj : j < k + 1), okAt c A lit st ins j = true) := fun hh j hj => by
          by_cases e : j = k
          · subst e; exact hh
          · exact AO.out j (by omega)
        generalize PC.valuesS c (stS c st (ins.take k)) ins[k] = VS at *
        generalize PC.valuesE c (stS c st (ins.take k)) ins[k] = VE at *
        generalize stS c st (ins.take k) = S0 at *
        generalize ins[k] = y at *
        have hltz : (k : Int) < (ins.length : Int) := by omega
        have hltz1 : (k : Int) < ((ins.length + 1 : Nat) : Int) := by omega
        have hbxr := Lib.hid (hbx2.out.mono hbr)
        have hbyr := Lib.hid (hby2.out.mono hbr)
        clear AO hg r0 r1 r2
        obtain ⟨q0, q1, q2, q3, q4, q5, q6, q7⟩ := hbxr.out.later
        go_wp2_with fail
        refine wp_region_later (by kernel_rfl) (by kernel_rfl) ?_; (repeat (go_big_quiet_step ((go_at_call 10; with_reducible exact Calls.later (hVk _))))); refine wpQuiet_nil ?_; rintro w3 ⟨⟨_, hb3⟩, rfl⟩
        clear q0 q1 q2 q3 q4 q5 q6 q7 hVk hcu hcell
        have hbx3 := Lib.hid (hbxr.out.mono hb3)
        have hby3 := Lib.hid (hbyr.out.mono hb3)
        have hbW3 := Lib.hid (Below.of hbWr.out hb3)
        have hbr3 := Lib.hid (Below.of hbr hb3)
        obtain ⟨q0, q1, q2, q3, q4, q5, q6, q7⟩ := hbx3.out
        have hAk := Lib.hid (hAl.out VS w3 hbW3.out hbit.out (by omega))
        go_wp2_with fail
        cases hal : PC.allowed c A VS with
        | false =>
          rw [hal] at hAk
          refine hAk.out.mono ?_
          rintro e w4 ⟨rfl, hb4⟩
          have hq := Lib.hid (hno.out hal)
          clear hal q0 q1 q2 q3 q4 q5 q6 q7
          go_wp2_with fail
          go_ret
          refine ⟨?_, Below.of hbW3.out hb4⟩
          rw [pathE_bad HZ.out k hlt (by rw [hgd.out]; exact hq.out)]; rfl
        | true =>
          rw [hal] at hAk
          refine hAk.out.mono ?_
          rintro e w4 ⟨rfl, hb4⟩
          have hbx4 := Lib.hid (hbx3.out.mono hb4)
          have hby4 := Lib.hid (hby3.out.mono hb4)
          have hbW4 := Lib.hid (Below.of hbW3.out hb4)
          have hbr4 := Lib.hid (Below.of hbr3.out hb4)
          clear q0 q1 q2 q3 q4 q5 q6 q7
          obtain ⟨q0, q1, q2, q3, q4, q5, q6, q7⟩ := hbx4.out
          obtain ⟨r0, r1, r2⟩ := hby4.out
          by_cases hk1 : k + 1 = ins.length
          · have hkn : ((k : Int) == (ins.length : Int) - 1) = true := beq_iff_eq.2 (by omega)
            have hq := Lib.hid (hlast.out hal hk1)
            have hIs := Lib.hid (stIsNot_any VS lit w4 hbit.out hbrr (by omega))
            have hcl := (hbW4.out.cell hbs).trans HBC.out
            have hbdz : (bd : Int) < (c.bads.length : Int) := by omega
            cases htr : PC.tru VS lit with
            | true =>
              rw [htr] at hIs hq
              have hnx1 := Lib.hid (hnx.out hq.out)
              clear hal htr hnx hmid hno hlast hk1
              go_wp2_with fail
              refine hIs.out.mono ?_
              rintro e w5 ⟨rfl, hb5⟩
              go_wp2_with fail
              go_roundg (ins.length - (k + 1))
              case measure => exact hmea.out _ HG.out
              case rel => exact ⟨k + 1, by omega, by omega, by go_num, Below.of hbr4.out hb5, hnx1.out⟩
            | false =>
              rw [htr] at hIs hq
              clear hal htr hnx hmid hno hlast hk1
              go_wp2_with fail
              refine hIs.out.mono ?_
              rintro e w5 ⟨rfl, hb5⟩
              go_wp2_with fail
              go_ret
              refine ⟨?_, Below.of hbW4.out hb5⟩
              rw [pathE_bad HZ.out k hlt (by rw [hgd.out]; exact hq.out)]; rfl
          · have hkn : ((k : Int) == (ins.length : Int) - 1) = false := beq_eq_false_iff_ne.2 (by omega)
            have hnx1 := Lib.hid (hnx.out (hmid.out hal hk1))
            clear hal hnx hmid hno hlast
            go_wp2_with fail
            go_roundg (ins.length - (k + 1))
            case measure => exact hmea.out _ HG.out
            case rel => exact ⟨k + 1, by omega, by omega, by go_num, hbr4.out, hnx1.out⟩
      · have hltz : ¬ (k : Int) < (ins.length : Int) := by omega
        obtain rfl : k = ins.length := by omega
        go_wp2_with fail
        go_ret
        refine ⟨?_, Below.of hbW2.out hbr⟩
        rw [pathE_ok HZ.out (by rw [hgd.out]; exact AO.out)]; rfl
  · have hz1 : (formE c bad st ins == 0) = false := by simpa using hz
    have hz2 : (formE c bad st ins != 0) = true := by simpa using hz
    have HZ := Lib.hid (pathE_form (A := A) hz)
    generalize formE c bad st ins = E at *
    go_wp2_with fail
    go_ret
    exact ⟨by rw [HZ.out]; rfl, hbW1.out⟩

end Go.Proofs.YtmnionocehflmaaDoor
