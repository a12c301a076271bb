/- The walk of ReplayPrefix. -/
import Derived.Test.YtmnionocehflmaaDoorWalkP8
namespace Go.Proofs.YtmnionocehflmaaDoor
open Go.RowKit Go.Shelf

theorem okAt_true {c : PC.Circ} {A : List (List Int)} {b : Int} {st : PC.Bs} {ins : List PC.Bs} {k : Nat} (hk : k < ins.length) (h : okAt c A b st ins k = true) :
    PC.allowed c A (PC.valuesS c (stS c st (ins.take k)) ins[k]) = true ∧ (k + 1 = ins.length → PC.tru (PC.valuesS c (stS c st (ins.take k)) ins[k]) b = true) := by
  unfold okAt at h
  rw [List.getD_eq_getElem?_getD, List.getElem?_eq_getElem hk, Option.getD_some, Bool.and_eq_true, Bool.or_eq_true] at h
  refine ⟨h.1, fun e => ?_⟩
  rcases h.2 with h2 | h2
  · exact absurd e (of_decide_eq_true h2)
  · exact h2

set_option maxRecDepth 100000 in
set_option maxHeartbeats 8000000 in
theorem replayPrefix_walk (c : PC.Circ) (vc va : Value) (A : List (List Int)) (bad : Int) (st : List UInt8) (ins : List (List UInt8)) (vins : Value) (w : World) (h : IsCirc w vc c) (hf : Fits c) (hA : Lists w va A) (hS : Strs w vins ins)
    (hs : st.length ≤ 9223372036854775807) (hbr : rng bad) (hroom : (ins.length + 1) * 16 ≤ 140737488355328) :
    Calls Tryd.prog 8 #[vc, va, .agg #[.int .i64 bad, .string ⟨st.toArray⟩, vins]] w fun e w' => e = .returned (.bool true) ∧ Below w.heap.size w w' := by
  have h1 := Lib.hid fun w1 (hb : Below w.heap.size w w1) => repCheck_any c vc va A bad st ins vins w1 (h.mono hb) (hA.mono hb) (hS.mono hb) hs hbr hroom
  have h2 := Lib.hid fun w1 (hb : Below w.heap.size w w1) => rPath_any c vc va A bad st ins vins w1 (h.mono hb) hf (hA.mono hb) (hS.mono hb) hs hbr
  have hSt := Lib.hid fun w1 (hb : Below w.heap.size w w1) => States_any c vc st ins vins w1 (h.mono hb) (hS.mono hb)
  have hV := Lib.hid fun s i w1 (hb : Below w.heap.size w w1) => rValues_any c vc s i w1 (h.mono hb) hf
  have hIn := Lib.hid fun w1 (hb : Below w.heap.size w w1) => rInitial_any c vc st w1 (h.mono hb) hs
  have hAl := Lib.hid fun m w1 (hb : Below w.heap.size w w1) => repAllowed_any c vc va A m w1 (h.mono hb) (hA.mono hb)
  have hPZ := Lib.hid fun (h : pathE c A bad st ins = 0) => pathE_zero h
  obtain ⟨vi, vl, vo, vb, vv, va', vn, rfl, hp, hm⟩ := h
  obtain ⟨ab, capb, rfl, hb1, hb2, hb3⟩ := hp.bads.open_
  obtain ⟨as_, caps, rfl, hs1, hs2, hs3⟩ := hS.open_
  have HBD := Lib.hid hb3
  have HS := Lib.hid hs3
  clear hp hs3 hb3 hS hA
  generalize pathE c A bad st ins = PE at *
  have hb0 : Below w.heap.size w (w.alloc (.cells #[.int .i64 c.max, vi, vl, vo, .slice ab c.bads.length capb, vv, va', vn] 27)) := (Below.refl _ _).alloc (Nat.le_refl _) _
  have hbx0 := Lib.hid (Box8.new w (.int .i64 c.max) vi vl vo (.slice ab c.bads.length capb) vv va' vn 27)
  obtain ⟨W0, hW0⟩ : ∃ W, W = w.alloc (.cells #[.int .i64 c.max, vi, vl, vo, .slice ab c.bads.length capb, vv, va', vn] 27) := ⟨_, rfl⟩
  rw [← hW0] at hb0 hbx0
  have hsz : W0.heap.size = w.heap.size + 1 := by rw [hW0]; simp
  have hby0 := Lib.hid (Box3.new W0 (.int .i64 bad) (.string ⟨st.toArray⟩) (.slice as_ ins.length caps) 46)
  have hb1' := (Below.refl W0.heap.size W0).alloc (Nat.le_refl _) (.cells #[.int .i64 bad, .string ⟨st.toArray⟩, .slice as_ ins.length caps] 46)
  obtain ⟨W, hW⟩ : ∃ W, W = W0.alloc (.cells #[.int .i64 bad, .string ⟨st.toArray⟩, .slice as_ ins.length caps] 46) := ⟨_, rfl⟩
  rw [← hW] at hby0 hb1'
  rw [hsz] at hby0
  have hbW := Lib.hid (Below.of hb0 hb1')
  have hbx := Lib.hid (hbx0.out.mono hb1')
  have HW0 := Lib.hid hW0
  have HW := Lib.hid hW
  clear hW hW0 hbx0 hb0 hb1' hsz
  go_enter Tryd.func8, Tryd.ntmps8
  go_wp2_with fail
  rw [← HW0.out, ← HW.out]
  refine (alive09_any _).mono ?_
  rintro e w1 ⟨rfl, hbA⟩
  have hbx1 := Lib.hid (hbx.out.mono hbA)
  have hby1 := Lib.hid (hby0.out.mono hbA)
  have hbW1 := Lib.hid (Below.of hbW.out hbA)
  clear hbA hbx hby0 hbW
  obtain ⟨q0, q1, q2, q3, q4, q5, q6, q7⟩ := hbx1.out
  obtain ⟨r0, r1, r2⟩ := hby1.out
  go_wp2_with fail
  refine (h1.out _ hbW1.out).mono ?_
  rintro e w2 ⟨rfl, hbA⟩
  have hbx2 := Lib.hid (hbx1.out.mono hbA)
  have hby2 := Lib.hid (hby1.out.mono hbA)
  have hbW2 := Lib.hid (Below.of hbW1.out hbA)
  clear hbA hbx1 hby1 hbW1 q0 q1 q2 q3 q4 q5 q6 q7 r0 r1 r2 h1
  obtain ⟨q0, q1, q2, q3, q4, q5, q6, q7⟩ := hbx2.out
  obtain ⟨r0, r1, r2⟩ := hby2.out
  by_cases hz : PE = 0
  · have hzz := hPZ.out hz
    subst hz
    obtain ⟨f1, f2, f3, f4, f5, f6, f7⟩ := formE_zero hzz.1
    have HOK := Lib.hid hzz.2
    have hSt1 := Lib.hid (hSt.out w2 hbW2.out f1 f5 f6 hroom)
    have hl64 := (PC.right_of c f1).lats
    have hi64 := (PC.right_of c f1).ins
    have hStb := Lib.hid (stS_bits c st ins f1 f5 f6)
    have hall := Lib.hid f6
    rw [f7] at hIn
    obtain ⟨bd, rfl⟩ : ∃ n : Nat, bad = (n : Int) := ⟨bad.toNat, by omega⟩
    have hbd : bd < c.bads.length := by omega
    have hgd : c.bads.getD (bd : Int).toNat 0 = c.bads[bd] := by simp [hbd]
    rw [hgd] at HOK
    obtain ⟨b, off, rfl, hbs, hbrr, hbc⟩ := HBD.out bd hbd
    have HBC := Lib.hid hbc
    generalize hzz : c.bads[bd] = lit at *
    have hn0 : 0 < ins.length := List.length_pos_iff.2 f4
    clear hzz f1 f2 f4 f5 f6 f7 hSt hbc HBD hgd h2 hPZ
    go_wp2_with fail
    refine hSt1.out.mono ?_
    rintro e w4 ⟨u, rfl, hL, hbA⟩
    have hbx4 := Lib.hid (hbx2.out.mono hbA)
    have hby4 := Lib.hid (hby2.out.mono hbA)
    have hbW4 := Lib.hid (Below.of hbW2.out hbA)
    clear hbA hbx2 hby2 hbW2 hSt1 q0 q1 q2 q3 q4 q5 q6 q7 r0 r1 r2
    obtain ⟨au, capu, rfl, hu1, hu2, hu3⟩ := hL.open_
    have HU := Lib.hid hu3
    clear hL hu3
    rw [statesL_len] at *
    obtain ⟨N, hN⟩ : ∃ N, N = ins.length + 1 := ⟨_, rfl⟩
    rw [← hN] at HU hu1 ⊢
    have hNN : (statesL c st ins N).length = N := statesL_len _ _ _ _
    have hNe : ((N : Int) != (ins.length : Int) + 1) = false := by
      have : (N : Int) = (ins.length : Int) + 1 := by omega
      simp [this]
    have hN0 : (0 : Int) < (N : Int) := by omega
    have hN0' : 0 < N := by omega
    obtain ⟨bu, offu, rfl, hbu, _, hcu⟩ := HU.out 0 (by rw [hNN]; omega)
    rw [statesL_get] at hcu
    have hcu : ∀ y : Later w4, y.at_.cell? ⟨bu, offu + 0, none⟩ = some (.string ⟨st.toArray⟩) := fun y => y.cell hcu
    have hcu' : ∀ y : Later w4, y.at_.cell? ⟨bu, offu, none⟩ = some (.string ⟨st.toArray⟩) := fun y => hcu y
    have hI4 : ∀ y : Later w4, Calls _ _ _ _ _ := fun y => hIn.out y.at_ (Below.of hbW4.out y.below)
    clear hcu hIn
    obtain ⟨q0, q1, q2, q3, q4, q5, q6, q7⟩ := hbx4.out.later
    obtain ⟨r0, r1, r2⟩ := hby4.out.later
    have r2' := hby4.out.2.2
    go_wp2_with fail
    refine wp_region_later (by kernel_rfl) (by kernel_rfl) ?_; (repeat (go_big_quiet_step ((go_at_call 29; with_reducible exact Calls.later (hI4 _))))); refine wpQuiet_nil ?_; rintro w3 ⟨⟨_, hb3⟩, rfl⟩
    clear q0 q1 q2 q3 q4 q5 q6 q7 r0 r1 r2 r2' hI4 hcu'
    have hbx5 := Lib.hid (hbx4.out.mono hb3)
    have hby5 := Lib.hid (hby4.out.mono hb3)
    have hbW5 := Lib.hid (Below.of hbW4.out hb3)
    have HB45 := Lib.hid hb3
    clear hb3 hbx4 hby4 hbW4 hNe
    obtain ⟨W5, hW5⟩ : ∃ W, W = w3 := ⟨_, rfl⟩
    subst hW5
    go_wp2_with fail
    go_loopg [9] ins.length (fun gg s9 wr => ∃ k : Nat, k ≤ ins.length ∧ ins.length - k ≤ gg ∧ s9 = .int .i64 k ∧ Below W5.heap.size W5 wr)
    case atStart => exact ⟨0, Nat.zero_le _, by omega, rfl, Below.refl _ _⟩
    case round =>
      obtain ⟨k, hk, hg, rfl, hbr⟩ := hrel
      have hbWr := Lib.hid (Below.of hbW5.out hbr)
      have hbxr := Lib.hid (hbx5.out.mono hbr)
      have hbyr := Lib.hid (hby5.out.mono hbr)
      by_cases hlt : k < ins.length
      · have hmea : Hid (∀ g : Nat, ins.length - k ≤ g → ins.length - (k + 1) < g) := fun g h => by omega
        have HG := Lib.hid hg
        obtain ⟨bi, offi, rfl, hbsi, _, hcell⟩ := HS.out k hlt
        have hcell : ∀ y : Later wr, y.at_.cell? ⟨bi, offi + k, none⟩ = some (.string ⟨ins[k].toArray⟩) := fun y => y.cell ((hbWr.out.cell hbsi).trans hcell)
        obtain ⟨bu2, offu2, he2, hbu2, _, hcu⟩ := HU.out k (by rw [hNN]; omega)
        cases he2
        rw [statesL_get] at hcu
        have hcu : ∀ y : Later wr, y.at_.cell? ⟨bu, offu + k, none⟩ = some (.string ⟨(stS c st (ins.take k)).toArray⟩) := fun y => y.cell (((Below.of HB45.out hbr).cell hbu).trans hcu)
        have hl0 : (stS c st (ins.take k)).length ≤ 9223372036854775806 := by
          have := (PC.bitsOk_mem (hStb.out k hk)).2
          omega
        have hly : ins[k].length ≤ 9223372036854775806 := by
          have := (PC.bitsOk_mem (hall.out _ (List.getElem_mem hlt))).2
          omega
        have hVk : ∀ y : Later wr, Calls _ _ _ _ _ := fun y => hV.out (stS c st (ins.take k)) ins[k] y.at_ (Below.of hbWr.out y.below) hl0 hly
        have hvl := valuesS_len c (stS c st (ins.take k)) ins[k]
        have hbit := Lib.hid (valuesS_bits c (stS c st (ins.take k)) ins[k])
        obtain ⟨ha1, ha2⟩ := okAt_true hlt (HOK.out k hlt)
        have HA2 := Lib.hid ha2
        clear ha2
        generalize PC.valuesS c (stS c st (ins.take k)) ins[k] = VS at *
        generalize PC.valuesE c (stS c st (ins.take k)) ins[k] = VE at *
        generalize stS c st (ins.take k) = S0 at *
        generalize ins[k] = y at *
        have hltz : (k : Int) < (ins.length : Int) := by omega
        have hltN : (k : Int) < (N : Int) := by omega
        have hltN' : k < N := by omega
        clear hg
        obtain ⟨q0, q1, q2, q3, q4, q5, q6, q7⟩ := hbxr.out.later
        obtain ⟨r0, r1, r2⟩ := hbyr.out.later
        have r2' := hbyr.out.2.2
        go_wp2_with fail
        refine wp_region_later (by kernel_rfl) (by kernel_rfl) ?_; (repeat (go_big_quiet_step ((go_at_call 14; with_reducible exact Calls.later (hVk _))))); refine wpQuiet_nil ?_; rintro w3 ⟨⟨_, hb3⟩, rfl⟩
        clear q0 q1 q2 q3 q4 q5 q6 q7 r0 r1 r2 r2' hVk hcell hcu
        have hbx6 := Lib.hid (hbxr.out.mono hb3)
        have hby6 := Lib.hid (hbyr.out.mono hb3)
        have hbW6 := Lib.hid (Below.of hbWr.out hb3)
        have hbr6 := Lib.hid (Below.of hbr hb3)
        clear hb3
        obtain ⟨W6, hW6⟩ : ∃ W, W = w3 := ⟨_, rfl⟩
        subst hW6
        obtain ⟨q0, q1, q2, q3, q4, q5, q6, q7⟩ := hbx6.out
        have hAk := Lib.hid (hAl.out VS W6 hbW6.out hbit.out (by omega))
        rw [ha1] at hAk
        clear ha1
        go_wp2_with fail
        refine hAk.out.mono ?_
        rintro e w7 ⟨rfl, hb7⟩
        have hbx7 := Lib.hid (hbx6.out.mono hb7)
        have hby7 := Lib.hid (hby6.out.mono hb7)
        have hbW7 := Lib.hid (Below.of hbW6.out hb7)
        have hbr7 := Lib.hid (Below.of hbr6.out hb7)
        clear q0 q1 q2 q3 q4 q5 q6 q7 hb7
        obtain ⟨q0, q1, q2, q3, q4, q5, q6, q7⟩ := hbx7.out
        obtain ⟨r0, r1, r2⟩ := hby7.out
        by_cases hk1 : k + 1 = ins.length
        · have hkn : ((k : Int) == (ins.length : Int) - 1) = true := beq_iff_eq.2 (by omega)
          have hIs := Lib.hid (rTrue_any VS lit w7 hbrr (by omega))
          rw [HA2.out hk1] at hIs
          have hcl := (hbW7.out.cell hbs).trans HBC.out
          have hbdz : (bd : Int) < (c.bads.length : Int) := by omega
          clear hk1
          go_wp2_with (go_at_call 18; refine hIs.out.mono ?_; rintro e w8 ⟨rfl, rfl⟩)
          go_roundg (ins.length - (k + 1))
          case measure => exact hmea.out _ HG.out
          case rel => exact ⟨k + 1, by omega, by omega, by go_num, hbr7.out⟩
        · have hkn : ((k : Int) == (ins.length : Int) - 1) = false := beq_eq_false_iff_ne.2 (by omega)
          go_wp2_with fail
          go_roundg (ins.length - (k + 1))
          case measure => exact hmea.out _ HG.out
          case rel => exact ⟨k + 1, by omega, by omega, by go_num, hbr7.out⟩
      · have hltz : ¬ (k : Int) < (ins.length : Int) := by omega
        obtain rfl : k = ins.length := by omega
        obtain ⟨r0, r1, r2⟩ := hbyr.out
        go_wp2_with fail
        go_ret
        exact ⟨rfl, hbWr.out⟩
  · have hz2 : (PE != 0) = true := by simpa using hz
    go_wp2_with fail
    refine (h2.out _ hbW2.out).mono ?_
    rintro e w4 ⟨rfl, hb4⟩
    go_wp2_with fail
    go_ret
    exact ⟨rfl, Below.of hbW2.out hb4⟩

end Go.Proofs.YtmnionocehflmaaDoor
