/- Contract: ternary.run. -/
import Derived.Test.YtlakfaalpijhiaaDoorWalkY1
import Derived.Test.YtlakfaalpijhiaaDoorWalkC8
import Derived.Test.YtlakfaalpijhiaaDoorLibQ
namespace Go.Proofs.YtlakfaalpijhiaaDoor
open Go.RowKit Go.Shelf
attribute [local simp] mk_get

theorem enters_run1 : ∀ args w, (callFunc 51 args).run Tryd.prog w = .ok (.enter 51 args) w := enters_of Tryd.func51 (by kernel_rfl) rfl

theorem run1_any (m : List UInt8) (l : Int) (bx g N : Nat) (w : World) (hc : w.cell? ⟨bx, 0, none⟩ = some (.slice (some ⟨g, 0, none⟩) N N)) (hO : OwnB w g g N m) (hr : rng l) (hl : PC.varOf l < N) (_hN : N ≤ 9223372036854775807) :
    Calls Tryd.prog 51 #[.int .i64 l, .pointer (some ⟨bx, 0, none⟩)] w fun e w' => e = .returned (.int .u8 ((PC.ofT m l).toNat : Int)) ∧ ∃ y : Later w, w' = y.at_ := by
  have hln : m.length = N := hO.1
  have hV : ∀ y : Later w, Calls _ _ _ _ _ := fun y => litsVar_any l y.at_ hr
  have hNg := litsNeg_any l w hr
  have hcell := hO.2.cellAt (PC.varOf l) (by omega)
  rw [List.getElem?_map, List.getElem?_eq_getElem (by rw [hln]; exact hl), Option.map_some] at hcell
  obtain ⟨R, hR⟩ : ∃ R, R = ((PC.ofT m l).toNat : Int) := ⟨_, rfl⟩
  rw [← hR]
  rw [PC.ofT, List.getElem?_eq_getElem (by rw [hln]; exact hl), Option.getD_some] at hR
  have HR := Lib.hid hR
  clear hR hO
  generalize m[PC.varOf l]'(by rw [hln]; exact hl) = x at *
  have hO2 : ∀ y : Later w, Calls _ _ _ _ _ := fun y => opp_any x y.at_
  have hcell : ∀ y : Later w, y.at_.cell? ⟨g, PC.varOf l, none⟩ = some (octV x) := fun y => y.cell hcell
  have hc : ∀ y : Later w, y.at_.cell? ⟨bx, 0, none⟩ = some (.slice (some ⟨g, 0, none⟩) N N) := fun y => y.cell hc
  have hlz : (PC.varOf l : Int) < (N : Int) := by omega
  generalize PC.varOf l = v at *
  cases hng : PC.negOf l with
  | true =>
    rw [hng] at hNg HR
    clear hng
    go_enter Tryd.func51, Tryd.ntmps51
    go_wp2_with (go_at_call 37; refine hNg.mono ?_; rintro e w1 ⟨rfl, rfl⟩)
    refine wp_region_later (by kernel_rfl) (by kernel_rfl) ?_; (repeat (go_big_quiet_step ((first | (go_at_call 36; with_reducible exact Calls.later_same (hV _)) | (go_at_call 38; with_reducible exact Calls.later_same (hO2 _)))))); refine wpQuiet_nil ?_; rintro w3 ⟨⟨_, hb3⟩, rfl⟩
    go_wp2_with fail
    go_ret
    exact ⟨by rw [HR.out]; rfl, ⟨⟨_, hb3⟩, rfl⟩⟩
  | false =>
    rw [hng] at hNg HR
    clear hng
    go_enter Tryd.func51, Tryd.ntmps51
    go_wp2_with (go_at_call 37; refine hNg.mono ?_; rintro e w1 ⟨rfl, rfl⟩)
    refine wp_region_later (by kernel_rfl) (by kernel_rfl) ?_; (repeat (go_big_quiet_step ((first | (go_at_call 36; with_reducible exact Calls.later_same (hV _)))))); refine wpQuiet_nil ?_; rintro w3 ⟨⟨_, hb3⟩, rfl⟩
    go_wp2_with fail
    go_ret
    exact ⟨by rw [HR.out]; rfl, ⟨⟨_, hb3⟩, rfl⟩⟩

theorem conv_own {w : World} {B g N : Nat} {xs : List UInt8} (h : OwnB w B g N xs) (hN : N ≤ 9223372036854775807) : (convert 45 9 (.slice (some ⟨g, 0, none⟩) N N)).run Tryd.prog w = .ok (.string ⟨xs.toArray⟩) w := by
  have hoct := h.octs hN
  have := run_convert_bytes_back (P := Tryd.prog) w 45 9 5 ⟨g, 0, none⟩ N xs Tryd.underlying45 Tryd.underlying5 Tryd.underlying9 (fun j hj => by
    obtain ⟨ao, cap, e, _, hh⟩ := hoct
    obtain ⟨b, off, e2, _, h4⟩ := hh j hj
    cases e
    cases e2
    rw [Nat.zero_add] at h4
    rw [Go.WideShapes.add_plain, Nat.zero_add]
    exact h4)
  rw [h.1] at this
  exact this

set_option maxRecDepth 100000 in
set_option maxHeartbeats 8000000 in
theorem run_any (c : PC.Circ) (vc : Value) (st inp : List UInt8) (w : World) (h : IsCirc w vc c) (hR : PC.Right c) (hs : st.length = c.latches.length) (hi : inp.length = c.inputs.length) :
    Calls Tryd.prog 27 #[vc, .string ⟨st.toArray⟩, .string ⟨inp.toArray⟩] w fun e w' => e = .returned (.string ⟨(PC.tvals c st inp).toArray⟩) ∧ Below w.heap.size w w' := by
  obtain ⟨vi, vl, vo, vb, vv, va, vn, rfl, hp, hm⟩ := h
  obtain ⟨ai, capi, rfl, hi1, hi2, hi3⟩ := hp.inputs.open_
  obtain ⟨al, capl, rfl, hl1, hl2, hl3⟩ := hp.latches.open_
  obtain ⟨aa, capa, rfl, ha1, ha2, ha3⟩ := hp.ands.open_
  clear hp
  have HI := Lib.hid hi3
  have HL := Lib.hid hl3
  have HG := Lib.hid ha3
  have HR := Lib.hid hR
  clear hl3 ha3 hi3 hR
  obtain ⟨RS, hRS⟩ : ∃ R, R = PC.tvals c st inp := ⟨_, rfl⟩
  rw [← hRS]
  have HRS := Lib.hid hRS
  clear hRS
  have hb0 := Lib.hid ((Below.refl w.heap.size w).alloc (Nat.le_refl _) (.cells #[.int .i64 c.max, .slice ai c.inputs.length capi, .slice al c.latches.length capl, vo, vb, vv, .slice aa c.ands.length capa, vn] 27))
  have hbx0 := Lib.hid (Box8.new w (.int .i64 c.max) (.slice ai c.inputs.length capi) (.slice al c.latches.length capl) vo vb vv (.slice aa c.ands.length capa) vn 27)
  obtain ⟨W3, hW3⟩ : ∃ W, W = w.alloc (.cells #[.int .i64 c.max, .slice ai c.inputs.length capi, .slice al c.latches.length capl, vo, vb, vv, .slice aa c.ands.length capa, vn] 27) := ⟨_, rfl⟩
  rw [← hW3] at hb0 hbx0
  have HW3 := Lib.hid hW3
  have hsz : W3.heap.size = w.heap.size + 1 := by rw [hW3, World.size_alloc]
  clear hW3
  obtain ⟨hm0, hm1⟩ : 0 ≤ c.max ∧ c.max ≤ 2048 := ⟨HR.out.max0, HR.out.max1⟩
  have hN := Lib.hid (show ((c.max.toNat + 1 : Nat) : Int) = c.max + 1 by omega)
  obtain ⟨N, hNe⟩ : ∃ N, N = c.max.toNat + 1 := ⟨_, rfl⟩
  rw [← hNe] at hN
  have HNE := Lib.hid hNe
  have hN1 : 1 ≤ N ∧ N ≤ 2049 := by omega
  clear hNe
  have hRp := Lib.hid (Repeat_any N (w.heap.size + 1) (W3.alloc (.cells #[.int .u8 48] 5)) (by rw [World.size_alloc]; omega) (by rw [← hsz, World.cell?_alloc_mark]; rfl) hN1.1 (by omega))
  rw [World.size_alloc, hN.out] at hRp
  go_enter Tryd.func27, Tryd.ntmps27
  go_wp2_with fail
  rw [← HW3.out]
  refine hRp.out.mono ?_
  rintro e w4 ⟨rfl, hown, hb4⟩
  obtain ⟨g, hgd⟩ : ∃ g, g = W3.heap.size + 1 := ⟨_, rfl⟩
  rw [← hgd] at hown ⊢
  have hg3 : Hid (W3.heap.size ≤ g) := by show _ ≤ _; omega
  have hb34 : Hid (Below W3.heap.size W3 w4) := Below.of ((Below.refl _ _).alloc (Nat.le_refl _) _) (by rw [World.size_alloc]; exact hb4)
  have hO4 : OwnB w4 g g N (List.replicate N 48) := ⟨List.length_replicate, hown⟩
  have hgl : Hid (g < w4.heap.size) := (hown.lt g rfl).2
  have hNm : N ≤ 9223372036854775807 := by omega
  clear hb4 hown hgd hRp hsz
  have hbx := Lib.hid (heap_alloc_new w4 (.cells #[.slice (some ⟨g, 0, none⟩) N N] 45))
  have hcb : Hid ((w4.alloc (.cells #[.slice (some ⟨g, 0, none⟩) N N] 45)).cell? ⟨w4.heap.size, 0, none⟩ = some (.slice (some ⟨g, 0, none⟩) N N)) := by
    show _ = _
    rw [World.cell?_alloc_mark]; rfl
  have hO5 := Lib.hid (hO4.alloc (.cells #[.slice (some ⟨g, 0, none⟩) N N] 45))
  have hb35 := Lib.hid (hb34.out.alloc hb34.out.size (.cells #[.slice (some ⟨g, 0, none⟩) N N] 45))
  obtain ⟨bx, hbxe⟩ : ∃ b, b = w4.heap.size := ⟨_, rfl⟩
  have hgb : Hid (g ≠ bx) := by show _ ≠ _; have := hgl.out; omega
  obtain ⟨W5, hW5⟩ : ∃ W, W = w4.alloc (.cells #[.slice (some ⟨g, 0, none⟩) N N] 45) := ⟨_, rfl⟩
  rw [← hW5, ← hbxe] at hcb
  rw [← hW5] at hO5 hb35
  clear hbx hO4
  obtain ⟨S0, hS0⟩ : ∃ l, l = List.replicate N (48 : UInt8) := ⟨_, rfl⟩
  rw [← hS0] at hO5
  have HS0 := Lib.hid hS0
  clear hS0
  obtain ⟨q0, q1, q2, q3, q4, q5, q6, q7⟩ := hbx0.out.mono hb34.out
  have r1 := past1 q1
  clear q0 q2 q3 q4 q5 q6 q7
  go_wp2_with fail
  rw [← hW5, ← hbxe]
  clear hW5 hbxe r1 q1
  obtain ⟨f1, hf1⟩ : ∃ f : Nat → List UInt8, ∀ j, f j = PC.setAll S0 ((c.inputs.zip inp).take j) := ⟨_, fun _ => rfl⟩
  have hf10 : Hid (f1 0 = S0) := by rw [hf1]; rfl
  have hin : Hid (inp.length = c.inputs.length) := hi
  have hst0 : Hid (st.length = c.latches.length) := hs
  have hf1s : Hid (∀ j (h : j < c.inputs.length) (h' : j < inp.length), f1 (j + 1) = (f1 j).set (PC.varOf c.inputs[j]) inp[j]) := fun j h h' => by
    rw [hf1, hf1, PC.setAll_take_next _ _ (by rw [List.length_zip]; omega)]
    simp
  have hf1e : Hid (f1 c.inputs.length = PC.setAll S0 (c.inputs.zip inp)) := by
    show _ = _
    rw [hf1, List.take_of_length_le (by rw [List.length_zip]; omega)]
  clear hf1 hs hi
  go_loopg [23] c.inputs.length (fun gg s23 wr => ∃ k : Nat, k ≤ c.inputs.length ∧ c.inputs.length - k ≤ gg ∧ s23 = .int .i64 k ∧ Below W3.heap.size W3 wr ∧ Hid (OwnB wr g g N (f1 k)) ∧ Hid (wr.cell? ⟨bx, 0, none⟩ = some (.slice (some ⟨g, 0, none⟩) N N)))
  case atStart => exact ⟨0, Nat.zero_le _, by omega, rfl, hb35.out, by rw [hf10.out]; exact hO5, hcb⟩
  case round =>
    obtain ⟨k, hk, hg, rfl, hbr, hO, hcr⟩ := hrel
    by_cases hlt : k < c.inputs.length
    · have hmea : Hid (∀ g : Nat, c.inputs.length - k ≤ g → c.inputs.length - (k + 1) < g) := fun g h => by omega
      have HG2 := Lib.hid hg
      have hlti : k < inp.length := by rw [hin.out]; exact hlt
      obtain ⟨b, off, rfl, hbs', hxr, c0⟩ := HI.out k hlt
      have hbwr := Lib.hid (Below.of hb0.out hbr)
      have c0 := (hbwr.out.cell hbs').trans c0
      have hxl := PC.def_lt c HR.out _ (PC.mem_defs_in c _ (List.getElem_mem hlt))
      rw [← HNE.out] at hxl
      have hst := Lib.hid (hf1s.out k hlt hlti)
      generalize hx : c.inputs[k] = x at *
      clear hx
      obtain ⟨y, hy⟩ : ∃ y, inp[k] = y := ⟨_, rfl⟩
      rw [hy] at hst
      have hV : ∀ z : Later wr, Calls _ _ _ _ _ := fun z => litsVar_any x z.at_ hxr
      have hcbl : ∀ z : Later wr, z.at_.cell? ⟨bx, 0, none⟩ = some (.slice (some ⟨g, 0, none⟩) N N) := fun z => z.cell hcr.out
      generalize PC.varOf x = v at *
      have hvl := Lib.hid hxl
      have hvz : (v : Int) < (N : Int) := by omega
      have hltz : (k : Int) < (c.inputs.length : Int) := by omega
      have hltiz : (k : Int) < (inp.length : Int) := by omega
      clear hg hxl
      go_wp2_with fail
      refine wp_region_later_tail 7 (by kernel_rfl) (by kernel_rfl) ?_; simp only [List.take_succ_cons, List.take_zero, List.drop_succ_cons, List.drop_zero]; (repeat (go_big_quiet_step ((go_at_call 36; with_reducible exact Calls.later_same (hV _))))); refine wpQuiet_nil ?_; rintro w3 ⟨⟨_, hb3⟩, rfl⟩
      have hOl : Hid (OwnB w3 g g N _) := hO.out.below hb3
      obtain ⟨⟨y0, hci⟩, hfi⟩ := hOl.out.spot v hvl.out
      obtain ⟨hO5, hg5⟩ := hOl.out.put v y
      have HO5 := Lib.hid hO5
      have HG5 := Lib.hid hg5
      clear hO5 hg5
      clear hV hcbl
      have hcb5 := Lib.hid (HG5.out.cell ((Later.mk _ hb3).cell hcr.out) (by intro e; exact hgb.out (by simpa using e.symm)))
      have hb5 := Lib.hid ((Below.of hbr hb3).grown HG5.out (Below.of hbr hb3).size (fun k e => by cases e; exact hg3.out))
      rw [← hst.out] at HO5
      clear hb3 hOl HG5
      go_wp2_with fail
      go_roundg (c.inputs.length - (k + 1))
      case measure => exact hmea.out _ HG2.out
      case rel => exact ⟨k + 1, by omega, by omega, by go_num, hb5.out, HO5, hcb5⟩
    · have hltz : ¬ (k : Int) < (c.inputs.length : Int) := by omega
      obtain rfl : k = c.inputs.length := by omega
      clear hg hk hlt
      obtain ⟨q0, q1, q2, q3, q4, q5, q6, q7⟩ := hbx0.out.mono hbr
      go_wp2_with fail
      clear q0 q1 q2 q3 q4 q5 q6 q7
      obtain ⟨f2, hf2⟩ : ∃ f : Nat → List UInt8, ∀ j, f j = PC.setAll (f1 c.inputs.length) (((c.latches.map (·.lit)).zip st).take j) := ⟨_, fun _ => rfl⟩
      have hf20 : Hid (f2 0 = f1 c.inputs.length) := by rw [hf2]; rfl
      have hf2s : Hid (∀ j (h : j < c.latches.length) (h' : j < st.length), f2 (j + 1) = (f2 j).set (PC.varOf c.latches[j].lit) st[j]) := fun j h h' => by
        rw [hf2, hf2, PC.setAll_take_next _ _ (by rw [List.length_zip, List.length_map]; omega)]
        simp
      have hf2e : Hid (f2 c.latches.length = PC.start c st inp) := by
        show _ = _
        have := hst0.out
        rw [hf2, List.take_of_length_le (by rw [List.length_zip, List.length_map]; omega), hf1e.out, HS0.out, HNE.out]; rfl
      clear hf2 hf1s
      go_loopg [39] c.latches.length (fun gg s39 wr => ∃ k : Nat, k ≤ c.latches.length ∧ c.latches.length - k ≤ gg ∧ s39 = .int .i64 k ∧ Below W3.heap.size W3 wr ∧ Hid (OwnB wr g g N (f2 k)) ∧ Hid (wr.cell? ⟨bx, 0, none⟩ = some (.slice (some ⟨g, 0, none⟩) N N)))
      case atStart => exact ⟨0, Nat.zero_le _, by omega, rfl, hbr, by rw [hf20.out]; exact hO, hcr⟩
      case round =>
        clear hltz hbr hO hcr
        obtain ⟨k, hk, hg, rfl, hbr, hO, hcr⟩ := hrel
        by_cases hlt : k < c.latches.length
        · have hmea : Hid (∀ g : Nat, c.latches.length - k ≤ g → c.latches.length - (k + 1) < g) := fun g h => by omega
          have HG2 := Lib.hid hg
          have hlti : k < st.length := by rw [hst0.out]; exact hlt
          obtain ⟨b, off, rfl, hbs', ⟨hxr, _, _⟩, c0, c1, c2⟩ := HL.out k hlt
          have hbwr := Below.of hb0.out hbr
          have c0 := (hbwr.cell hbs').trans c0
          have c1 := (hbwr.cell hbs').trans c1
          have c2 := (hbwr.cell hbs').trans c2
          have hxl := PC.def_lt c HR.out _ (PC.mem_defs_lat c _ (List.getElem_mem hlt))
          rw [← HNE.out] at hxl
          have hst := Lib.hid (hf2s.out k hlt hlti)
          generalize hx : c.latches[k] = x at *
          clear hx
          obtain ⟨x, xn, xr⟩ := x
          simp only at hxr c0 c1 c2 hxl
          obtain ⟨y, hy⟩ : ∃ y, st[k] = y := ⟨_, rfl⟩
          rw [hy] at hst
          have hV1 : ∀ W, Calls _ _ _ _ _ := fun W => litsVar_any x W hxr
          have hst : Hid (f2 (k + 1) = (f2 k).set (PC.varOf x) y) := hst.out
          generalize PC.varOf x = v at *
          have hvl := Lib.hid hxl
          have hvz : (v : Int) < (N : Int) := by omega
          have hltz : (k : Int) < (c.latches.length : Int) := by omega
          have hltiz : (k : Int) < (st.length : Int) := by omega
          have hn0 : (wr.alloc (.cells #[.int .i64 x, .int .i64 xn, .int .i64 xr] 44)).cell? ⟨wr.heap.size, 0, none⟩ = some (.int .i64 x) := by rw [World.cell?_alloc_mark]; rfl
          have hOa := Lib.hid (hO.out.alloc (.cells #[.int .i64 x, .int .i64 xn, .int .i64 xr] 44))
          have hba := Lib.hid (hbr.alloc hbr.size (.cells #[.int .i64 x, .int .i64 xn, .int .i64 xr] 44))
          have hca := Lib.hid (past1 hcr.out (.cells #[.int .i64 x, .int .i64 xn, .int .i64 xr] 44))
          obtain ⟨V, hV⟩ : ∃ W, W = wr.alloc (.cells #[.int .i64 x, .int .i64 xn, .int .i64 xr] 44) := ⟨_, rfl⟩
          rw [← hV] at hn0 hOa hba hca
          have HV := Lib.hid hV
          have hVz : ∀ z : Later V, Calls _ _ _ _ _ := fun z => hV1 z.at_
          have hcbl : ∀ z : Later V, z.at_.cell? ⟨bx, 0, none⟩ = some (.slice (some ⟨g, 0, none⟩) N N) := fun z => z.cell hca.out
          have hn0 : ∀ z : Later V, z.at_.cell? ⟨wr.heap.size, 0, none⟩ = some (.int .i64 x) := fun z => z.cell hn0
          clear hg hxl hV hV1
          go_wp2_with fail
          rw [← HV.out]
          refine wp_region_later_tail 8 (by kernel_rfl) (by kernel_rfl) ?_; simp only [List.take_succ_cons, List.take_zero, List.drop_succ_cons, List.drop_zero]; (repeat (go_big_quiet_step ((go_at_call 36; with_reducible exact Calls.later_same (hVz _))))); refine wpQuiet_nil ?_; rintro w3 ⟨⟨_, hb3⟩, rfl⟩
          have hOl : Hid (OwnB w3 g g N _) := hOa.out.below hb3
          obtain ⟨⟨y0, hci⟩, hfi⟩ := hOl.out.spot v hvl.out
          obtain ⟨hO5, hg5⟩ := hOl.out.put v y
          have HO5 := Lib.hid hO5
          have HG5 := Lib.hid hg5
          clear hO5 hg5
          clear hVz hcbl hn0
          have hcb5 := Lib.hid (HG5.out.cell ((Later.mk _ hb3).cell hca.out) (by intro e; exact hgb.out (by simpa using e.symm)))
          have hb5 := Lib.hid ((Below.of hba.out hb3).grown HG5.out (Below.of hba.out hb3).size (fun k e => by cases e; exact hg3.out))
          rw [← hst.out] at HO5
          clear hb3 hOl HG5
          go_wp2_with fail
          go_roundg (c.latches.length - (k + 1))
          case measure => exact hmea.out _ HG2.out
          case rel => exact ⟨k + 1, by omega, by omega, by go_num, hb5.out, HO5, hcb5⟩
        · have hltz : ¬ (k : Int) < (c.latches.length : Int) := by omega
          obtain rfl : k = c.latches.length := by omega
          clear hg hk hlt
          obtain ⟨q0, q1, q2, q3, q4, q5, q6, q7⟩ := hbx0.out.mono hbr
          go_wp2_with fail
          clear q0 q1 q2 q3 q4 q5 q6 q7
          obtain ⟨f3, hf3⟩ : ∃ f : Nat → List UInt8, ∀ j, f j = PC.setGatsT (PC.start c st inp) (c.ands.take j) := ⟨_, fun _ => rfl⟩
          have hf30 : Hid (f3 0 = f2 c.latches.length) := by show _ = _; rw [hf3, hf2e.out]; rfl
          have hf3s : Hid (∀ j (h : j < c.ands.length), f3 (j + 1) = (f3 j).set (PC.varOf c.ands[j].lit) (PC.bothT (PC.ofT (f3 j) c.ands[j].left) (PC.ofT (f3 j) c.ands[j].right))) := fun j h => by
            rw [hf3, hf3, PC.setGatsT_take_next _ _ _ h]
          have hf3e : Hid (f3 c.ands.length = RS) := by
            show _ = _
            rw [hf3, List.take_of_length_le (Nat.le_refl _), HRS.out]; rfl
          clear hf3 hf2e
          go_loopg [57] c.ands.length (fun gg s57 wr => ∃ k : Nat, k ≤ c.ands.length ∧ c.ands.length - k ≤ gg ∧ s57 = .int .i64 k ∧ Below W3.heap.size W3 wr ∧ Hid (OwnB wr g g N (f3 k)) ∧ Hid (wr.cell? ⟨bx, 0, none⟩ = some (.slice (some ⟨g, 0, none⟩) N N)))
          case atStart => exact ⟨0, Nat.zero_le _, by omega, rfl, hbr, by rw [hf30.out]; exact hO, hcr⟩
          case round =>
            clear hltz hbr hO hcr
            obtain ⟨k, hk, hg, rfl, hbr, hO, hcr⟩ := hrel
            by_cases hlt : k < c.ands.length
            · have hmea : Hid (∀ g : Nat, c.ands.length - k ≤ g → c.ands.length - (k + 1) < g) := fun g h => by omega
              have HG2 := Lib.hid hg
              obtain ⟨b, off, rfl, hbs', ⟨hxr, hyr, hzr⟩, c0, c1, c2⟩ := HG.out k hlt
              have hbwr := Below.of hb0.out hbr
              have c0 := (hbwr.cell hbs').trans c0
              have c1 := (hbwr.cell hbs').trans c1
              have c2 := (hbwr.cell hbs').trans c2
              have hgv := PC.gate_vars c HR.out _ (List.getElem_mem hlt)
              rw [← HNE.out] at hgv
              have hst := Lib.hid (hf3s.out k hlt)
              generalize hx : c.ands[k] = x at *
              clear hx
              obtain ⟨x, xl, xr⟩ := x
              simp only at hxr hyr hzr c0 c1 c2 hgv
              have hst : Hid (f3 (k + 1) = (f3 k).set (PC.varOf x) (PC.bothT (PC.ofT (f3 k) xl) (PC.ofT (f3 k) xr))) := hst.out
              have hV1 : ∀ W, Calls _ _ _ _ _ := fun W => litsVar_any x W hxr
              have hn0 : (wr.alloc (.cells #[.int .i64 x, .int .i64 xl, .int .i64 xr] 57)).cell? ⟨wr.heap.size, 0, none⟩ = some (.int .i64 x) := by rw [World.cell?_alloc_mark]; rfl
              have hn1 : (wr.alloc (.cells #[.int .i64 x, .int .i64 xl, .int .i64 xr] 57)).cell? ⟨wr.heap.size, 1, none⟩ = some (.int .i64 xl) := by rw [World.cell?_alloc_mark]; rfl
              have hn2 : (wr.alloc (.cells #[.int .i64 x, .int .i64 xl, .int .i64 xr] 57)).cell? ⟨wr.heap.size, 2, none⟩ = some (.int .i64 xr) := by rw [World.cell?_alloc_mark]; rfl
              have hOa := Lib.hid (hO.out.alloc (.cells #[.int .i64 x, .int .i64 xl, .int .i64 xr] 57))
              have hba := Lib.hid (hbr.alloc hbr.size (.cells #[.int .i64 x, .int .i64 xl, .int .i64 xr] 57))
              have hca := Lib.hid (past1 hcr.out (.cells #[.int .i64 x, .int .i64 xl, .int .i64 xr] 57))
              obtain ⟨V, hV⟩ : ∃ W, W = wr.alloc (.cells #[.int .i64 x, .int .i64 xl, .int .i64 xr] 57) := ⟨_, rfl⟩
              rw [← hV] at hn0 hn1 hn2 hOa hba hca
              have HV := Lib.hid hV
              have hVz : ∀ z : Later V, Calls _ _ _ _ _ := fun z => hV1 z.at_
              have hLl : ∀ z : Later V, Calls Tryd.prog 51 #[.int .i64 xl, .pointer (some ⟨bx, 0, none⟩)] z.at_ fun e w' => e = .returned (.int .u8 ((PC.ofT (f3 k) xl).toNat : Int)) ∧ ∃ y : Later V, w' = y.at_ := fun z =>
                (run1_any (f3 k) xl bx g N z.at_ (z.cell hca.out) (hOa.out.below z.below) hyr hgv.1 hNm).mono fun e w' ⟨he, y, hy⟩ => ⟨he, z.next y.below, hy⟩
              have hLr : ∀ z : Later V, Calls Tryd.prog 51 #[.int .i64 xr, .pointer (some ⟨bx, 0, none⟩)] z.at_ fun e w' => e = .returned (.int .u8 ((PC.ofT (f3 k) xr).toNat : Int)) ∧ ∃ y : Later V, w' = y.at_ := fun z =>
                (run1_any (f3 k) xr bx g N z.at_ (z.cell hca.out) (hOa.out.below z.below) hzr hgv.2.1 hNm).mono fun e w' ⟨he, y, hy⟩ => ⟨he, z.next y.below, hy⟩
              have hvl := Lib.hid hgv.2.2
              generalize PC.ofT (f3 k) xl = p at *
              generalize PC.ofT (f3 k) xr = q at *
              have hBo : ∀ z : Later V, Calls _ _ _ _ _ := fun z => both_any p q z.at_
              generalize PC.bothT p q = y at *
              generalize PC.varOf x = v at *
              have hvz : (v : Int) < (N : Int) := by have := hvl.out; omega
              have hltz : (k : Int) < (c.ands.length : Int) := by omega
              have hcbl : ∀ z : Later V, z.at_.cell? ⟨bx, 0, none⟩ = some (.slice (some ⟨g, 0, none⟩) N N) := fun z => z.cell hca.out
              have hn0 : ∀ z : Later V, z.at_.cell? ⟨wr.heap.size, 0, none⟩ = some (.int .i64 x) := fun z => z.cell hn0
              have hn1 : ∀ z : Later V, z.at_.cell? ⟨wr.heap.size, 1, none⟩ = some (.int .i64 xl) := fun z => z.cell hn1
              have hn2 : ∀ z : Later V, z.at_.cell? ⟨wr.heap.size, 2, none⟩ = some (.int .i64 xr) := fun z => z.cell hn2
              clear hg hgv hV hV1
              go_wp2_with fail
              rw [← HV.out]
              refine wp_region_later_tail 14 (by kernel_rfl) (by kernel_rfl) ?_; simp only [List.take_succ_cons, List.take_zero, List.drop_succ_cons, List.drop_zero]; (repeat (go_big_quiet_step ((first | (go_at_call 36; with_reducible exact Calls.later_same (hVz _)) | (go_at_call 52; with_reducible exact Calls.later_same (hBo _)) | (go_at_call 51; with_reducible exact hLl _) | (go_at_call 51; with_reducible exact hLr _))))); refine wpQuiet_nil ?_; rintro w3 ⟨⟨_, hb3⟩, rfl⟩
              have hOl : Hid (OwnB w3 g g N _) := hOa.out.below hb3
              obtain ⟨⟨y0, hci⟩, hfi⟩ := hOl.out.spot v hvl.out
              obtain ⟨hO5, hg5⟩ := hOl.out.put v y
              have HO5 := Lib.hid hO5
              have HG5 := Lib.hid hg5
              clear hO5 hg5
              clear hVz hcbl hn0 hn1 hn2 hLl hLr hBo
              have hcb5 := Lib.hid (HG5.out.cell ((Later.mk _ hb3).cell hca.out) (by intro e; exact hgb.out (by simpa using e.symm)))
              have hb5 := Lib.hid ((Below.of hba.out hb3).grown HG5.out (Below.of hba.out hb3).size (fun k e => by cases e; exact hg3.out))
              rw [← hst.out] at HO5
              clear hb3 hOl HG5
              go_wp2_with fail
              go_roundg (c.ands.length - (k + 1))
              case measure => exact hmea.out _ HG2.out
              case rel => exact ⟨k + 1, by omega, by omega, by go_num, hb5.out, HO5, hcb5⟩
            · have hltz : ¬ (k : Int) < (c.ands.length : Int) := by omega
              obtain rfl : k = c.ands.length := by omega
              clear hg hk hlt
              have hO9 := hO.out
              rw [hf3e.out] at hO9
              have hconv := conv_own hO9 hNm
              have hcb9 := hcr.out
              clear hO9
              go_wp2_with fail
              go_ret
              exact ⟨rfl, Below.of hb0.out hbr⟩

end Go.Proofs.YtlakfaalpijhiaaDoor
