/- Contracts: the texts' writer: a line each; a circuit's text. -/
import Derived.Test.YtjcaejdokillgaaDoorZWalkJW
import Derived.Test.YtjcaejdokillgaaDoorZL3
import Derived.Test.YtjcaejdokillgaaDoorZL2
import Derived.Test.YtjcaejdokillgaaDoorZP3
import Derived.Test.YtjcaejdokillgaaDoorZC6
namespace Go.Proofs.YtjcaejdokillgaaDoor
open Go.RowKit Go.Shelf
attribute [local simp] mk_get

/-- the writer has written S, R is to come -/
def WrJ (b : Nat) (T R : List UInt8) (w : World) : Prop := ∃ S, S ++ R = T ∧ BIs 60 b b (Lib.byteCells S) w
theorem WrJ.step {b : Nat} {T R R' : List UInt8} {w : World} {S X : List UInt8} (hS : S ++ R = T) (hR : R = X ++ R') (h : BIs 60 b b (Lib.byteCells (S ++ X)) w) : WrJ b T R' w :=
  ⟨S ++ X, by rw [List.append_assoc, ← hR, hS], h⟩

set_option maxRecDepth 100000 in
set_option maxHeartbeats 4000000 in
theorem jwEach_any (b : Nat) (T R : List UInt8) (l : List Int) (v : Value) (w0 w : World) (hI : Ints w0 v l) (h0 : Below w0.heap.size w0 w) (hb : w0.heap.size ≤ b) (hW : WrJ b T (l.flatMap (fun x => PA.lineT [] (PJ.oneG x)) ++ R) w) (hB : b ≤ w.heap.size) (hT : T.length ≤ 1000000) :
    Calls Tryd.prog 26 #[.pointer (some ⟨b, 0, none⟩), v] w fun e w' => e = .returned (.tuple #[]) ∧ WrJ b T R w' ∧ Below b w w' := by
  obtain ⟨ao, cap, rfl, h1, h2, h3⟩ := hI.open_
  have HI := Lib.hid h3
  have H0 := Lib.hid h0
  have HBb := Lib.hid hb
  have HW := Lib.hid hW
  have HBw := Lib.hid hB
  have HT := Lib.hid hT
  clear hI h3 h0 hb hW hB hT
  go_enter Tryd.func26, Tryd.ntmps26
  go_wp2_with fail
  go_loopg [8] l.length (fun gg s8 wr => ∃ k : Nat, k ≤ l.length ∧ l.length - k ≤ gg ∧ s8 = .int .i64 k ∧ Hid (Below b w wr) ∧ Hid (WrJ b T ((l.drop k).flatMap (fun x => PA.lineT [] (PJ.oneG x)) ++ R) wr))
  case atStart => exact ⟨0, Nat.zero_le _, by omega, rfl, Below.refl _ _, by rw [List.drop_zero]; exact HW.out⟩
  case round =>
    obtain ⟨k, hk, hg, rfl, hbr, hWr⟩ := hrel
    by_cases hlt : k < l.length
    · obtain ⟨b', off, rfl, hbs, hr0, c0⟩ := HI.out k hlt
      have hmea : Hid (∀ g : Nat, l.length - k ≤ g → l.length - (k + 1) < g) := fun g h => by omega
      have HG := Lib.hid hg
      have hk1 : Hid (k + 1 ≤ l.length) := hlt
      have hbx : Below w0.heap.size w0 wr := H0.out.trans (hbr.out.mono HBb.out)
      have c0 := (hbx.cell hbs).trans c0
      have hltz : (k : Int) < (l.length : Int) := by omega
      obtain ⟨S, hS, hBI⟩ := hWr.out
      have hdr : Hid ((l.drop k).flatMap (fun x => PA.lineT [] (PJ.oneG x)) ++ R = PA.lineT [] [l[k]] ++ ((l.drop (k + 1)).flatMap (fun x => PA.lineT [] (PJ.oneG x)) ++ R)) := by
        show _ = _
        rw [List.drop_eq_getElem_cons hlt, List.flatMap_cons, List.append_assoc]
        rfl
      have hSl : Hid (S.length ≤ 1000000000) := by
        have := congrArg List.length hS
        rw [List.length_append] at this
        have := HT.out
        show _ ≤ _
        omega
      have HS := Lib.hid hS
      generalize l[k] = x at *
      have hwb := bs_lt hBI
      have hl := Lib.hid (jwLine_any b b wr.heap.size S [x] (wr.alloc (.cells #[.int .i64 x] 3)) (bs_mono hBI ((Below.refl _ _).alloc (Nat.le_refl _) _)) (RowL.new wr [.int .i64 x]) (by omega) (by intro z hz; rw [List.mem_singleton.1 hz]; exact hr0) (by simp) (by simp; omega) hSl.out)
      have hba : Hid (Below b w (wr.alloc (.cells #[.int .i64 x] 3))) := hbr.out.alloc (by omega) _
      clear hS hBI hbr hWr hbx hr0 hg hlt hk hwb
      go_wp2_with fail
      refine hl.out.mono ?_
      rintro e w5 ⟨rfl, hB5, hb5, _⟩
      have hb6 : Hid (Below b w w5) := hba.out.trans hb5
      go_wp2_with fail
      go_roundg (l.length - (k + 1))
      case measure => exact hmea.out _ HG.out
      case rel => exact ⟨k + 1, hk1.out, Nat.le_refl _, by go_num, hb6, WrJ.step HS.out hdr.out hB5⟩
    · have hltz : ¬ (k : Int) < (l.length : Int) := by omega
      obtain rfl : k = l.length := by omega
      clear hk hg hlt
      go_wp2_with fail
      go_end0
      refine ⟨rfl, ?_, hbr.out⟩
      have := hWr.out
      rw [List.drop_length, List.flatMap_nil, List.nil_append] at this
      exact this

set_option maxRecDepth 100000 in
set_option maxHeartbeats 16000000 in
theorem jPrint_any (c : PC.Circ) (vc : Value) (w : World) (h : IsCirc w vc c) :
    Calls Tryd.prog 10 #[vc] w fun e w' => e = .returned (.tuple #[.string ⟨(if PC.chk c then PJ.text c else []).toArray⟩, .int .i64 (if PC.chk c then 0 else 9)]) ∧ Below w.heap.size w w' := by
  have HC := Lib.hid h
  have hO := Lib.hid fun y (hy : Below w.heap.size w y) => cCheck_any c vc y (h.mono hy)
  obtain ⟨xi, xj, xl, xm, xo, xp, xb, xc, xv, xw, xa, xq, xn, xr, rfl, hp⟩ := row_slices h
  have HP := Lib.hid hp
  clear h hp
  have r1 := RowL.new (T := 27) w [.int .i64 c.max, .slice xi c.inputs.length xj, .slice xl c.latches.length xm, .slice xo c.outputs.length xp, .slice xb c.bads.length xc, .slice xv c.invars.length xw, .slice xa c.ands.length xq, .slice xn c.names.length xr]
  have hb0 := (Below.refl w.heap.size w).alloc (Nat.le_refl _) (.cells #[.int .i64 c.max, .slice xi c.inputs.length xj, .slice xl c.latches.length xm, .slice xo c.outputs.length xp, .slice xb c.bads.length xc, .slice xv c.invars.length xw, .slice xa c.ands.length xq, .slice xn c.names.length xr] 27)
  obtain ⟨X, hX⟩ : ∃ X, X = w.alloc (.cells #[.int .i64 c.max, .slice xi c.inputs.length xj, .slice xl c.latches.length xm, .slice xo c.outputs.length xp, .slice xb c.bads.length xc, .slice xv c.invars.length xw, .slice xa c.ands.length xq, .slice xn c.names.length xr] 27) := ⟨_, rfl⟩
  rw [← hX] at r1 hb0
  have R1 := Lib.hid r1
  have HB0 := Lib.hid hb0
  have HX := Lib.hid hX
  clear hX r1 hb0
  simp only [PC.pchk_eq] at hO
  cases hck : PC.chk c with
  | false =>
    rw [hck] at hO
    have q := R1.out
    have q0 := q.cell 0 _ rfl
    have q1 := q.cell 1 _ rfl
    have q2 := q.cell 2 _ rfl
    have q3 := q.cell 3 _ rfl
    have q4 := q.cell 4 _ rfl
    have q5 := q.cell 5 _ rfl
    have q6 := q.cell 6 _ rfl
    have q7 := q.cell 7 _ rfl
    rw [HX.out] at q0 q1 q2 q3 q4 q5 q6 q7
    go_enter Tryd.func10, Tryd.ntmps10
    go_wp2_with fail
    rw [← HX.out]
    refine (hO.out _ HB0.out).mono ?_
    rintro e w1 ⟨rfl, hb1⟩
    clear q q0 q1 q2 q3 q4 q5 q6 q7
    go_wp2_with fail
    go_ret2
    exact ⟨rfl, Below.of HB0.out hb1⟩
  | true =>
    rw [hck] at hO
    have HR := Lib.hid (PC.right_of c hck)
    have HCK := Lib.hid hck
    have HTL := Lib.hid (PJ.text_len hck)
    obtain ⟨T, hT⟩ : ∃ T, T = PJ.text c := ⟨_, rfl⟩
    have HT := Lib.hid hT
    rw [if_pos rfl, if_pos rfl]
    rw [← hT] at HTL ⊢
    clear hT hck
    have q := R1.out
    have q0 := q.cell 0 _ rfl
    have q1 := q.cell 1 _ rfl
    have q2 := q.cell 2 _ rfl
    have q3 := q.cell 3 _ rfl
    have q4 := q.cell 4 _ rfl
    have q5 := q.cell 5 _ rfl
    have q6 := q.cell 6 _ rfl
    have q7 := q.cell 7 _ rfl
    rw [HX.out] at q0 q1 q2 q3 q4 q5 q6 q7
    go_enter Tryd.func10, Tryd.ntmps10
    go_wp2_with fail
    rw [← HX.out]
    refine (hO.out _ HB0.out).mono ?_
    rintro e w1 ⟨rfl, hb1⟩
    clear q q0 q1 q2 q3 q4 q5 q6 q7
    clear HX
    have HB1 := Lib.hid (Below.of HB0.out hb1)
    have S1 := Lib.hid (R1.out.mono hb1)
    have HP1 := Lib.hid (HP.out.mono HB1.out)
    have hS1 : Hid (∀ o, RowL 27 (w1.alloc o) w.heap.size [.int .i64 c.max, .slice xi c.inputs.length xj, .slice xl c.latches.length xm, .slice xo c.outputs.length xp, .slice xb c.bads.length xc, .slice xv c.invars.length xw, .slice xa c.ands.length xq, .slice xn c.names.length xr]) := fun o => S1.out.mono ((Below.refl _ _).alloc (Nat.le_refl _) _)
    clear hb1 R1 HB0 hO
    have hB0 := Lib.hid (b_new w1 60)
    have q := hS1.out (.cells #[.pointer none, .slice none 0 0] 60)
    have q0 := q.cell 0 _ rfl
    have q1 := q.cell 1 _ rfl
    have q2 := q.cell 2 _ rfl
    have q3 := q.cell 3 _ rfl
    have q4 := q.cell 4 _ rfl
    have q5 := q.cell 5 _ rfl
    have q6 := q.cell 6 _ rfl
    have q7 := q.cell 7 _ rfl
    have a0 := HR.out.max0
    have a1 := HR.out.max1
    have b2 := HR.out.ins
    have b3 := HR.out.lats
    have b4 := HR.out.outs
    have b5 := HR.out.bads
    have b6 := HR.out.invs
    have b7 := PC.ands_len c HR.out
    have hl1 := Lib.hid (jwHead_any w1.heap.size w1.heap.size (w1.alloc (.cells #[.pointer none, .slice none 0 0] 60)).heap.size [] (PA.headN c) ((w1.alloc (.cells #[.pointer none, .slice none 0 0] 60)).alloc (.cells #[.int .i64 c.max, .int .i64 (c.inputs.length : Int), .int .i64 (c.latches.length : Int), .int .i64 (c.outputs.length : Int), .int .i64 (c.ands.length : Int), .int .i64 (c.bads.length : Int), .int .i64 (c.invars.length : Int)] 3)) (bs_mono hB0.out ((Below.refl _ _).alloc (Nat.le_refl _) _)) (RowL.new (w1.alloc (.cells #[.pointer none, .slice none 0 0] 60)) ((PA.headN c).map (Value.int .i64))) (by simp) (fun x hx => by have := PJ.head_rng HR.out x hx; unfold rng; omega) (by simp [PA.headN]) (by simp; omega) (by simp))
    rw [World.size_alloc] at hl1
    clear a0 a1
    go_wp2_with fail
    refine hl1.out.mono ?_
    rintro e w2 ⟨rfl, hB2, hb2, _⟩
    have hb2 : Hid (Below w1.heap.size w1 w2) := (((Below.refl _ _).alloc (Nat.le_refl _) _).alloc (by simp) _).trans hb2
    rw [List.nil_append] at hB2
    have hW2 : Hid (WrJ w1.heap.size T (PJ.text1 c) w2) := ⟨_, HT.out.symm, hB2⟩
    clear hB2 hl1
    clear q q0 q1 q2 q3 q4 q5 q6 q7
    have q := S1.out.mono hb2.out
    have q0 := q.cell 0 _ rfl
    have q1 := q.cell 1 _ rfl
    have q2 := q.cell 2 _ rfl
    have q3 := q.cell 3 _ rfl
    have q4 := q.cell 4 _ rfl
    have q5 := q.cell 5 _ rfl
    have q6 := q.cell 6 _ rfl
    have q7 := q.cell 7 _ rfl
    have hE := Lib.hid (jwEach_any w1.heap.size T (PJ.text2 c) c.inputs (.slice xi c.inputs.length xj) w1 w2 HP1.out.inputs hb2.out (Nat.le_refl _) hW2.out hb2.out.size HTL.out)
    go_wp2_with fail
    refine hE.out.mono ?_
    rintro e w3 ⟨rfl, hW3, hb3⟩
    have hb3 : Hid (Below w1.heap.size w1 w3) := hb2.out.trans hb3
    have hW3 := Lib.hid hW3
    clear hE hW2 hb2
    clear q q0 q1 q2 q3 q4 q5 q6 q7
    have q := S1.out.mono hb3.out
    have q0 := q.cell 0 _ rfl
    have q1 := q.cell 1 _ rfl
    have q2 := q.cell 2 _ rfl
    have q3 := q.cell 3 _ rfl
    have q4 := q.cell 4 _ rfl
    have q5 := q.cell 5 _ rfl
    have q6 := q.cell 6 _ rfl
    have q7 := q.cell 7 _ rfl
    go_wp2_with fail
    clear q q0 q1 q2 q3 q4 q5 q6 q7
    go_loopg [49] c.latches.length (fun gg s49 wr => ∃ k : Nat, k ≤ c.latches.length ∧ c.latches.length - k ≤ gg ∧ s49 = .int .i64 k ∧ Hid (Below w1.heap.size w1 wr) ∧ Hid (WrJ w1.heap.size T ((c.latches.drop k).flatMap (fun x => PA.lineT [] (PJ.latG x)) ++ PJ.text3 c) wr))
    case atStart => exact ⟨0, Nat.zero_le _, by omega, rfl, hb3.out, by rw [List.drop_zero]; exact hW3.out⟩
    case round =>
      obtain ⟨k, hk, hg, rfl, hbr, hWr⟩ := hrel
      by_cases hlt : k < c.latches.length
      · obtain ⟨b', off, rfl, hbs, ⟨hr0, hr1, hr2⟩, c0, c1, c2⟩ := HP.out.latches.at_ k hlt
        have hmea : ∀ g : Nat, c.latches.length - k ≤ g → c.latches.length - (k + 1) < g := fun g h => by omega
        have hBw := Below.of HB1.out hbr.out
        have c0 := (hBw.cell hbs).trans c0
        have c1 := (hBw.cell hbs).trans c1
        have c2 := (hBw.cell hbs).trans c2
        have hltz : (k : Int) < (c.latches.length : Int) := by omega
        obtain ⟨S, hS, hBI⟩ := hWr.out
        have hwb := bs_lt hBI
        have hSl : Hid (S.length ≤ 1000000000) := by
          have := congrArg List.length hS
          rw [List.length_append] at this
          have := HTL.out
          show _ ≤ _
          omega
        have HS := Lib.hid hS
        have hdr : Hid ((c.latches.drop k).flatMap (fun x => PA.lineT [] (PJ.latG x)) ++ PJ.text3 c = PA.lineT [] (if c.latches[k].reset = 0 then [c.latches[k].lit, c.latches[k].next] else [c.latches[k].lit, c.latches[k].next, c.latches[k].reset]) ++ ((c.latches.drop (k + 1)).flatMap (fun x => PA.lineT [] (PJ.latG x)) ++ PJ.text3 c)) := by
          show _ = _
          rw [List.drop_eq_getElem_cons hlt, List.flatMap_cons, List.append_assoc]
          rfl
        generalize c.latches[k].lit = x at *
        generalize c.latches[k].next = xn at *
        generalize c.latches[k].reset = xr' at *
        obtain ⟨V, hV⟩ : ∃ V, V = wr.alloc (.cells #[.int .i64 x, .int .i64 xn, .int .i64 xr'] 64) := ⟨_, rfl⟩
        have hBV : Hid (BIs 60 w1.heap.size w1.heap.size (Lib.byteCells S) V) := by rw [hV]; exact bs_mono hBI ((Below.refl _ _).alloc (Nat.le_refl _) _)
        have hbV : Hid (Below w1.heap.size w1 V) := by rw [hV]; exact hbr.out.alloc hbr.out.size _
        have hVs : Hid (w1.heap.size ≤ V.heap.size) := hbV.out.size
        have hVg : Hid (w1.heap.size < V.heap.size) := by show _ < _; rw [hV]; simp; omega
        clear hS hBI hBw hbr hWr hwb
        by_cases h0 : xr' = 0
        · rw [if_pos h0] at hdr
          subst h0
          have hl := Lib.hid (jwLine_any w1.heap.size w1.heap.size V.heap.size S [x, xn] (V.alloc (.cells #[.int .i64 x, .int .i64 xn] 3)) (bs_mono hBV.out ((Below.refl _ _).alloc (Nat.le_refl _) _)) (RowL.new V _) (by have := hVg.out; omega) (by simpa using And.intro hr0 hr1) (by simp) (by simp; have := hVs.out; omega) hSl.out)
          rw [hV] at hl
          try rw [World.size_alloc] at hl
          go_wp2_with fail
          refine hl.out.mono ?_
          rintro e w5 ⟨rfl, hB5, hb5, hk5⟩
          have hb6 : Hid (Below w1.heap.size w1 w5) := (hbV.out.alloc hVs.out _).trans (by rw [hV]; exact hb5)
          go_wp2_with fail
          go_roundg (c.latches.length - (k + 1))
          case measure => exact hmea _ hg
          case rel => exact ⟨k + 1, by omega, by omega, by go_num, hb6, WrJ.step HS.out hdr.out hB5⟩
        · rw [if_neg h0] at hdr
          have h0b : (xr' == 0) = false := by simpa using h0
          have hl := Lib.hid (jwLine_any w1.heap.size w1.heap.size V.heap.size S [x, xn, xr'] (V.alloc (.cells #[.int .i64 x, .int .i64 xn, .int .i64 xr'] 3)) (bs_mono hBV.out ((Below.refl _ _).alloc (Nat.le_refl _) _)) (RowL.new V _) (by have := hVg.out; omega) (by simpa using And.intro hr0 (And.intro hr1 hr2)) (by simp) (by simp; have := hVs.out; omega) hSl.out)
          rw [hV] at hl
          try rw [World.size_alloc] at hl
          go_wp2_with fail
          refine hl.out.mono ?_
          rintro e w5 ⟨rfl, hB5, hb5, hk5⟩
          have hb6 : Hid (Below w1.heap.size w1 w5) := (hbV.out.alloc hVs.out _).trans (by rw [hV]; exact hb5)
          go_wp2_with fail
          go_roundg (c.latches.length - (k + 1))
          case measure => exact hmea _ hg
          case rel => exact ⟨k + 1, by omega, by omega, by go_num, hb6, WrJ.step HS.out hdr.out hB5⟩
      · have hltz : ¬ (k : Int) < (c.latches.length : Int) := by omega
        obtain rfl : k = c.latches.length := by omega
        rw [List.drop_length, List.flatMap_nil, List.nil_append] at hWr
        clear hk hg hlt
        have q := S1.out.mono hbr.out
        have q0 := q.cell 0 _ rfl
        have q1 := q.cell 1 _ rfl
        have q2 := q.cell 2 _ rfl
        have q3 := q.cell 3 _ rfl
        have q4 := q.cell 4 _ rfl
        have q5 := q.cell 5 _ rfl
        have q6 := q.cell 6 _ rfl
        have q7 := q.cell 7 _ rfl
        have hE := Lib.hid (jwEach_any w1.heap.size T (PJ.text4 c) c.outputs (.slice xo c.outputs.length xp) w1 wr HP1.out.outputs hbr.out (Nat.le_refl _) hWr.out hbr.out.size HTL.out)
        go_wp2_with fail
        refine hE.out.mono ?_
        rintro e wa ⟨rfl, hW_wa, hb_wa⟩
        have hb_wa : Hid (Below w1.heap.size w1 wa) := hbr.out.trans hb_wa
        have hW_wa := Lib.hid hW_wa
        clear hE hWr hbr
        clear q q0 q1 q2 q3 q4 q5 q6 q7
        have q := S1.out.mono hb_wa.out
        have q0 := q.cell 0 _ rfl
        have q1 := q.cell 1 _ rfl
        have q2 := q.cell 2 _ rfl
        have q3 := q.cell 3 _ rfl
        have q4 := q.cell 4 _ rfl
        have q5 := q.cell 5 _ rfl
        have q6 := q.cell 6 _ rfl
        have q7 := q.cell 7 _ rfl
        have hE := Lib.hid (jwEach_any w1.heap.size T (PJ.text5 c) c.bads (.slice xb c.bads.length xc) w1 wa HP1.out.bads hb_wa.out (Nat.le_refl _) hW_wa.out hb_wa.out.size HTL.out)
        go_wp2_with fail
        refine hE.out.mono ?_
        rintro e wb ⟨rfl, hW_wb, hb_wb⟩
        have hb_wb : Hid (Below w1.heap.size w1 wb) := hb_wa.out.trans hb_wb
        have hW_wb := Lib.hid hW_wb
        clear hE hW_wa hb_wa
        clear q q0 q1 q2 q3 q4 q5 q6 q7
        have q := S1.out.mono hb_wb.out
        have q0 := q.cell 0 _ rfl
        have q1 := q.cell 1 _ rfl
        have q2 := q.cell 2 _ rfl
        have q3 := q.cell 3 _ rfl
        have q4 := q.cell 4 _ rfl
        have q5 := q.cell 5 _ rfl
        have q6 := q.cell 6 _ rfl
        have q7 := q.cell 7 _ rfl
        have hE := Lib.hid (jwEach_any w1.heap.size T (PJ.text6 c) c.invars (.slice xv c.invars.length xw) w1 wb HP1.out.invars hb_wb.out (Nat.le_refl _) hW_wb.out hb_wb.out.size HTL.out)
        go_wp2_with fail
        refine hE.out.mono ?_
        rintro e wc ⟨rfl, hW_wc, hb_wc⟩
        have hb_wc : Hid (Below w1.heap.size w1 wc) := hb_wb.out.trans hb_wc
        have hW_wc := Lib.hid hW_wc
        clear hE hW_wb hb_wb
        clear q q0 q1 q2 q3 q4 q5 q6 q7
        have q := S1.out.mono hb_wc.out
        have q0 := q.cell 0 _ rfl
        have q1 := q.cell 1 _ rfl
        have q2 := q.cell 2 _ rfl
        have q3 := q.cell 3 _ rfl
        have q4 := q.cell 4 _ rfl
        have q5 := q.cell 5 _ rfl
        have q6 := q.cell 6 _ rfl
        have q7 := q.cell 7 _ rfl
        go_wp2_with fail
        clear q q0 q1 q2 q3 q4 q5 q6 q7
        go_loopg [88] c.ands.length (fun gg s88 wr => ∃ k : Nat, k ≤ c.ands.length ∧ c.ands.length - k ≤ gg ∧ s88 = .int .i64 k ∧ Hid (Below w1.heap.size w1 wr) ∧ Hid (WrJ w1.heap.size T ((c.ands.drop k).flatMap (fun x => PA.lineT [] (PJ.gatG x)) ++ PJ.text7 c) wr))
        case atStart => exact ⟨0, Nat.zero_le _, by omega, rfl, hb_wc.out, by rw [List.drop_zero]; exact hW_wc.out⟩
        case round =>
          obtain ⟨k, hk, hg, rfl, hbr, hWr⟩ := hrel
          by_cases hlt : k < c.ands.length
          · obtain ⟨b', off, rfl, hbs, ⟨hr0, hr1, hr2⟩, c0, c1, c2⟩ := HP.out.ands.at_ k hlt
            have hmea : ∀ g : Nat, c.ands.length - k ≤ g → c.ands.length - (k + 1) < g := fun g h => by omega
            have hBw := Below.of HB1.out hbr.out
            have c0 := (hBw.cell hbs).trans c0
            have c1 := (hBw.cell hbs).trans c1
            have c2 := (hBw.cell hbs).trans c2
            have hltz : (k : Int) < (c.ands.length : Int) := by omega
            obtain ⟨S, hS, hBI⟩ := hWr.out
            have hwb := bs_lt hBI
            have hSl : Hid (S.length ≤ 1000000000) := by
              have := congrArg List.length hS
              rw [List.length_append] at this
              have := HTL.out
              show _ ≤ _
              omega
            have HS := Lib.hid hS
            have hdr : Hid ((c.ands.drop k).flatMap (fun x => PA.lineT [] (PJ.gatG x)) ++ PJ.text7 c = PA.lineT [] [c.ands[k].lit, c.ands[k].left, c.ands[k].right] ++ ((c.ands.drop (k + 1)).flatMap (fun x => PA.lineT [] (PJ.gatG x)) ++ PJ.text7 c)) := by
              show _ = _
              rw [List.drop_eq_getElem_cons hlt, List.flatMap_cons, List.append_assoc]
              rfl
            generalize c.ands[k].lit = x at *
            generalize c.ands[k].left = xn at *
            generalize c.ands[k].right = xr' at *
            obtain ⟨V, hV⟩ : ∃ V, V = wr.alloc (.cells #[.int .i64 x, .int .i64 xn, .int .i64 xr'] 66) := ⟨_, rfl⟩
            have hBV : Hid (BIs 60 w1.heap.size w1.heap.size (Lib.byteCells S) V) := by rw [hV]; exact bs_mono hBI ((Below.refl _ _).alloc (Nat.le_refl _) _)
            have hbV : Hid (Below w1.heap.size w1 V) := by rw [hV]; exact hbr.out.alloc hbr.out.size _
            have hVs : Hid (w1.heap.size ≤ V.heap.size) := hbV.out.size
            have hVg : Hid (w1.heap.size < V.heap.size) := by show _ < _; rw [hV]; simp; omega
            clear hS hBI hBw hbr hWr hwb
            have hl := Lib.hid (jwLine_any w1.heap.size w1.heap.size V.heap.size S [x, xn, xr'] (V.alloc (.cells #[.int .i64 x, .int .i64 xn, .int .i64 xr'] 3)) (bs_mono hBV.out ((Below.refl _ _).alloc (Nat.le_refl _) _)) (RowL.new V _) (by have := hVg.out; omega) (by simpa using And.intro hr0 (And.intro hr1 hr2)) (by simp) (by simp; have := hVs.out; omega) hSl.out)
            rw [hV] at hl
            try rw [World.size_alloc] at hl
            go_wp2_with fail
            refine hl.out.mono ?_
            rintro e w5 ⟨rfl, hB5, hb5, hk5⟩
            have hb6 : Hid (Below w1.heap.size w1 w5) := (hbV.out.alloc hVs.out _).trans (by rw [hV]; exact hb5)
            go_wp2_with fail
            go_roundg (c.ands.length - (k + 1))
            case measure => exact hmea _ hg
            case rel => exact ⟨k + 1, by omega, by omega, by go_num, hb6, WrJ.step HS.out hdr.out hB5⟩
          · have hltz : ¬ (k : Int) < (c.ands.length : Int) := by omega
            obtain rfl : k = c.ands.length := by omega
            rw [List.drop_length, List.flatMap_nil, List.nil_append] at hWr
            clear hk hg hlt
            have q := S1.out.mono hbr.out
            have q0 := q.cell 0 _ rfl
            have q1 := q.cell 1 _ rfl
            have q2 := q.cell 2 _ rfl
            have q3 := q.cell 3 _ rfl
            have q4 := q.cell 4 _ rfl
            have q5 := q.cell 5 _ rfl
            have q6 := q.cell 6 _ rfl
            have q7 := q.cell 7 _ rfl
            have HW8 : Hid (WrJ w1.heap.size T (c.names.flatMap PA.namT ++ []) wr) := by rw [List.append_nil]; exact hWr.out
            have HB8 := Lib.hid hbr.out
            clear hWr hbr
            go_wp2_with fail
            clear q q0 q1 q2 q3 q4 q5 q6 q7
            go_loopg [105] c.names.length (fun gg s105 wr => ∃ k : Nat, k ≤ c.names.length ∧ c.names.length - k ≤ gg ∧ s105 = .int .i64 k ∧ Hid (Below w1.heap.size w1 wr) ∧ Hid (WrJ w1.heap.size T ((c.names.drop k).flatMap (PA.namT) ++ []) wr))
            case atStart => exact ⟨0, Nat.zero_le _, by omega, rfl, HB8.out, by rw [List.drop_zero]; exact HW8.out⟩
            case round =>
              obtain ⟨k, hk, hg, rfl, hbr, hWr⟩ := hrel
              by_cases hlt : k < c.names.length
              · obtain ⟨b', off, rfl, hbs, ⟨hr0, hr1, hr2⟩, c0, c1, c2⟩ := HP.out.names.at_ k hlt
                have hmea : ∀ g : Nat, c.names.length - k ≤ g → c.names.length - (k + 1) < g := fun g h => by omega
                have hBw := Below.of HB1.out hbr.out
                have c0 := (hBw.cell hbs).trans c0
                have c1 := (hBw.cell hbs).trans c1
                have c2 := (hBw.cell hbs).trans c2
                have hltz : (k : Int) < (c.names.length : Int) := by omega
                obtain ⟨S, hS, hBI⟩ := hWr.out
                have hwb := bs_lt hBI
                have hSl : Hid (S.length ≤ 1000000000) := by
                  have := congrArg List.length hS
                  rw [List.length_append] at this
                  have := HTL.out
                  show _ ≤ _
                  omega
                have HS := Lib.hid hS
                have hkb : k ≤ 10241 := by have := (PA.names_ok HCK.out).1; omega
                have hk1 : Hid (k + 1 ≤ c.names.length) := hlt
                have hnt := PA.namT_len HCK.out ((PA.names_ok HCK.out).2 _ (List.getElem_mem hlt))
                have hdr : Hid ((c.names.drop k).flatMap PA.namT ++ [] = (c.names[k].kind ++ P01.decI c.names[k].at_ ++ [32] ++ c.names[k].text ++ [10]) ++ ((c.names.drop (k + 1)).flatMap PA.namT ++ [])) := by
                  show _ = _
                  rw [List.drop_eq_getElem_cons hlt, List.flatMap_cons, List.append_assoc]
                  rfl
                unfold PA.namT at hnt
                generalize c.names[k].kind = nk at *
                generalize c.names[k].at_ = na at *
                generalize c.names[k].text = nt at *
                have hnP : ∀ y, _ := fun y => Print_any na y hr0.1 hr0.2
                generalize hD : P01.decI na = D at *
                obtain ⟨V, hV⟩ : ∃ V, V = wr.alloc (.cells #[.string ⟨nk.toArray⟩, .int .i64 na, .string ⟨nt.toArray⟩] 68) := ⟨_, rfl⟩
                have hrw : RowL 68 V wr.heap.size [.string ⟨nk.toArray⟩, .int .i64 na, .string ⟨nt.toArray⟩] := by rw [hV]; exact RowL.new wr _
                have hBV : Hid (BIs 60 w1.heap.size w1.heap.size (Lib.byteCells S) V) := by rw [hV]; exact bs_mono hBI ((Below.refl _ _).alloc (Nat.le_refl _) _)
                have hbV : Hid (Below w1.heap.size w1 V) := by rw [hV]; exact hbr.out.alloc hbr.out.size _
                have hVs : Hid (w1.heap.size ≤ V.heap.size) := hbV.out.size
                have d0 : ∀ x : Later V, _ := fun x => (hrw.mono x.below).cell 0 _ rfl
                have d1 : ∀ x : Later V, _ := fun x => (hrw.mono x.below).cell 1 _ rfl
                have d2 : ∀ x : Later V, _ := fun x => (hrw.mono x.below).cell 2 _ rfl
                have hPr : ∀ x : Later V, _ := fun x => hnP x.at_
                simp only [List.length_append, List.length_cons, List.length_nil] at hnt
                obtain ⟨M1, hM1⟩ : ∃ M, M = nk ++ D := ⟨_, rfl⟩
                obtain ⟨M2, hM2⟩ : ∃ M, M = M1 ++ [32] := ⟨_, rfl⟩
                obtain ⟨M3, hM3⟩ : ∃ M, M = M2 ++ nt := ⟨_, rfl⟩
                have k1 : (⟨nk.toArray⟩ : ByteArray) ++ ⟨D.toArray⟩ = ⟨M1.toArray⟩ := by rw [hM1]; exact cat_eq _ _
                have k2 : (⟨M1.toArray⟩ : ByteArray) ++ ⟨#[32]⟩ = ⟨M2.toArray⟩ := by rw [hM2]; exact cat_eq _ [32]
                have k3 : (⟨M2.toArray⟩ : ByteArray) ++ ⟨nt.toArray⟩ = ⟨M3.toArray⟩ := by rw [hM3]; exact cat_eq _ _
                have l1 : M1.length = nk.length + D.length := by rw [hM1]; simp
                have l2 : M2.length = M1.length + 1 := by rw [hM2]; simp
                have l3 : M3.length = M2.length + nt.length := by rw [hM3]; simp
                have m1 : ¬ 9223372036854775807 < nk.length + D.length := by omega
                have m2 : ¬ 9223372036854775807 < M1.length + 1 := by omega
                have m3 : ¬ 9223372036854775807 < M2.length + nt.length := by omega
                have hJS : Hid (S.length + M3.length + 1 ≤ 140737488355328) := by
                  have := hSl.out
                  show _ ≤ _
                  omega
                rw [show nk ++ D ++ [32] ++ nt ++ [10] = M3 ++ [10] by rw [hM3, hM2, hM1]] at hdr
                clear hM1 hM2 hM3 l1 l2 l3
                have HV := Lib.hid hV
                clear hS hBI hbr hWr hBw hV hrw hr0 hr1 hr2 hnP hD hnt hwb
                go_wp2_with fail
                rw [← HV.out]
                refine wp_region_later_tail 13 (by kernel_rfl) (by kernel_rfl) ?_; simp only [List.take_succ_cons, List.take_zero, List.drop_succ_cons, List.drop_zero]; (repeat (go_big_quiet_step ((go_at_call 28; with_reducible exact Calls.later (hPr _))))); refine wpQuiet_nil ?_; rintro w3 ⟨⟨_, hb3⟩, rfl⟩
                clear d0 d1 d2 hPr k1 k2 k3 m1 m2 m3
                go_wp2_with (first | (go_at_call 27; refine (bWriteString_any 60 aag_lies aag_ne w1.heap.size w1.heap.size (Lib.byteCells S) M3 _ (bs_mono hBV.out hb3) (by rw [Lib.byteCells_length]; have := hJS.out; omega) (Nat.le_trans hVs.out hb3.size)).mono ?_; rintro e w5 ⟨rfl, hB5, hb5, hk5⟩; have HB5 := Lib.hid hB5; have hb6 : Hid (Below w1.heap.size w1 w5) := (hbV.out.trans (hb3.mono hVs.out)).trans hb5; clear hB5 hb5 hk5) | (go_at_call 29; refine (bWriteByte_any 60 aag_lies aag_ne w1.heap.size w1.heap.size _ 10 _ HB5.out (by rw [List.length_append, Lib.byteCells_length, Lib.byteCells_length]; have := hJS.out; omega) hb6.out.size).mono ?_; rintro e w6 ⟨rfl, hB6, hb7, _⟩; have hb8 : Hid (Below w1.heap.size w1 w6) := hb6.out.trans hb7))
                rw [show Lib.byteCells S ++ Lib.byteCells M3 ++ [Value.int .u8 10] = Lib.byteCells (S ++ (M3 ++ [10])) by simp [Lib.byteCells]] at hB6
                go_roundg (c.names.length - (k + 1))
                case measure => exact hmea _ hg
                case rel => exact ⟨k + 1, hk1.out, Nat.le_refl _, by go_num, hb8, WrJ.step HS.out hdr.out hB6⟩
              · have hltz : ¬ (k : Int) < (c.names.length : Int) := by omega
                obtain rfl : k = c.names.length := by omega
                rw [List.drop_length, List.flatMap_nil, List.nil_append] at hWr
                clear hk hg hlt
                obtain ⟨S, hS, hBI⟩ := hWr.out
                rw [List.append_nil] at hS
                subst hS
                have hSn : S ≠ [] := by
                  intro h
                  have := HT.out
                  rw [h] at this
                  have := congrArg List.length this
                  unfold PJ.text PA.lineT at this
                  simp at this
                have hst := Lib.hid (bString_any 60 w1.heap.size w1.heap.size S wr hBI hSn)
                have HB9 := Lib.hid (hbr.out)
                clear hWr hBI hSn hbr
                go_wp2_with fail
                refine hst.out.mono ?_
                rintro e w8 ⟨rfl, hb8⟩
                have HB11 := Lib.hid (HB1.out.trans ((HB9.out.trans hb8).mono HB1.out.size))
                clear hb8
                go_wp2_with fail
                go_ret2
                exact ⟨rfl, HB11.out⟩

end Go.Proofs.YtjcaejdokillgaaDoor
