/- Contract: the page's example. -/
import Derived.Test.YtjcaejdokillgaaDoorZA1
import Derived.Test.YtjcaejdokillgaaDoorZWalkA2
import Derived.Test.YtjcaejdokillgaaDoorZL2
namespace Go.Proofs.YtjcaejdokillgaaDoor
open Go.RowKit Go.Shelf
attribute [local simp] mk_get

theorem lineT_head' (l : List Int) : PA.lineT [97, 105, 103] l = Lib.join (W [[97, 105, 103]] l) [32] ++ [10] := rfl
theorem lineT_none' (l : List Int) : PA.lineT [] l = Lib.join (W ([] : List (List UInt8)) l) [32] ++ [10] := rfl

/-- what a call of the writer leaves -/
def WroteTo (c : PC.Circ) (e : Ending) (w : World) (w' : World) : Prop :=
  ∃ v, e = .returned (.tuple #[v, .int .i64 (if PA.ordered c then 0 else 35)]) ∧ (PA.ordered c = true → OctsA w' v (PA.text c)) ∧ (PA.ordered c = false → v = .slice none 0 0) ∧ Below w.heap.size w w'

/-- the writer has written S, R is to come -/
def Wr (b : Nat) (T R : List UInt8) (w : World) : Prop := ∃ S, S ++ R = T ∧ BIs 100 b b (Lib.byteCells S) w

theorem gat_row_ne : (66 : Nat) ≠ 5 := by decide

theorem cat5 (a b c _d : List UInt8) : (((⟨a.toArray⟩ : ByteArray) ++ ⟨b.toArray⟩ ++ ⟨#[32]⟩) ++ ⟨c.toArray⟩) ++ ⟨#[10]⟩ = ⟨(a ++ b ++ [32] ++ c ++ [10]).toArray⟩ := by
  rw [show (⟨#[32]⟩ : ByteArray) = ⟨([32] : List UInt8).toArray⟩ from rfl, show (⟨#[10]⟩ : ByteArray) = ⟨([10] : List UInt8).toArray⟩ from rfl]
  simp only [cat_eq]

theorem Wr.step {b : Nat} {T R R' : List UInt8} {w : World} {S X : List UInt8} (hS : S ++ R = T) (hR : R = X ++ R') (h : BIs 100 b b (Lib.byteCells (S ++ X)) w) : Wr b T R' w :=
  ⟨S ++ X, by rw [List.append_assoc, ← hR, hS], h⟩

set_option maxRecDepth 100000 in
set_option maxHeartbeats 16000000 in
theorem aWrite_any (c : PC.Circ) (vc : Value) (w : World) (h : IsCirc w vc c) :
    Calls Tryd.prog 20 #[vc] w fun e w' => WroteTo c e w w' := by
  have HC := Lib.hid h
  have hO := Lib.hid fun y (hy : Below w.heap.size w y) => aOrdered_any c vc y (h.mono hy)
  obtain ⟨xi, xj, xl, xm, xo, xp, xb, xc, xv, xw, xa, xq, xn, xr, rfl, hp⟩ := row_slices h
  have HP := Lib.hid hp
  clear h hp
  have r1 := RowL.new (T := 27) w [.int .i64 c.max, .slice xi c.inputs.length xj, .slice xl c.latches.length xm, .slice xo c.outputs.length xp, .slice xb c.bads.length xc, .slice xv c.invars.length xw, .slice xa c.ands.length xq, .slice xn c.names.length xr]
  have hb0 := (Below.refl w.heap.size w).alloc (Nat.le_refl _) (.cells #[.int .i64 c.max, .slice xi c.inputs.length xj, .slice xl c.latches.length xm, .slice xo c.outputs.length xp, .slice xb c.bads.length xc, .slice xv c.invars.length xw, .slice xa c.ands.length xq, .slice xn c.names.length xr] 27)
  obtain ⟨X, hX⟩ : ∃ X, X = w.alloc (.cells #[.int .i64 c.max, .slice xi c.inputs.length xj, .slice xl c.latches.length xm, .slice xo c.outputs.length xp, .slice xb c.bads.length xc, .slice xv c.invars.length xw, .slice xa c.ands.length xq, .slice xn c.names.length xr] 27) := ⟨_, rfl⟩
  rw [← hX] at r1 hb0
  have R1 := Lib.hid r1
  have HB0 := Lib.hid hb0
  have HX := Lib.hid hX
  clear hX r1 hb0
  cases hord : PA.ordered c with
  | false =>
    rw [hord] at hO
    have q := R1.out
    have q0 := q.cell 0 _ rfl
    have q1 := q.cell 1 _ rfl
    have q2 := q.cell 2 _ rfl
    have q3 := q.cell 3 _ rfl
    have q4 := q.cell 4 _ rfl
    have q5 := q.cell 5 _ rfl
    have q6 := q.cell 6 _ rfl
    have q7 := q.cell 7 _ rfl
    rw [HX.out] at q0 q1 q2 q3 q4 q5 q6 q7
    go_enter Tryd.func20, Tryd.ntmps20
    go_wp2_with fail
    rw [← HX.out]
    refine (hO.out _ HB0.out).mono ?_
    rintro e w1 ⟨rfl, hb1⟩
    clear q q0 q1 q2 q3 q4 q5 q6 q7
    go_wp2_with fail
    go_ret2
    exact ⟨_, by rw [hord]; rfl, (fun h => (by rw [hord] at h; cases h)), fun _ => rfl, Below.of HB0.out hb1⟩
  | true =>
    rw [hord] at hO
    have hck : PC.chk c = true := by unfold PA.ordered at hord; simp only [Bool.and_eq_true] at hord; exact hord.1
    have HR := Lib.hid (PC.right_of c hck)
    have HORD := Lib.hid hord
    have HCK := Lib.hid hck
    have HTL := Lib.hid (PA.text_len hord)
    obtain ⟨T, hT⟩ : ∃ T, T = PA.text c := ⟨_, rfl⟩
    have HT := Lib.hid hT
    rw [← hT] at HTL
    clear hT hck hord
    have q := R1.out
    have q0 := q.cell 0 _ rfl
    have q1 := q.cell 1 _ rfl
    have q2 := q.cell 2 _ rfl
    have q3 := q.cell 3 _ rfl
    have q4 := q.cell 4 _ rfl
    have q5 := q.cell 5 _ rfl
    have q6 := q.cell 6 _ rfl
    have q7 := q.cell 7 _ rfl
    rw [HX.out] at q0 q1 q2 q3 q4 q5 q6 q7
    go_enter Tryd.func20, Tryd.ntmps20
    go_wp2_with fail
    rw [← HX.out]
    refine (hO.out _ HB0.out).mono ?_
    rintro e w1 ⟨rfl, hb1⟩
    clear q q0 q1 q2 q3 q4 q5 q6 q7
    clear HX
    have HB1 := Lib.hid (Below.of HB0.out hb1)
    have S1 := Lib.hid (R1.out.mono hb1)
    have hS1 : Hid (∀ o, RowL 27 (w1.alloc o) w.heap.size [.int .i64 c.max, .slice xi c.inputs.length xj, .slice xl c.latches.length xm, .slice xo c.outputs.length xp, .slice xb c.bads.length xc, .slice xv c.invars.length xw, .slice xa c.ands.length xq, .slice xn c.names.length xr]) := fun o => S1.out.mono ((Below.refl _ _).alloc (Nat.le_refl _) o)
    clear hb1 R1 HB0 hO
    have hB0 := Lib.hid (b_new w1 100)
    have q := hS1.out (.cells #[.pointer none, .slice none 0 0] 100)
    have q0 := q.cell 0 _ rfl
    have q1 := q.cell 1 _ rfl
    have q2 := q.cell 2 _ rfl
    have q3 := q.cell 3 _ rfl
    have q4 := q.cell 4 _ rfl
    have q5 := q.cell 5 _ rfl
    have q6 := q.cell 6 _ rfl
    have q7 := q.cell 7 _ rfl
    have a0 := HR.out.max0
    have a1 := HR.out.max1
    have b2 := HR.out.ins
    have b3 := HR.out.lats
    have b4 := HR.out.outs
    have b5 := HR.out.bads
    have b6 := HR.out.invs
    have b7 := PC.ands_len c HR.out
    have hh := (ints_new (w1.alloc (.cells #[.pointer none, .slice none 0 0] 100)) (PA.headN c) (by simp [PA.headN]) (by
      intro x hx
      simp only [PA.headN, List.mem_cons, List.mem_nil_iff, or_false] at hx
      unfold rng; omega) #[.int .i64 c.max, .int .i64 (c.inputs.length : Int), .int .i64 (c.latches.length : Int), .int .i64 (c.outputs.length : Int), .int .i64 (c.ands.length : Int), .int .i64 (c.bads.length : Int), .int .i64 (c.invars.length : Int)] rfl)
    rw [World.size_alloc] at hh
    have hh := Lib.hid hh
    have hl1 := Lib.hid (aHead_any w1.heap.size w1.heap.size [] (PA.headN c) _ _ (bs_mono hB0.out ((Below.refl _ _).alloc (Nat.le_refl _) (.cells #[.int .i64 c.max, .int .i64 (c.inputs.length : Int), .int .i64 (c.latches.length : Int), .int .i64 (c.outputs.length : Int), .int .i64 (c.ands.length : Int), .int .i64 (c.bads.length : Int), .int .i64 (c.invars.length : Int)] 3))) hh.out (by simp [W]) (by simp [PA.headN]) (by simp; omega) (by simp))
    clear hh a0 a1
    go_wp2_with fail
    refine hl1.out.mono ?_
    rintro e w2 ⟨rfl, hB2, hb2, _⟩
    have hb2 : Hid (Below w1.heap.size w1 w2) := (((Below.refl _ _).alloc (Nat.le_refl _) _).alloc (by simp) _).trans hb2
    rw [← lineT_head', List.nil_append] at hB2
    have hW2 : Hid (Wr w1.heap.size T (PA.text1 c) w2) := ⟨_, HT.out.symm, hB2⟩
    clear hB2 hl1
    clear q q0 q1 q2 q3 q4 q5 q6 q7
    have q := S1.out.mono hb2.out
    have q0 := q.cell 0 _ rfl
    have q1 := q.cell 1 _ rfl
    have q2 := q.cell 2 _ rfl
    have q3 := q.cell 3 _ rfl
    have q4 := q.cell 4 _ rfl
    have q5 := q.cell 5 _ rfl
    have q6 := q.cell 6 _ rfl
    have q7 := q.cell 7 _ rfl
    go_wp2_with fail
    clear q q0 q1 q2 q3 q4 q5 q6 q7
    go_loopg [44] c.latches.length (fun gg s44 wr => ∃ k : Nat, k ≤ c.latches.length ∧ c.latches.length - k ≤ gg ∧ s44 = .int .i64 k ∧ Hid (Below w1.heap.size w1 wr) ∧ Hid (Wr w1.heap.size T ((c.latches.drop k).flatMap PA.latT ++ PA.text2 c) wr))
    case atStart => exact ⟨0, Nat.zero_le _, by omega, rfl, hb2, by rw [List.drop_zero]; exact hW2⟩
    case round =>
      obtain ⟨k, hk, hg, rfl, hbr, hWr⟩ := hrel
      by_cases hlt : k < c.latches.length
      · obtain ⟨b', off, rfl, hbs, ⟨hr0, hr1, hr2⟩, c0, c1, c2⟩ := HP.out.latches.at_ k hlt
        have hmea : ∀ g : Nat, c.latches.length - k ≤ g → c.latches.length - (k + 1) < g := fun g h => by omega
        have hBw := Below.of HB1.out hbr.out
        have c0 := (hBw.cell hbs).trans c0
        have c1 := (hBw.cell hbs).trans c1
        have c2 := (hBw.cell hbs).trans c2
        have hltz : (k : Int) < (c.latches.length : Int) := by omega
        obtain ⟨S, hS, hBI⟩ := hWr.out
        have hdr : Hid ((c.latches.drop k).flatMap PA.latT ++ PA.text2 c = PA.latT c.latches[k] ++ ((c.latches.drop (k + 1)).flatMap PA.latT ++ PA.text2 c)) := by
          show _ = _
          rw [List.drop_eq_getElem_cons hlt, List.flatMap_cons, List.append_assoc]
        have hSl : Hid (S.length ≤ 1000000000) := by
          have := congrArg List.length hS
          rw [List.length_append] at this
          have := HTL.out
          show _ ≤ _
          omega
        have HS := Lib.hid hS
        have hlat : PA.latT c.latches[k] = PA.lineT [] (if c.latches[k].reset = 0 then [c.latches[k].next] else [c.latches[k].next, c.latches[k].reset]) := rfl
        rw [hlat] at hdr
        generalize c.latches[k].lit = x at *
        generalize c.latches[k].next = xn at *
        generalize c.latches[k].reset = xr' at *
        obtain ⟨V, hV⟩ : ∃ V, V = wr.alloc (.cells #[.int .i64 x, .int .i64 xn, .int .i64 xr'] 64) := ⟨_, rfl⟩
        have hBV : Hid (BIs 100 w1.heap.size w1.heap.size (Lib.byteCells S) V) := by rw [hV]; exact bs_mono hBI ((Below.refl _ _).alloc (Nat.le_refl _) _)
        have hbV : Hid (Below w1.heap.size w1 V) := by rw [hV]; exact hbr.out.alloc hbr.out.size _
        have hVs : Hid (w1.heap.size ≤ V.heap.size) := hbV.out.size
        clear hS hlat hBI hBw hbr hWr
        by_cases h0 : xr' = 0
        · rw [if_pos h0] at hdr
          subst h0
          have hh := ints_new V [xn] (by simp) (by simpa using hr1) #[.int .i64 xn] rfl
          have hl := Lib.hid (aLine_any w1.heap.size w1.heap.size S [xn] _ _ (bs_mono hBV.out ((Below.refl _ _).alloc (Nat.le_refl _) (.cells #[.int .i64 xn] 3))) hh (by simp [W]) (by simp) (by simp; have := hVs.out; omega) hSl.out)
          rw [← lineT_none'] at hl
          clear hh
          rw [hV] at hl
          try rw [World.size_alloc] at hl
          go_wp2_with fail
          refine hl.out.mono ?_
          rintro e w5 ⟨rfl, hB5, hb5, hk5⟩
          have hb6 : Hid (Below w1.heap.size w1 w5) := (hbV.out.alloc hVs.out _).trans (by rw [hV]; exact hb5)
          go_wp2_with fail
          go_roundg (c.latches.length - (k + 1))
          case measure => exact hmea _ hg
          case rel => exact ⟨k + 1, by omega, by omega, by go_num, hb6, Wr.step HS.out hdr.out hB5⟩
        · rw [if_neg h0] at hdr
          have h0b : (xr' == 0) = false := by simpa using h0
          have hh := ints_new V [xn, xr'] (by simp) (by simpa using And.intro hr1 hr2) #[.int .i64 xn, .int .i64 xr'] rfl
          have hl := Lib.hid (aLine_any w1.heap.size w1.heap.size S [xn, xr'] _ _ (bs_mono hBV.out ((Below.refl _ _).alloc (Nat.le_refl _) (.cells #[.int .i64 xn, .int .i64 xr'] 3))) hh (by simp [W]) (by simp) (by simp; have := hVs.out; omega) hSl.out)
          rw [← lineT_none'] at hl
          clear hh
          rw [hV] at hl
          try rw [World.size_alloc] at hl
          go_wp2_with fail
          refine hl.out.mono ?_
          rintro e w5 ⟨rfl, hB5, hb5, hk5⟩
          have hb6 : Hid (Below w1.heap.size w1 w5) := (hbV.out.alloc hVs.out _).trans (by rw [hV]; exact hb5)
          go_wp2_with fail
          go_roundg (c.latches.length - (k + 1))
          case measure => exact hmea _ hg
          case rel => exact ⟨k + 1, by omega, by omega, by go_num, hb6, Wr.step HS.out hdr.out hB5⟩
      · have hltz : ¬ (k : Int) < (c.latches.length : Int) := by omega
        obtain rfl : k = c.latches.length := by omega
        rw [List.drop_length, List.flatMap_nil, List.nil_append] at hWr
        have HB2 := Lib.hid (Below.of HB1.out hbr.out)
        have q := S1.out.mono hbr.out
        have q0 := q.cell 0 _ rfl
        have q1 := q.cell 1 _ rfl
        have q2 := q.cell 2 _ rfl
        have q3 := q.cell 3 _ rfl
        have q4 := q.cell 4 _ rfl
        have q5 := q.cell 5 _ rfl
        have q6 := q.cell 6 _ rfl
        have q7 := q.cell 7 _ rfl
        have HPw := Lib.hid (HP.out.mono HB2.out)
        have hCc := ConcatI_three c.outputs.length c.bads.length c.invars.length _ _ _ (.slice xo c.outputs.length xp) (.slice xb c.bads.length xc) (.slice xv c.invars.length xw) wr.heap.size (wr.alloc (.cells #[.slice xo c.outputs.length xp, .slice xb c.bads.length xc, .slice xv c.invars.length xw] 22)) (HPw.out.outputs.mono ((Below.refl _ _).alloc (Nat.le_refl _) _)).1 (HPw.out.bads.mono ((Below.refl _ _).alloc (Nat.le_refl _) _)).1 (HPw.out.invars.mono ((Below.refl _ _).alloc (Nat.le_refl _) _)).1 (int_one _) (int_one _) (int_one _) (by simp) (by simp) (by simp) (by omega)
        have HCc := Lib.hid hCc
        clear hCc hk hg hlt
        go_wp2_with fail
        refine HCc.out.mono ?_
        rintro e w6 ⟨u, rfl, hown, hb6⟩
        clear q q0 q1 q2 q3 q4 q5 q6 q7
        have hb6 : Hid (Below w1.heap.size w1 w6) := (hbr.out.alloc hbr.out.size _).trans (hb6.mono (by simp; have := hbr.out.size; omega))
        have hown : w6.ownsRow (wr.heap.size + 1) 3 1 u (PA.told c).length ((PA.told c).map (Value.int .i64)) := by
          rw [← List.map_append, ← List.map_append, show c.outputs.length + c.bads.length + c.invars.length = (PA.told c).length by simp [PA.told]; omega, World.size_alloc] at hown
          exact hown
        have hBB : Hid (w1.heap.size < wr.heap.size + 1) := Nat.lt_succ_of_le hbr.out.size
        generalize wr.heap.size + 1 = BB at *
        have hW6 : Hid (Wr w1.heap.size T (PA.text2 c) w6) := by
          obtain ⟨S, hS, hBI⟩ := hWr.out
          refine ⟨S, hS, bs_mono hBI ?_⟩
          have h1 : Below wr.heap.size wr (wr.alloc (.cells #[.slice xo c.outputs.length xp, .slice xb c.bads.length xc, .slice xv c.invars.length xw] 22)) := (Below.refl _ _).alloc (Nat.le_refl _) _
          exact Below.of h1 (by assumption)
        obtain ⟨to_, tcap, rfl⟩ : ∃ a cap, u = .slice a (PA.told c).length cap := by
          rcases hown.2 with ⟨hv, h0⟩ | ⟨g, cap, cur, hv, _⟩
          · exact ⟨none, 0, by rw [hv, h0]⟩
          · exact ⟨_, _, hv⟩
        have HOW := Lib.hid hown
        have hrT := Lib.hid (PA.told_rng HR.out)
        clear hown HCc hWr hbr HPw HB2
        have HW6 : Hid (Wr w1.heap.size T ((PA.told c).flatMap PA.oneT ++ PA.text3 c) w6) := hW6.out
        have hTL : (PA.told c).length ≤ 192 := by unfold PA.told; simp only [List.length_append]; omega
        generalize PA.told c = TL at *
        clear hW6
        go_wp2_with fail
        go_loopg [73] TL.length (fun gg s73 wr => ∃ k : Nat, k ≤ TL.length ∧ TL.length - k ≤ gg ∧ s73 = .int .i64 k ∧ Hid (wr.ownsRow BB 3 1 (.slice to_ TL.length tcap) TL.length (TL.map (Value.int .i64))) ∧ Hid (Below w1.heap.size w1 wr) ∧ Hid (Wr w1.heap.size T ((TL.drop k).flatMap PA.oneT ++ PA.text3 c) wr))
        case atStart => exact ⟨0, Nat.zero_le _, by omega, rfl, HOW.out, hb6, by rw [List.drop_zero]; exact HW6⟩
        case round =>
          obtain ⟨k, hk, hg, rfl, how, hbr, hWr⟩ := hrel
          by_cases hlt : k < TL.length
          · have hInt : Ints wr (.slice to_ TL.length tcap) TL := ⟨Cells.of_owns how.out, fun x hx => by have := hrT.out x hx; unfold rng; omega⟩
            obtain ⟨b', off, rfl, hbs, hr0, c0⟩ := hInt.at_ k hlt
            have hmea : ∀ g : Nat, TL.length - k ≤ g → TL.length - (k + 1) < g := fun g h => by omega
            have hltz : (k : Int) < (TL.length : Int) := by omega
            obtain ⟨S, hS, hBI⟩ := hWr.out
            have hdr : Hid ((TL.drop k).flatMap PA.oneT ++ PA.text3 c = PA.lineT [] [TL[k]] ++ ((TL.drop (k + 1)).flatMap PA.oneT ++ PA.text3 c)) := by
              show _ = _
              rw [List.drop_eq_getElem_cons hlt, List.flatMap_cons, List.append_assoc]
              rfl
            have hSl : Hid (S.length ≤ 1000000000) := by
              have := congrArg List.length hS
              rw [List.length_append] at this
              have := HTL.out
              show _ ≤ _
              omega
            have HS := Lib.hid hS
            generalize TL[k] = xn at *
            have hBV := Lib.hid hBI
            have hVs : Hid (w1.heap.size ≤ wr.heap.size) := hbr.out.size
            clear hS hBI hWr hInt
            have hh := ints_new wr [xn] (by simp) (by simpa using hr0) #[.int .i64 xn] rfl
            have hl := Lib.hid (aLine_any w1.heap.size w1.heap.size S [xn] _ _ (bs_mono hBV.out ((Below.refl _ _).alloc (Nat.le_refl _) (.cells #[.int .i64 xn] 3))) hh (by simp [W]) (by simp) (by simp; have := hVs.out; omega) hSl.out)
            rw [← lineT_none'] at hl
            have hoa := Lib.hid (how.out.below2 ((Below.refl _ _).alloc (Nat.le_refl _) (.cells #[.int .i64 xn] 3)))
            have hba : Hid (Below w1.heap.size w1 (wr.alloc (.cells #[.int .i64 xn] 3))) := hbr.out.alloc hVs.out _
            clear hh hr0 how hbr
            go_wp2_with fail
            refine hl.out.mono ?_
            rintro e w5 ⟨rfl, hB5, hb5, hk5⟩
            have ho5 := Lib.hid (owns_others hoa.out hk5 (by decide) hBB.out)
            have hb6 : Hid (Below w1.heap.size w1 w5) := hba.out.trans hb5
            go_wp2_with fail
            go_roundg (TL.length - (k + 1))
            case measure => exact hmea _ hg
            case rel => exact ⟨k + 1, by omega, by omega, by go_num, ho5, hb6, Wr.step HS.out hdr.out hB5⟩
          · have hltz : ¬ (k : Int) < (TL.length : Int) := by omega
            obtain rfl : k = TL.length := by omega
            rw [List.drop_length, List.flatMap_nil, List.nil_append] at hWr
            have HB7 := Lib.hid hbr.out
            have HW7 : Hid (Wr w1.heap.size T (c.ands.flatMap PA.gatT ++ PA.text4 c) wr) := hWr.out
            have q := S1.out.mono hbr.out
            have q0 := q.cell 0 _ rfl
            have q1 := q.cell 1 _ rfl
            have q2 := q.cell 2 _ rfl
            have q3 := q.cell 3 _ rfl
            have q4 := q.cell 4 _ rfl
            have q5 := q.cell 5 _ rfl
            have q6 := q.cell 6 _ rfl
            have q7 := q.cell 7 _ rfl
            clear hWr how hk hg hlt
            go_wp2_with fail
            clear q q0 q1 q2 q3 q4 q5 q6 q7
            clear hbr
            go_loopg [85] c.ands.length (fun gg s85 wr => ∃ k : Nat, k ≤ c.ands.length ∧ c.ands.length - k ≤ gg ∧ s85 = .int .i64 k ∧ Hid (Below w1.heap.size w1 wr) ∧ Hid (Wr w1.heap.size T ((c.ands.drop k).flatMap PA.gatT ++ PA.text4 c) wr))
            case atStart => exact ⟨0, Nat.zero_le _, by omega, rfl, HB7, by rw [List.drop_zero]; exact HW7⟩
            case round =>
              obtain ⟨k, hk, hg, rfl, hbr, hWr⟩ := hrel
              by_cases hlt : k < c.ands.length
              · obtain ⟨b', off, rfl, hbs, ⟨hr0, hr1, hr2⟩, c0, c1, c2⟩ := HP.out.ands.at_ k hlt
                have hmea : ∀ g : Nat, c.ands.length - k ≤ g → c.ands.length - (k + 1) < g := fun g h => by omega
                have hBw := Below.of HB1.out hbr.out
                have c0 := (hBw.cell hbs).trans c0
                have c1 := (hBw.cell hbs).trans c1
                have c2 := (hBw.cell hbs).trans c2
                have hltz : (k : Int) < (c.ands.length : Int) := by omega
                obtain ⟨S, hS, hBI⟩ := hWr.out
                have hrg := PA.gat_rng HORD.out (List.getElem_mem hlt)
                have hdr : Hid ((c.ands.drop k).flatMap PA.gatT ++ PA.text4 c = (PA.grp (c.ands[k].lit - c.ands[k].left).toNat ++ PA.grp (c.ands[k].left - c.ands[k].right).toNat) ++ ((c.ands.drop (k + 1)).flatMap PA.gatT ++ PA.text4 c)) := by
                  show _ = _
                  rw [List.drop_eq_getElem_cons hlt, List.flatMap_cons, List.append_assoc]
                  rfl
                have hSl : Hid (S.length ≤ 700000) := by
                  have := congrArg List.length hS
                  rw [List.length_append] at this
                  have := HTL.out
                  show _ ≤ _
                  omega
                have HS := Lib.hid hS
                generalize c.ands[k].lit = x at *
                generalize c.ands[k].left = xl' at *
                generalize c.ands[k].right = xr' at *
                obtain ⟨g1, g2, g3, g4, g5, g6, g7, g8⟩ := hrg
                obtain ⟨V, hV⟩ : ∃ V, V = wr.alloc (.cells #[.int .i64 x, .int .i64 xl', .int .i64 xr'] 66) := ⟨_, rfl⟩
                have hrw : RowL 66 V wr.heap.size [.int .i64 x, .int .i64 xl', .int .i64 xr'] := by rw [hV]; exact RowL.new wr _
                have hBV : Hid (BIs 100 w1.heap.size w1.heap.size (Lib.byteCells S) V) := by rw [hV]; exact bs_mono hBI ((Below.refl _ _).alloc (Nat.le_refl _) _)
                have hbV : Hid (Below w1.heap.size w1 V) := by rw [hV]; exact hbr.out.alloc hbr.out.size _
                have hVs : Hid (w1.heap.size ≤ V.heap.size) := hbV.out.size
                have hbw := bs_lt hBI
                have hn1 := aNumber_any w1.heap.size w1.heap.size S (x - xl').toNat V hBV.out (by omega) hVs.out (by have := hSl.out; omega)
                rw [Int.toNat_of_nonneg g1] at hn1
                have hn2 : Hid (∀ y, BIs 100 w1.heap.size w1.heap.size (Lib.byteCells (S ++ PA.grp (x - xl').toNat)) y → w1.heap.size ≤ y.heap.size → _) := fun y h1 h2 => aNumber_any w1.heap.size w1.heap.size (S ++ PA.grp (x - xl').toNat) (xl' - xr').toNat y h1 (by omega) h2 (by
                  have := PA.grp_len (x - xl').toNat (by omega)
                  have := hSl.out
                  rw [List.length_append]; omega)
                have hn2 : Hid (∀ y, BIs 100 w1.heap.size w1.heap.size (Lib.byteCells (S ++ PA.grp (x - xl').toNat)) y → w1.heap.size ≤ y.heap.size → Calls Tryd.prog 54 #[.pointer (some ⟨w1.heap.size, 0, none⟩), .int .i64 (xl' - xr')] y fun e w' => e = .returned (.tuple #[]) ∧ BIs 100 w1.heap.size w1.heap.size (Lib.byteCells (S ++ PA.grp (x - xl').toNat ++ PA.grp (xl' - xr').toNat)) w' ∧ Below w1.heap.size y w' ∧ Lib.OthersKept 5 (some w1.heap.size) y w') := fun y h1 h2 => by
                  have := hn2.out y h1 h2
                  rw [Int.toNat_of_nonneg g3] at this
                  exact this
                rw [hV] at hn1
                have hn1 := Lib.hid hn1
                have HRW := Lib.hid hrw
                have HV := Lib.hid hV
                have e1 : IntKind.i64.wrap (x - xl') = x - xl' := IntWalk.i64_in _ (by omega)
                have e2 : IntKind.i64.wrap (xl' - xr') = xl' - xr' := IntWalk.i64_in _ (by omega)
                have hwn : Hid (wr.heap.size ≠ w1.heap.size) := by show _ ≠ _; omega
                clear hS hBI hbr hWr hBw hV hrw hr0 hr1 hr2
                go_wp2_with fail
                refine hn1.out.mono ?_
                rintro e w5 ⟨rfl, hB5, hb5, hk5⟩
                rw [← HV.out] at hb5 hk5
                have hrow5 := RowL.others HRW.out hk5 hwn.out gat_row_ne
                have d0 := hrow5.cell 0 _ rfl
                have d1 := hrow5.cell 1 _ rfl
                have d2 := hrow5.cell 2 _ rfl
                have hb6 : Hid (Below w1.heap.size w1 w5) := hbV.out.trans hb5
                have hn3 := Lib.hid (hn2.out w5 hB5 hb6.out.size)
                clear hb5 hk5 hB5
                go_wp2_with fail
                refine hn3.out.mono ?_
                rintro e w7 ⟨rfl, hB7, hb7, hk7⟩
                have hb8 : Hid (Below w1.heap.size w1 w7) := hb6.out.trans hb7
                rw [List.append_assoc] at hB7
                clear hrow5 d0 d1 d2
                go_wp2_with fail
                go_roundg (c.ands.length - (k + 1))
                case measure => exact hmea _ hg
                case rel => exact ⟨k + 1, by omega, by omega, by go_num, hb8, Wr.step HS.out hdr.out hB7⟩
              · have hltz : ¬ (k : Int) < (c.ands.length : Int) := by omega
                obtain rfl : k = c.ands.length := by omega
                rw [List.drop_length, List.flatMap_nil, List.nil_append] at hWr
                have HB8 := Lib.hid hbr.out
                have HW8 : Hid (Wr w1.heap.size T (c.names.flatMap PA.namT ++ []) wr) := by rw [List.append_nil]; exact hWr.out
                have q := S1.out.mono hbr.out
                have q0 := q.cell 0 _ rfl
                have q1 := q.cell 1 _ rfl
                have q2 := q.cell 2 _ rfl
                have q3 := q.cell 3 _ rfl
                have q4 := q.cell 4 _ rfl
                have q5 := q.cell 5 _ rfl
                have q6 := q.cell 6 _ rfl
                have q7 := q.cell 7 _ rfl
                have hnl := (PA.names_ok HCK.out).1
                clear hWr hk hg hlt
                go_wp2_with fail
                clear q q0 q1 q2 q3 q4 q5 q6 q7
                clear hbr
                go_loopg [107] c.names.length (fun gg s107 wr => ∃ k : Nat, k ≤ c.names.length ∧ c.names.length - k ≤ gg ∧ s107 = .int .i64 k ∧ Hid (Below w1.heap.size w1 wr) ∧ Hid (Wr w1.heap.size T ((c.names.drop k).flatMap PA.namT ++ []) wr))
                case atStart => exact ⟨0, Nat.zero_le _, by omega, rfl, HB8, by rw [List.drop_zero]; exact HW8⟩
                case round =>
                  obtain ⟨k, hk, hg, rfl, hbr, hWr⟩ := hrel
                  by_cases hlt : k < c.names.length
                  · obtain ⟨b', off, rfl, hbs, ⟨hr0, hr1, hr2⟩, c0, c1, c2⟩ := HP.out.names.at_ k hlt
                    have hmea : ∀ g : Nat, c.names.length - k ≤ g → c.names.length - (k + 1) < g := fun g h => by omega
                    have hBw := Below.of HB1.out hbr.out
                    have c0 := (hBw.cell hbs).trans c0
                    have c1 := (hBw.cell hbs).trans c1
                    have c2 := (hBw.cell hbs).trans c2
                    have hltz : (k : Int) < (c.names.length : Int) := by omega
                    obtain ⟨S, hS, hBI⟩ := hWr.out
                    have hnt := PA.namT_len HCK.out ((PA.names_ok HCK.out).2 _ (List.getElem_mem hlt))
                    have hdr : Hid ((c.names.drop k).flatMap PA.namT ++ [] = (c.names[k].kind ++ P01.decI c.names[k].at_ ++ [32] ++ c.names[k].text ++ [10]) ++ ((c.names.drop (k + 1)).flatMap PA.namT ++ [])) := by
                      show _ = _
                      rw [List.drop_eq_getElem_cons hlt, List.flatMap_cons, List.append_assoc]
                      rfl
                    have hSl : Hid (S.length ≤ 700000) := by
                      have := congrArg List.length hS
                      rw [List.length_append] at this
                      have := HTL.out
                      show _ ≤ _
                      omega
                    have HS := Lib.hid hS
                    unfold PA.namT at hnt
                    generalize c.names[k].kind = nk at *
                    generalize c.names[k].at_ = na at *
                    generalize c.names[k].text = nt at *
                    have hnP : ∀ y, _ := fun y => Print_any na y hr0.1 hr0.2
                    generalize hD : P01.decI na = D at *
                    obtain ⟨V, hV⟩ : ∃ V, V = wr.alloc (.cells #[.string ⟨nk.toArray⟩, .int .i64 na, .string ⟨nt.toArray⟩] 68) := ⟨_, rfl⟩
                    have hrw : RowL 68 V wr.heap.size [.string ⟨nk.toArray⟩, .int .i64 na, .string ⟨nt.toArray⟩] := by rw [hV]; exact RowL.new wr _
                    have hBV : Hid (BIs 100 w1.heap.size w1.heap.size (Lib.byteCells S) V) := by rw [hV]; exact bs_mono hBI ((Below.refl _ _).alloc (Nat.le_refl _) _)
                    have hbV : Hid (Below w1.heap.size w1 V) := by rw [hV]; exact hbr.out.alloc hbr.out.size _
                    have hVs : Hid (w1.heap.size ≤ V.heap.size) := hbV.out.size
                    have d0 : ∀ x : Later V, _ := fun x => (hrw.mono x.below).cell 0 _ rfl
                    have d1 : ∀ x : Later V, _ := fun x => (hrw.mono x.below).cell 1 _ rfl
                    have d2 : ∀ x : Later V, _ := fun x => (hrw.mono x.below).cell 2 _ rfl
                    have hPr : ∀ x : Later V, _ := fun x => hnP x.at_
                    simp only [List.length_append, List.length_cons, List.length_nil] at hnt
                    obtain ⟨M1, hM1⟩ : ∃ M, M = nk ++ D := ⟨_, rfl⟩
                    obtain ⟨M2, hM2⟩ : ∃ M, M = M1 ++ [32] := ⟨_, rfl⟩
                    obtain ⟨M3, hM3⟩ : ∃ M, M = M2 ++ nt := ⟨_, rfl⟩
                    obtain ⟨M4, hM4⟩ : ∃ M, M = M3 ++ [10] := ⟨_, rfl⟩
                    have k1 : (⟨nk.toArray⟩ : ByteArray) ++ ⟨D.toArray⟩ = ⟨M1.toArray⟩ := by rw [hM1]; exact cat_eq _ _
                    have k2 : (⟨M1.toArray⟩ : ByteArray) ++ ⟨#[32]⟩ = ⟨M2.toArray⟩ := by rw [hM2]; exact cat_eq _ [32]
                    have k3 : (⟨M2.toArray⟩ : ByteArray) ++ ⟨nt.toArray⟩ = ⟨M3.toArray⟩ := by rw [hM3]; exact cat_eq _ _
                    have k4 : (⟨M3.toArray⟩ : ByteArray) ++ ⟨#[10]⟩ = ⟨M4.toArray⟩ := by rw [hM4]; exact cat_eq _ [10]
                    have l1 : M1.length = nk.length + D.length := by rw [hM1]; simp
                    have l2 : M2.length = M1.length + 1 := by rw [hM2]; simp
                    have l3 : M3.length = M2.length + nt.length := by rw [hM3]; simp
                    have l4 : M4.length = M3.length + 1 := by rw [hM4]; simp
                    have m1 : ¬ 9223372036854775807 < nk.length + D.length := by omega
                    have m2 : ¬ 9223372036854775807 < M1.length + 1 := by omega
                    have m3 : ¬ 9223372036854775807 < M2.length + nt.length := by omega
                    have m4 : ¬ 9223372036854775807 < M3.length + 1 := by omega
                    have hJS : Hid (S.length + M4.length ≤ 140737488355328) := by
                      have := hSl.out
                      show _ ≤ _
                      omega
                    rw [show nk ++ D ++ [32] ++ nt ++ [10] = M4 by rw [hM4, hM3, hM2, hM1]] at hdr
                    clear hM1 hM2 hM3 hM4 l1 l2 l3 l4
                    have HV := Lib.hid hV
                    clear hS hBI hbr hWr hBw hV hrw hr0 hr1 hr2 hnP hD hnt
                    go_wp2_with fail
                    rw [← HV.out]
                    refine wp_region_later_tail 14 (by kernel_rfl) (by kernel_rfl) ?_; simp only [List.take_succ_cons, List.take_zero, List.drop_succ_cons, List.drop_zero]; (repeat (go_big_quiet_step ((go_at_call 28; with_reducible exact Calls.later (hPr _))))); refine wpQuiet_nil ?_; rintro w3 ⟨⟨_, hb3⟩, rfl⟩
                    clear d0 d1 d2 hPr k1 k2 k3 k4 m1 m2 m3 m4
                    go_wp2_with (go_at_call 27; refine (bWriteString_any 100 aig_lies aig_ne w1.heap.size w1.heap.size (Lib.byteCells S) M4 _ (bs_mono hBV.out hb3) (by rw [Lib.byteCells_length]; exact hJS.out) (Nat.le_trans hVs.out hb3.size)).mono ?_; rintro e w5 ⟨rfl, hB5, hb5, hk5⟩)
                    have hb6 : Hid (Below w1.heap.size w1 w5) := (hbV.out.trans (hb3.mono hVs.out)).trans hb5
                    rw [bytes_app] at hB5
                    go_roundg (c.names.length - (k + 1))
                    case measure => exact hmea _ hg
                    case rel => exact ⟨k + 1, by omega, by omega, by go_num, hb6, Wr.step HS.out hdr.out hB5⟩
                  · have hltz : ¬ (k : Int) < (c.names.length : Int) := by omega
                    obtain rfl : k = c.names.length := by omega
                    rw [List.drop_length, List.flatMap_nil, List.nil_append] at hWr
                    obtain ⟨S, hS, hBI⟩ := hWr.out
                    rw [List.append_nil] at hS
                    subst hS
                    have hSn : S ≠ [] := by
                      intro h
                      have := HT.out
                      rw [h] at this
                      have := congrArg List.length this
                      unfold PA.text PA.lineT at this
                      simp at this
                    have hst := Lib.hid (bString_any 100 w1.heap.size w1.heap.size S wr hBI hSn)
                    have HB9 := Lib.hid (hbr.out)
                    have HB10 := Lib.hid HB1.out
                    clear hWr hBI hSn hk hg hlt hbr
                    have kb := fun w => run_bytes_of_string (P := Tryd.prog) w 9 47 5 ⟨S.toArray⟩ Tryd.underlying9 Tryd.underlying47 Tryd.underlying5
                    go_wp2_with fail
                    refine hst.out.mono ?_
                    rintro e w8 ⟨rfl, hb8⟩
                    have HB11 := Lib.hid (HB10.out.trans ((HB9.out.trans hb8).mono HB10.out.size))
                    clear hb8
                    go_wp2_with fail
                    go_ret2
                    refine ⟨_, by rw [HORD.out]; rfl, fun _ => ?_, (fun h => (by rw [HORD.out] at h; cases h)), ?_⟩
                    · rw [← HT.out]
                      exact OctsA.conv _ _ _ _ _ _ (by have := grownCap_ge w8 S.length 0 5; simpa using this)
                    · exact (HB11.out.drew.alloc HB11.out.size _)

end Go.Proofs.YtjcaejdokillgaaDoor

namespace Go.Proofs.YtjcaejdokillgaaDoor
open Go.RowKit Go.Shelf
attribute [local simp] mk_get

theorem num05_any (x : Int) (w : World) : Calls Tryd.prog 21 #[.int .i64 x] w fun e w' => e = .returned (.int .i64 x) ∧ w = w' := by
  go_enter Tryd.func21, Tryd.ntmps21
  go_wp2
  go_ret
  exact ⟨rfl, rfl⟩

theorem noC_is (w : World) : IsCirc w (.agg #[.int .i64 0, .slice none 0 0, .slice none 0 0, .slice none 0 0, .slice none 0 0, .slice none 0 0, .slice none 0 0, .slice none 0 0]) ⟨0, [], [], [], [], [], [], []⟩ := by
  have hI : Ints w (.slice none 0 0) [] := ⟨Cells.nil _ _, fun x hx => by cases hx⟩
  exact ⟨_, _, _, _, _, _, _, rfl, ⟨hI, ⟨Cells.nil _ _, fun x hx => by cases hx⟩, hI, hI, hI, ⟨Cells.nil _ _, fun x hx => by cases hx⟩, ⟨Cells.nil _ _, fun x hx => by cases hx⟩⟩, by unfold rng; decide⟩

theorem no_ordered : PA.ordered ⟨0, [], [], [], [], [], [], []⟩ = true := by decide
theorem no_text : PA.text ⟨0, [], [], [], [], [], [], []⟩ = [97, 105, 103, 32, 48, 32, 48, 32, 48, 32, 48, 32, 48, 32, 48, 32, 48, 10] := by
  have h0 : P01.decI 0 = [48] := by show (if (0 : Int) < 0 then _ else P01.dec 0) = _; rw [if_neg (by decide)]; exact P01.dec_zero
  unfold PA.text
  rw [PA.lineT_head _ (by decide)]
  simp [PA.headN, PA.text1, PA.text2, PA.text3, PA.text4, PA.told, h0]

set_option maxRecDepth 100000 in
set_option maxHeartbeats 4000000 in
theorem alive05_any (w : World) : Calls Tryd.prog 19 #[] w fun e w' => e = .returned (.bool true) ∧ Below w.heap.size w w' := by
  have hW := Lib.hid (aWrite_any _ _ w (noC_is w))
  have hO := Lib.hid fun y => aOrdered_any _ _ y (noC_is y)
  rw [no_ordered] at hO
  have hN := Lib.hid fun x y => num05_any x y
  go_enter Tryd.func19, Tryd.ntmps19
  go_wp2_with fail
  refine hW.out.mono ?_
  rintro e w1 ⟨v, rfl, hv, _, hb1⟩
  have hv := hv no_ordered
  rw [no_text] at hv
  have hbk := hv.back
  rw [no_ordered]
  clear hv
  go_wp2_with (first | (go_at_call 21; refine (hN.out _ _).mono ?_; rintro e w4 ⟨rfl, rfl⟩) | (go_at_call 51; refine (hO.out _).mono ?_; rintro e w5 ⟨rfl, hb5⟩))
  go_ret
  exact ⟨by first | rfl | simp, Below.of hb1 hb5⟩

end Go.Proofs.YtjcaejdokillgaaDoor
