/- Contracts: ternary.Values, next, Next. -/
import Derived.Test.YtlakfaalpijhiaaDoorWalkY2
namespace Go.Proofs.YtlakfaalpijhiaaDoor
open Go.RowKit Go.Shelf
attribute [local simp] mk_get

set_option maxRecDepth 100000 in
set_option maxHeartbeats 4000000 in
theorem terValues_any (c : PC.Circ) (vc : Value) (st inp : List UInt8) (w : World) (h : IsCirc w vc c) (hs : st.length ≤ 9223372036854775807) (hi : inp.length ≤ 9223372036854775807) :
    Calls Tryd.prog 9 #[vc, .string ⟨st.toArray⟩, .string ⟨inp.toArray⟩] w fun e w' => e = .returned (.tuple #[.string ⟨(PC.ternS c st inp).toArray⟩, .int .i64 (PC.ternE c st inp)]) ∧ Below w.heap.size w w' := by
  have hCk := Lib.hid fun w1 (hb : Below w.heap.size w w1) => cCheck_any c vc w1 (h.mono hb)
  rw [PC.pchk_eq] at hCk
  have hRn := Lib.hid fun w1 (hb : Below w.heap.size w w1) => run_any c vc st inp w1 (h.mono hb)
  obtain ⟨vi, vl, vo, vb, vv, va, vn, rfl, hp, hm⟩ := h
  obtain ⟨ai, capi, rfl, hi1, hi2, _⟩ := hp.inputs.open_
  obtain ⟨al, capl, rfl, hl1, hl2, _⟩ := hp.latches.open_
  clear hp
  have hB1 := Lib.hid fun w1 => terTrits_any st c.latches.length w1 hs (by omega)
  have hB2 := Lib.hid fun w1 => terTrits_any inp c.inputs.length w1 hi (by omega)
  obtain ⟨RS, hRS⟩ : ∃ R, R = PC.ternS c st inp := ⟨_, rfl⟩
  obtain ⟨RE, hRE⟩ : ∃ R, R = PC.ternE c st inp := ⟨_, rfl⟩
  rw [← hRS, ← hRE]
  have HRS := Lib.hid hRS
  have HRE := Lib.hid hRE
  clear hRS hRE
  have hb0 : Below w.heap.size w (w.alloc (.cells #[.int .i64 c.max, .slice ai c.inputs.length capi, .slice al c.latches.length capl, vo, vb, vv, va, vn] 27)) := (Below.refl _ _).alloc (Nat.le_refl _) _
  have hbx0 := Lib.hid (Box8.new w (.int .i64 c.max) (.slice ai c.inputs.length capi) (.slice al c.latches.length capl) vo vb vv va vn 27)
  cases hck : PC.chk c with
  | false =>
    rw [hck] at hCk
    have e1 : RE = 9 := by rw [HRE.out, PC.ternE, if_pos hck]
    have e2 : RS = [] := by rw [HRS.out, PC.ternS, ← HRE.out, e1]; rfl
    clear hck
    go_enter Tryd.func9, Tryd.ntmps9
    go_wp2_with fail
    refine (hCk.out _ (by exact hb0)).mono ?_
    rintro e w1 ⟨rfl, hb1⟩
    go_wp2_with fail
    go_ret2
    exact ⟨by rw [e1, e2]; rfl, Below.of hb0 hb1⟩
  | true =>
    rw [hck] at hCk
    have HCK := Lib.hid hck
    clear hck
    cases d1 : PC.tritsOk st c.latches.length with
    | false =>
      rw [d1] at hB1
      have e1 : RE = 5 := by rw [HRE.out, PC.ternE, if_neg (by rw [HCK.out]; decide), if_pos (Or.inl d1)]
      have e2 : RS = [] := by rw [HRS.out, PC.ternS, ← HRE.out, e1]; rfl
      clear d1
      go_enter Tryd.func9, Tryd.ntmps9
      go_wp2_with fail
      refine (hCk.out _ (by exact hb0)).mono ?_
      rintro e w1 ⟨rfl, hb1⟩
      obtain ⟨q0, q1, q2, q3, q4, q5, q6, q7⟩ := hbx0.out.mono hb1
      go_wp2_with fail
      refine (hB1.out _).mono ?_
      rintro e w2 ⟨rfl, hb2⟩
      go_wp2_with fail
      go_ret2
      exact ⟨by rw [e1, e2]; rfl, Below.of (Below.of hb0 hb1) hb2⟩
    | true =>
      rw [d1] at hB1
      have D1 := Lib.hid d1
      clear d1
      go_enter Tryd.func9, Tryd.ntmps9
      go_wp2_with fail
      refine (hCk.out _ (by exact hb0)).mono ?_
      rintro e w1 ⟨rfl, hb1⟩
      have hbx1 := Lib.hid (hbx0.out.mono hb1)
      have hb01 := Below.of hb0 hb1
      obtain ⟨q0, q1, q2, q3, q4, q5, q6, q7⟩ := hbx1.out
      clear hbx0 hb0 hb1 hCk
      go_wp2_with fail
      refine (hB1.out _).mono ?_
      rintro e w2 ⟨rfl, hb2⟩
      have hbx2 := Lib.hid (hbx1.out.mono hb2)
      have hb02 := Below.of hb01 hb2
      clear q0 q1 q2 q3 q4 q5 q6 q7 hbx1 hb01 hb2 hB1
      obtain ⟨q0, q1, q2, q3, q4, q5, q6, q7⟩ := hbx2.out
      cases d2 : PC.tritsOk inp c.inputs.length with
      | false =>
        rw [d2] at hB2
        have e1 : RE = 5 := by rw [HRE.out, PC.ternE, if_neg (by rw [HCK.out]; decide), if_pos (Or.inr d2)]
        have e2 : RS = [] := by rw [HRS.out, PC.ternS, ← HRE.out, e1]; rfl
        clear d2
        go_wp2_with fail
        refine (hB2.out _).mono ?_
        rintro e w3 ⟨rfl, hb3⟩
        go_wp2_with fail
        go_ret2
        exact ⟨by rw [e1, e2]; rfl, Below.of hb02 hb3⟩
      | true =>
        rw [d2] at hB2
        have D2 := Lib.hid d2
        have e1 : RE = 0 := by rw [HRE.out, PC.ternE, if_neg (by rw [HCK.out]; decide), if_neg (by rw [D1.out, d2]; decide)]
        have e2 : RS = PC.tvals c st inp := by rw [HRS.out, PC.ternS, ← HRE.out, e1]; rfl
        clear d2
        go_wp2_with fail
        refine (hB2.out _).mono ?_
        rintro e w3 ⟨rfl, hb3⟩
        have hb03 := Lib.hid (Below.of hb02 hb3)
        have hbx3 := Lib.hid (hbx2.out.mono hb3)
        have hR3 := Lib.hid (hRn.out w3 hb03.out (PC.right_of c HCK.out) (PC.tritsOk_mem D1.out).2 (PC.tritsOk_mem D2.out).2)
        rw [← e2] at hR3
        clear q0 q1 q2 q3 q4 q5 q6 q7 hbx2 hb02 hb3 hB2 hRn
        obtain ⟨q0, q1, q2, q3, q4, q5, q6, q7⟩ := hbx3.out
        go_wp2_with fail
        refine hR3.out.mono ?_
        rintro e w4 ⟨rfl, hb4⟩
        go_wp2_with fail
        go_ret2
        exact ⟨by rw [e1, e2]; rfl, Below.of hb03.out hb4⟩

set_option maxRecDepth 100000 in
set_option maxHeartbeats 4000000 in
theorem ternext_any (c : PC.Circ) (vc : Value) (m : List UInt8) (w : World) (h : IsCirc w vc c) (hl64 : c.latches.length ≤ 64) (hml : m.length ≤ 9223372036854775807) :
    Calls Tryd.prog 34 #[vc, .string ⟨m.toArray⟩] w fun e w' => e = .returned (.string ⟨(PC.tnexts c m).toArray⟩) ∧ Below w.heap.size w w' := by
  obtain ⟨vi, vl, vo, vb, vv, va, vn, rfl, hp, hm⟩ := h
  obtain ⟨al, capl, rfl, hl1, hl2, hl3⟩ := hp.latches.open_
  clear hp
  have HL := Lib.hid hl3
  clear hl3
  have hb01 : Hid (Below w.heap.size w (w.alloc (.cells #[.int .i64 c.max, vi, .slice al c.latches.length capl, vo, vb, vv, va, vn] 27))) := (Below.refl _ _).alloc (Nat.le_refl _) _
  have hbx1 := Lib.hid (Box8.new w (.int .i64 c.max) vi (.slice al c.latches.length capl) vo vb vv va vn 27)
  obtain ⟨w1, hw1⟩ : ∃ W, W = w.alloc (.cells #[.int .i64 c.max, vi, .slice al c.latches.length capl, vo, vb, vv, va, vn] 27) := ⟨_, rfl⟩
  rw [← hw1] at hb01 hbx1
  have HW1 := Lib.hid hw1
  have hsz : Hid (w1.heap.size = w.heap.size + 1) := by show _ = _; rw [hw1, World.size_alloc]
  clear hw1
  obtain ⟨NS, hNS⟩ : ∃ x, x = PC.tnexts c m := ⟨_, rfl⟩
  rw [← hNS]
  have hNS0 : Hid (NS = c.latches.map fun x => PC.ofT m x.next) := by show _ = _; rw [hNS]; rfl
  have hNl : NS.length = c.latches.length := by rw [hNS0.out, List.length_map]
  clear hNS
  obtain ⟨q0, q1, q2, q3, q4, q5, q6, q7⟩ := hbx1.out
  have r2 := past1 q2
  go_enter Tryd.func34, Tryd.ntmps34
  go_wp2_with fail
  rw [← HW1.out]
  go_loopg [11] c.latches.length (fun gg s11 wr => ∃ k : Nat, k ≤ c.latches.length ∧ c.latches.length - k ≤ gg ∧ s11 = .int .i64 k ∧ Hid (Lib.IsBuilderF 86 5 w1.heap.size w1.heap.size (Lib.byteCells (NS.take k)) wr) ∧ Below w1.heap.size w1 wr)
  case atStart => exact ⟨0, Nat.zero_le _, by omega, rfl, builder_new _ _ _, (Below.refl _ _).alloc (Nat.le_refl _) _⟩
  case round =>
    clear q0 q1 q2 q3 q4 q5 q6 q7 r2
    obtain ⟨k, hk, hg, rfl, hbd, hbr⟩ := hrel
    by_cases hlt : k < c.latches.length
    · have hmea : ∀ g : Nat, c.latches.length - k ≤ g → c.latches.length - (k + 1) < g := fun g h => by omega
      obtain ⟨b, off, rfl, hbs', ⟨_, hnr, _⟩, c0, c1, c2⟩ := HL.out k hlt
      have hbwr := Below.of hb01.out hbr
      have c0 := (hbwr.cell hbs').trans c0
      have c1 := (hbwr.cell hbs').trans c1
      have c2 := (hbwr.cell hbs').trans c2
      have hnx : Hid (NS[k]'(by omega) = PC.ofT m c.latches[k].next) := by
        show _ = _
        simp only [hNS0.out, List.getElem_map]
      generalize hx : c.latches[k] = x at *
      clear hx
      obtain ⟨x, xn, xr⟩ := x
      simp only at hnr c0 c1 c2 hnx
      have hltz : (k : Int) < (c.latches.length : Int) := by omega
      have hn1 : (wr.alloc (.cells #[.int .i64 x, .int .i64 xn, .int .i64 xr] 44)).cell? ⟨wr.heap.size, 1, none⟩ = some (.int .i64 xn) := by rw [World.cell?_alloc_mark]; rfl
      have hbdW := Lib.hid (hbd.out.alloc (.cells #[.int .i64 x, .int .i64 xn, .int .i64 xr] 44))
      have hbW := Lib.hid (hbr.alloc hbr.size (.cells #[.int .i64 x, .int .i64 xn, .int .i64 xr] 44))
      obtain ⟨W, hW⟩ : ∃ W, W = wr.alloc (.cells #[.int .i64 x, .int .i64 xn, .int .i64 xr] 44) := ⟨_, rfl⟩
      rw [← hW] at hn1 hbdW hbW
      have HW := Lib.hid hW
      clear hW
      have hof := Lib.hid (terOf_any m xn W hnr hml)
      have hBs : w1.heap.size ≤ W.heap.size := hbW.out.size
      have hwb := Lib.hid (Any.Builder_WriteByte_k Tryd.lays167 Tryd.Builder_Extra_167 w1.heap.size w1.heap.size (Lib.byteCells (NS.take k)) ((PC.ofT m xn).toNat : Int) W hbdW.out (by rw [Lib.byteCells_length, List.length_take]; omega) hBs)
      have hbt := Lib.hid (byteCells_take NS k (by omega))
      go_wp2_with fail
      rw [← HW.out]
      rw [hsz.out] at hwb
      go_wp2_with (first | (go_at_call 21; refine hof.out.mono ?_; rintro e w4 ⟨rfl, rfl⟩) | (go_at_call 59; refine hwb.out.mono ?_; rintro e w5 ⟨rfl, hB5, hb5, _⟩))
      rw [← hsz.out] at hB5 hb5
      have hB6 : Hid (Lib.IsBuilderF 86 5 w1.heap.size w1.heap.size (Lib.byteCells (NS.take (k + 1))) w5) := by
        rw [hbt.out, hnx.out]
        exact .inr hB5
      have hb6 := hbW.out.trans hb5
      clear hB5
      go_roundg (c.latches.length - (k + 1))
      case measure => exact hmea _ hg
      case rel => exact ⟨k + 1, by omega, by omega, by go_num, hB6, hb6⟩
    · have hltz : ¬ (k : Int) < (c.latches.length : Int) := by omega
      obtain rfl : k = c.latches.length := by omega
      have hsr := hbd.out
      rw [← hNl, List.take_length] at hsr
      have hstr := Lib.hid (Tryd.Builder_String_any_k w1.heap.size w1.heap.size NS wr hsr hbr.size)
      rw [hsz.out] at hstr
      clear hsr
      go_wp2_with (go_at_call 60; refine hstr.out.mono ?_; rintro e w5 ⟨rfl, _, hb5, _⟩)
      go_ret
      rw [← hsz.out] at hb5
      exact ⟨rfl, Below.of hb01.out (hbr.trans hb5)⟩

end Go.Proofs.YtlakfaalpijhiaaDoor
