/- Contracts: what is known at first; what is known of both. -/
import Derived.Test.YtlakfaalpijhiaaDoorWalkYL
import Derived.Lib.LazyBuf
namespace Go.Proofs.YtlakfaalpijhiaaDoor
open Go.RowKit Go.Shelf
attribute [local simp] mk_get

set_option maxRecDepth 100000 in
set_option maxHeartbeats 4000000 in
theorem terFirst_any (c : PC.Circ) (vc : Value) (w : World) (h : IsCirc w vc c) (hR : PC.Right c) :
    Calls Tryd.prog 39 #[vc] w fun e w' => e = .returned (.string ⟨(PC.fstT c).toArray⟩) ∧ Below w.heap.size w w' := by
  obtain ⟨vi, vl, vo, vb, vv, va, vn, rfl, hp, hm⟩ := h
  obtain ⟨al, capl, rfl, hl1, hl2, hl3⟩ := hp.latches.open_
  clear hp
  have HL := Lib.hid hl3
  have HRs := Lib.hid hR.latReset
  have hl64 := hR.lats
  clear hl3 hR
  have hb01 : Hid (Below w.heap.size w (w.alloc (.cells #[.int .i64 c.max, vi, .slice al c.latches.length capl, vo, vb, vv, va, vn] 27))) := (Below.refl _ _).alloc (Nat.le_refl _) _
  have hbx1 := Lib.hid (Box8.new w (.int .i64 c.max) vi (.slice al c.latches.length capl) vo vb vv va vn 27)
  obtain ⟨w1, hw1⟩ : ∃ W, W = w.alloc (.cells #[.int .i64 c.max, vi, .slice al c.latches.length capl, vo, vb, vv, va, vn] 27) := ⟨_, rfl⟩
  rw [← hw1] at hb01 hbx1
  have HW1 := Lib.hid hw1
  have hsz : Hid (w1.heap.size = w.heap.size + 1) := by show _ = _; rw [hw1, World.size_alloc]
  clear hw1
  obtain ⟨NS, hNS⟩ : ∃ x, x = PC.fstT c := ⟨_, rfl⟩
  rw [← hNS]
  have hNS0 : Hid (NS = c.latches.map fun x => if x.reset = x.lit then 120 else if x.reset = 1 then 49 else 48) := by show _ = _; rw [hNS]; rfl
  have hNl : NS.length = c.latches.length := by rw [hNS0.out, List.length_map]
  clear hNS
  obtain ⟨q0, q1, q2, q3, q4, q5, q6, q7⟩ := hbx1.out
  have r2 := past1 q2
  go_enter Tryd.func39, Tryd.ntmps39
  go_wp2_with fail
  rw [← HW1.out]
  go_loopg [9] c.latches.length (fun gg s9 wr => ∃ k : Nat, k ≤ c.latches.length ∧ c.latches.length - k ≤ gg ∧ s9 = .int .i64 k ∧ Hid (Lib.IsBuilderF 86 5 w1.heap.size w1.heap.size (Lib.byteCells (NS.take k)) wr) ∧ Below w1.heap.size w1 wr)
  case atStart => exact ⟨0, Nat.zero_le _, by omega, rfl, builder_new _ _ _, (Below.refl _ _).alloc (Nat.le_refl _) _⟩
  case round =>
    clear q0 q1 q2 q3 q4 q5 q6 q7 r2
    obtain ⟨k, hk, hg, rfl, hbd, hbr⟩ := hrel
    by_cases hlt : k < c.latches.length
    · have hmea : ∀ g : Nat, c.latches.length - k ≤ g → c.latches.length - (k + 1) < g := fun g h => by omega
      obtain ⟨b, off, rfl, hbs', ⟨hxr', _, hrr⟩, c0, c1, c2⟩ := HL.out k hlt
      have hbwr := Below.of hb01.out hbr
      have c0 := (hbwr.cell hbs').trans c0
      have c1 := (hbwr.cell hbs').trans c1
      have c2 := (hbwr.cell hbs').trans c2
      have hrs := HRs.out _ (List.getElem_mem hlt)
      have hnx : Hid (NS[k]'(by omega) = if c.latches[k].reset = c.latches[k].lit then 120 else if c.latches[k].reset = 1 then 49 else 48) := by
        show _ = _
        simp only [hNS0.out, List.getElem_map]
      generalize hx : c.latches[k] = x at *
      clear hx
      obtain ⟨x, xn, xr⟩ := x
      simp only at c0 c1 c2 hrs
      have hltz : (k : Int) < (c.latches.length : Int) := by omega
      have hn0 : (wr.alloc (.cells #[.int .i64 x, .int .i64 xn, .int .i64 xr] 44)).cell? ⟨wr.heap.size, 0, none⟩ = some (.int .i64 x) := by rw [World.cell?_alloc_mark]; rfl
      have hn2 : (wr.alloc (.cells #[.int .i64 x, .int .i64 xn, .int .i64 xr] 44)).cell? ⟨wr.heap.size, 2, none⟩ = some (.int .i64 xr) := by rw [World.cell?_alloc_mark]; rfl
      have hbdW := Lib.hid (hbd.out.alloc (.cells #[.int .i64 x, .int .i64 xn, .int .i64 xr] 44))
      have hbW := Lib.hid (hbr.alloc hbr.size (.cells #[.int .i64 x, .int .i64 xn, .int .i64 xr] 44))
      obtain ⟨W, hW⟩ : ∃ W, W = wr.alloc (.cells #[.int .i64 x, .int .i64 xn, .int .i64 xr] 44) := ⟨_, rfl⟩
      rw [← hW] at hn0 hn2 hbdW hbW
      have HW := Lib.hid hW
      clear hW
      have hBs : w1.heap.size ≤ W.heap.size := hbW.out.size
      have hwb0 := Lib.hid fun (y : UInt8) => Any.Builder_WriteByte_k Tryd.lays167 Tryd.Builder_Extra_167 w1.heap.size w1.heap.size (Lib.byteCells (NS.take k)) (y.toNat : Int) W hbdW.out (by rw [Lib.byteCells_length, List.length_take]; omega) hBs
      have hbt := Lib.hid (byteCells_take NS k (by omega))
      rw [hsz.out] at hwb0
      by_cases h1 : xr = x
      · have e1 : (xr == x) = true := by simp [h1]
        have hnx2 : Hid (NS[k]'(by omega) = 120) := by show _ = _; rw [hnx.out, if_pos h1]
        have hwb := Lib.hid (hwb0.out 120)
        change Hid (Calls _ _ #[_, .int .u8 120] _ _) at hwb
        subst h1
        clear hrs
        go_wp2_with fail
        rw [← HW.out]
        go_wp2_with (go_at_call 59; refine hwb.out.mono ?_; rintro e w5 ⟨rfl, hB5, hb5, _⟩)
        rw [← hsz.out] at hB5 hb5
        have hB6 : Hid (Lib.IsBuilderF 86 5 w1.heap.size w1.heap.size (Lib.byteCells (NS.take (k + 1))) w5) := by
          rw [hbt.out, hnx2.out]
          exact .inr hB5
        have hb6 := hbW.out.trans hb5
        clear hB5
        go_roundg (c.latches.length - (k + 1))
        case measure => exact hmea _ hg
        case rel => exact ⟨k + 1, by omega, by omega, by go_num, hB6, hb6⟩
      · have e1 : (xr == x) = false := by simpa using h1
        have h01 : xr = 0 ∨ xr = 1 := by
          rcases hrs with h | h | h
          · exact Or.inl h
          · exact Or.inr h
          · exact absurd h h1
        clear hrs
        rcases h01 with h0 | h0
        · have hnx2 : Hid (NS[k]'(by omega) = 48) := by show _ = _; rw [hnx.out, if_neg h1]; simp only; rw [h0]; rfl
          have hwb := Lib.hid (hwb0.out 48)
          change Hid (Calls _ _ #[_, .int .u8 48] _ _) at hwb
          subst h0
          clear h1
          go_wp2_with fail
          rw [← HW.out]
          go_wp2_with (go_at_call 59; refine hwb.out.mono ?_; rintro e w5 ⟨rfl, hB5, hb5, _⟩)
          rw [← hsz.out] at hB5 hb5
          have hB6 : Hid (Lib.IsBuilderF 86 5 w1.heap.size w1.heap.size (Lib.byteCells (NS.take (k + 1))) w5) := by
            rw [hbt.out, hnx2.out]
            exact .inr hB5
          have hb6 := hbW.out.trans hb5
          clear hB5
          go_roundg (c.latches.length - (k + 1))
          case measure => exact hmea _ hg
          case rel => exact ⟨k + 1, by omega, by omega, by go_num, hB6, hb6⟩
        · have hnx2 : Hid (NS[k]'(by omega) = 49) := by show _ = _; rw [hnx.out, if_neg h1]; simp only; rw [h0]; rfl
          have hwb := Lib.hid (hwb0.out 49)
          change Hid (Calls _ _ #[_, .int .u8 49] _ _) at hwb
          subst h0
          clear h1
          go_wp2_with fail
          rw [← HW.out]
          go_wp2_with (go_at_call 59; refine hwb.out.mono ?_; rintro e w5 ⟨rfl, hB5, hb5, _⟩)
          rw [← hsz.out] at hB5 hb5
          have hB6 : Hid (Lib.IsBuilderF 86 5 w1.heap.size w1.heap.size (Lib.byteCells (NS.take (k + 1))) w5) := by
            rw [hbt.out, hnx2.out]
            exact .inr hB5
          have hb6 := hbW.out.trans hb5
          clear hB5
          go_roundg (c.latches.length - (k + 1))
          case measure => exact hmea _ hg
          case rel => exact ⟨k + 1, by omega, by omega, by go_num, hB6, hb6⟩
    · have hltz : ¬ (k : Int) < (c.latches.length : Int) := by omega
      obtain rfl : k = c.latches.length := by omega
      have hsr := hbd.out
      rw [← hNl, List.take_length] at hsr
      have hstr := Lib.hid (Tryd.Builder_String_any_k w1.heap.size w1.heap.size NS wr hsr hbr.size)
      rw [hsz.out] at hstr
      clear hsr
      go_wp2_with (go_at_call 60; refine hstr.out.mono ?_; rintro e w5 ⟨rfl, _, hb5, _⟩)
      go_ret
      rw [← hsz.out] at hb5
      exact ⟨rfl, Below.of hb01.out (hbr.trans hb5)⟩

end Go.Proofs.YtlakfaalpijhiaaDoor
