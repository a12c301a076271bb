/- The walk of TernaryAlways. -/
import Derived.Test.YtlakfaalpijhiaaDoorWalkYP
import Derived.Test.YtlakfaalpijhiaaDoorWalkYQ
import Derived.Test.YtlakfaalpijhiaaDoorWalkY5
import Derived.Test.YtlakfaalpijhiaaDoorWalkY8
namespace Go.Proofs.YtlakfaalpijhiaaDoor
open Go.RowKit Go.Shelf
attribute [local simp] mk_get

/-- numbers without a sign in a slice -/
def U64s (w : World) (v : Value) (l : List Int) : Prop := Cells w 1 v l.length (l.map (Value.int .u64)) ∧ ∀ x ∈ l, 0 ≤ x ∧ x ≤ 18446744073709551615
theorem U64s.open_ {w : World} {v : Value} {l : List Int} (h : U64s w v l) : ∃ ao cap, v = .slice ao l.length cap ∧ l.length ≤ cap ∧ cap ≤ 9223372036854775807 ∧
    ∀ j (hj : j < l.length), ∃ b off, ao = some ⟨b, off, none⟩ ∧ b < w.heap.size ∧ (0 ≤ l[j] ∧ l[j] ≤ 18446744073709551615) ∧ w.cell? ⟨b, off + j, none⟩ = some (.int .u64 l[j]) := by
  obtain ⟨⟨ao, cap, rfl, h1, h2, _, h3, h4⟩, hr⟩ := h
  refine ⟨ao, cap, rfl, h1, h2, fun j hj => ?_⟩
  obtain ⟨b, off, e, hlt, hc⟩ := h4 j (by simpa using hj)
  exact ⟨b, off, e, hlt, hr _ (List.getElem_mem hj), by simpa using hc⟩

/-- a latch's first bit -/
def iniB (x : PC.Lat) (free : Int) (k : Nat) : UInt8 := if x.reset = x.lit then (if fbit free k = 1 then 49 else 48) else if x.reset = 1 then 49 else 48
def iniN (c : PC.Circ) (free : Int) (n : Nat) : List UInt8 := (List.range n).map fun k => iniB (c.latches.getD k default) free k

theorem iniN_succ (c : PC.Circ) (free : Int) (k : Nat) (h : k < c.latches.length) : iniN c free (k + 1) = iniN c free k ++ [iniB c.latches[k] free k] := by
  unfold iniN
  rw [List.range_succ, List.map_append]
  simp [h]

theorem iniN_len (c : PC.Circ) (free : Int) (n : Nat) : (iniN c free n).length = n := by simp [iniN]

theorem iniB_bit (x : PC.Lat) (free : Int) (k : Nat) : iniB x free k = 48 ∨ iniB x free k = 49 := by
  unfold iniB
  split
  · split
    · exact Or.inr rfl
    · exact Or.inl rfl
  · split
    · exact Or.inr rfl
    · exact Or.inl rfl

theorem ini_ok (c : PC.Circ) (free : Int) : PC.bitsOk (iniN c free c.latches.length) c.latches.length = true := by
  unfold PC.bitsOk
  rw [Bool.and_eq_true, List.all_eq_true, decide_eq_true_eq]
  refine ⟨fun b hb => ?_, iniN_len _ _ _⟩
  unfold iniN at hb
  obtain ⟨k, _, rfl⟩ := List.mem_map.1 hb
  rcases iniB_bit (c.latches.getD k default) free k with e | e <;> rw [e] <;> rfl

theorem ini_cov (c : PC.Circ) (free : Int) : PC.Cov (PC.fstT c) (iniN c free c.latches.length) := by
  refine ⟨by simp [PC.fstT, iniN_len], fun j h h' => ?_⟩
  have hj : j < c.latches.length := by simpa [PC.fstT] using h
  have e1 : (PC.fstT c)[j] = if c.latches[j].reset = c.latches[j].lit then 120 else if c.latches[j].reset = 1 then 49 else 48 := by simp [PC.fstT]
  have e2 : (iniN c free c.latches.length)[j] = iniB c.latches[j] free j := by simp [iniN, hj]
  rw [e1, e2]
  by_cases e : c.latches[j].reset = c.latches[j].lit
  · rw [if_pos e]; exact Or.inr rfl
  · rw [if_neg e, iniB, if_neg e]; exact PC.Cv.refl _

theorem xs_succ (k : Nat) : (ByteArray.mk (PC.xs k).toArray) ++ (ByteArray.mk #[120]) = ⟨(PC.xs (k + 1)).toArray⟩ := by
  rw [show PC.xs (k + 1) = PC.xs k ++ [120] from by unfold PC.xs; rw [List.replicate_succ']]
  exact cat_eq _ [_]

set_option maxRecDepth 100000 in
set_option maxHeartbeats 8000000 in
theorem always_walk (c : PC.Circ) (vc vu : Value) (free : Int) (ins : List Int) (w : World) (h : IsCirc w vc c) (hf : Fits c) (hb0 : 0 ≤ free) (hb1 : free ≤ 18446744073709551615) (hU : U64s w vu ins) :
    Calls Tryd.prog 6 #[vc, .int .u64 free, vu] w fun e w' => e = .returned (.bool true) ∧ Below w.heap.size w w' := by
  have hWi := Lib.hid fun w1 (hb : Below w.heap.size w w1) => widen_any c vc 80 w1 (h.mono hb) (by omega)
  have hNx := Lib.hid fun s i w1 (hb : Below w.heap.size w w1) => rNext_any c vc s i w1 (h.mono hb) hf
  obtain ⟨vi, vl, vo, vb, vv, va, vn, rfl, hp, hm⟩ := h
  obtain ⟨ai, capi, rfl, hi1, hi2, _⟩ := hp.inputs.open_
  obtain ⟨al, capl, rfl, hl1, hl2, hl3⟩ := hp.latches.open_
  obtain ⟨au, capu, rfl, hu1, hu2, hu3⟩ := hU.open_
  have HL := Lib.hid hl3
  have HU := Lib.hid hu3
  clear hp hl3 hu3 hU
  have hbw := Lib.hid ((Below.refl w.heap.size w).alloc (Nat.le_refl _) (.cells #[.int .i64 c.max, .slice ai c.inputs.length capi, .slice al c.latches.length capl, vo, vb, vv, va, vn] 27))
  have hbx0 := Lib.hid (Box8.new w (.int .i64 c.max) (.slice ai c.inputs.length capi) (.slice al c.latches.length capl) vo vb vv va vn 27)
  have hNum := Lib.hid fun x W => num08_any x W
  go_enter Tryd.func6, Tryd.ntmps6
  go_wp2_with fail
  refine (alive08_any _).mono ?_
  rintro e w1 ⟨rfl, hbk⟩
  have hbA := Lib.hid (Below.of hbw.out hbk)
  have hbx1 := Lib.hid (hbx0.out.mono hbk)
  clear hbw hbk hbx0
  obtain ⟨q0, q1, q2, q3, q4, q5, q6, q7⟩ := hbx1.out
  go_wp2_with fail
  cases hck : PC.chk c with
  | false =>
    rw [hck] at hWi
    have hWi2 := hWi.out _ hbA.out
    simp only [Bool.false_eq_true, if_false] at hWi2
    refine hWi2.mono ?_
    rintro e w2 ⟨rfl, hbk⟩
    go_wp2_with (go_at_call 10; refine (hNum.out _ _).mono ?_; rintro e w3 ⟨rfl, rfl⟩)
    go_ret
    exact ⟨rfl, Below.of hbA.out hbk⟩
  | true =>
    rw [hck] at hWi
    have hRt := Lib.hid (PC.right_of c hck)
    have HCK := Lib.hid hck
    have hWi2 := hWi.out _ hbA.out
    simp only [if_true] at hWi2
    obtain ⟨N, hN⟩ : ∃ N, N = PC.widN c 80 := ⟨_, rfl⟩
    have hcs := PC.widN_cases c 80
    rw [← hN] at hcs hWi2
    obtain ⟨S, hS⟩ : ∃ S, S = PC.widS c N := ⟨_, rfl⟩
    rw [← hS] at hWi2
    clear hck hWi
    refine hWi2.mono ?_
    rintro e w2 ⟨rfl, hbk⟩
    have hbB := Lib.hid (Below.of hbA.out hbk)
    have hbx2 := Lib.hid (hbx1.out.mono hbk)
    clear hbA hbk hbx1 hWi2 q0 q1 q2 q3 q4 q5 q6 q7
    by_cases h80 : N = 80
    · subst h80
      clear hN hS hcs
      go_wp2_with (go_at_call 10; refine (hNum.out _ _).mono ?_; rintro e w3 ⟨rfl, rfl⟩)
      go_ret
      exact ⟨rfl, hbB.out⟩
    · have hfix : Hid (N < 80 ∧ PC.widNext c S = S) := by
        rcases hcs with e | ⟨e1, e2⟩
        · exact absurd e h80
        · exact ⟨e1, by rw [hS]; exact e2⟩
      have hSl : Hid (S.length = c.latches.length) := by show _ = _; rw [hS]; exact PC.widS_length c N
      have hSf : Hid (PC.Cov S (PC.fstT c)) := by rw [hS]; exact PC.wid_first c N
      have hdn : decide ((80 : Int) ≤ (N : Int)) = false := decide_eq_false (by have := hfix.out.1; omega)
      have hll := hRt.out.lats
      have hil := hRt.out.ins
      clear hN hS hcs h80
      obtain ⟨W2, hW2⟩ : ∃ W, W = w2 := ⟨_, rfl⟩
      subst hW2
      obtain ⟨q0, q1, q2, q3, q4, q5, q6, q7⟩ := hbx2.out
      go_wp2_with (go_at_call 10; refine (hNum.out _ _).mono ?_; rintro e w3 ⟨rfl, rfl⟩)
      clear q0 q1 q2 q3 q4 q5 q6 q7
      go_loopg [10, 11] c.latches.length (fun gg s10 s11 wr => ∃ k : Nat, k ≤ c.latches.length ∧ c.latches.length - k ≤ gg ∧ s10 = .string ⟨(iniN c free k).toArray⟩ ∧ s11 = .int .i64 k ∧ Below W2.heap.size W2 wr)
      case atStart => exact ⟨0, Nat.zero_le _, by omega, rfl, rfl, Below.refl _ _⟩
      case round =>
        obtain ⟨k, hk, hg, rfl, rfl, hbr⟩ := hrel
        have hbWr := Lib.hid (Below.of hbB.out hbr)
        have hbxr := Lib.hid (hbx2.out.mono hbr)
        obtain ⟨q0, q1, q2, q3, q4, q5, q6, q7⟩ := hbxr.out
        by_cases hlt : k < c.latches.length
        · have hmea : Hid (∀ g : Nat, c.latches.length - k ≤ g → c.latches.length - (k + 1) < g) := fun g h => by omega
          have HG := Lib.hid hg
          obtain ⟨b, off, rfl, hbs', _, c0, c1, c2⟩ := HL.out k hlt
          have d0 := (hbWr.out.cell hbs').trans c0
          have d1 := (hbWr.out.cell hbs').trans c1
          have d2 := (hbWr.out.cell hbs').trans c2
          have hrs := hRt.out.latReset _ (List.getElem_mem hlt)
          have hst := iniN_succ c free k hlt
          have hcat : ∀ y : UInt8, iniN c free (k + 1) = iniN c free k ++ [y] → (ByteArray.mk (iniN c free k).toArray) ++ (ByteArray.mk #[y]) = ⟨(iniN c free (k + 1)).toArray⟩ := fun y h => by rw [h]; exact cat_eq _ [_]
          have htl : (iniN c free k).length = k := iniN_len _ _ _
          have hk1 : k + 1 ≤ 9223372036854775807 := by omega
          have hk2 : (k : Int) + 1 ≤ 9223372036854775807 := by omega
          have hltz : (k : Int) < (c.latches.length : Int) := by omega
          generalize hx : c.latches[k] = x at *
          clear hx c0 c1 c2 hg
          obtain ⟨x, xn, xr⟩ := x
          simp only at d0 d1 d2 hrs
          have hsz : ∀ o, (wr.alloc o).heap.size = wr.heap.size + 1 := fun o => World.size_alloc _ _
          have hbel : Hid (∀ o, Below W2.heap.size W2 (wr.alloc o)) := fun o => hbr.alloc hbr.size o
          by_cases h1 : xr = x
          · have e1 : (xr == x) = true := by simp [h1]
            have hfb := fbit_and free k hb0 hb1
            have hib0 : iniB ⟨x, xn, xr⟩ free k = if fbit free k = 1 then 49 else 48 := by unfold iniB; rw [if_pos h1]
            subst h1
            rcases fbit_or free k with h0 | h0
            · rw [h0] at hfb
              have hib : iniB ⟨xr, xn, xr⟩ free k = 48 := by rw [hib0, h0]; rfl
              have hcv := conv_one (wr.alloc (.cells #[.int .i64 xr, .int .i64 xn, .int .i64 xr] 44)) 48 48 rfl
              rw [World.size_alloc] at hcv
              clear h0 hib0 hrs
              rw [hib] at hst
              have hcat2 := hcat _ hst
              clear hst hcat hib
              obtain ⟨X, hX⟩ : ∃ X, X = iniN c free k := ⟨_, rfl⟩
              obtain ⟨Y, hY⟩ : ∃ Y, Y = iniN c free (k + 1) := ⟨_, rfl⟩
              rw [← hX, ← hY] at hcat2
              rw [← hX] at htl ⊢
              have HY := Lib.hid hY
              clear hX hY
              go_wp2_with fail
              go_roundg (c.latches.length - (k + 1))
              case measure => exact hmea.out _ HG.out
              case rel => exact ⟨k + 1, by omega, by omega, by rw [HY.out], by go_num, (hbel.out _).alloc (hbel.out _).size _⟩
            · rw [h0] at hfb
              have hib : iniB ⟨xr, xn, xr⟩ free k = 49 := by rw [hib0, h0]; rfl
              have hcv := conv_one (wr.alloc (.cells #[.int .i64 xr, .int .i64 xn, .int .i64 xr] 44)) 49 49 rfl
              rw [World.size_alloc] at hcv
              clear h0 hib0 hrs
              rw [hib] at hst
              have hcat2 := hcat _ hst
              clear hst hcat hib
              obtain ⟨X, hX⟩ : ∃ X, X = iniN c free k := ⟨_, rfl⟩
              obtain ⟨Y, hY⟩ : ∃ Y, Y = iniN c free (k + 1) := ⟨_, rfl⟩
              rw [← hX, ← hY] at hcat2
              rw [← hX] at htl ⊢
              have HY := Lib.hid hY
              clear hX hY
              go_wp2_with fail
              go_roundg (c.latches.length - (k + 1))
              case measure => exact hmea.out _ HG.out
              case rel => exact ⟨k + 1, by omega, by omega, by rw [HY.out], by go_num, (hbel.out _).alloc (hbel.out _).size _⟩
          · have e1 : (xr == x) = false := by simpa using h1
            by_cases h2 : xr = 1
            · have hib : iniB ⟨x, xn, xr⟩ free k = 49 := by unfold iniB; rw [if_neg h1, if_pos h2]
              have e2 : (xr == 1) = true := by simp [h2]
              clear h2 h1 hrs
              rw [hib] at hst
              have hcat2 := hcat _ hst
              clear hst hcat hib
              obtain ⟨X, hX⟩ : ∃ X, X = iniN c free k := ⟨_, rfl⟩
              obtain ⟨Y, hY⟩ : ∃ Y, Y = iniN c free (k + 1) := ⟨_, rfl⟩
              rw [← hX, ← hY] at hcat2
              rw [← hX] at htl ⊢
              have HY := Lib.hid hY
              clear hX hY
              go_wp2_with fail
              go_roundg (c.latches.length - (k + 1))
              case measure => exact hmea.out _ HG.out
              case rel => exact ⟨k + 1, by omega, by omega, by rw [HY.out], by go_num, hbel.out _⟩
            · have hib : iniB ⟨x, xn, xr⟩ free k = 48 := by unfold iniB; rw [if_neg h1, if_neg h2]
              have e2 : (xr == 1) = false := by simpa using h2
              clear h2 h1 hrs
              rw [hib] at hst
              have hcat2 := hcat _ hst
              clear hst hcat hib
              obtain ⟨X, hX⟩ : ∃ X, X = iniN c free k := ⟨_, rfl⟩
              obtain ⟨Y, hY⟩ : ∃ Y, Y = iniN c free (k + 1) := ⟨_, rfl⟩
              rw [← hX, ← hY] at hcat2
              rw [← hX] at htl ⊢
              have HY := Lib.hid hY
              clear hX hY
              go_wp2_with fail
              go_roundg (c.latches.length - (k + 1))
              case measure => exact hmea.out _ HG.out
              case rel => exact ⟨k + 1, by omega, by omega, by rw [HY.out], by go_num, hbel.out _⟩
        · have hltz : ¬ (k : Int) < (c.latches.length : Int) := by omega
          obtain rfl : k = c.latches.length := by omega
          obtain ⟨V1, hV1⟩ : ∃ V, V = wr := ⟨_, rfl⟩
          subst hV1
          have hI0 : Hid (PC.Cov S (iniN c free c.latches.length)) := PC.cov_trans hSf.out (ini_cov c free)
          have hIb := Lib.hid (ini_ok c free)
          obtain ⟨I0, hI0e⟩ : ∃ I, I = iniN c free c.latches.length := ⟨_, rfl⟩
          rw [← hI0e] at hI0 ⊢
          have hIb : Hid (PC.bitsOk I0 c.latches.length = true) := by show _ = _; rw [hI0e]; exact hIb.out
          clear hI0e hg hk hlt
          go_wp2_with fail
          clear q0 q1 q2 q3 q4 q5 q6 q7
          go_loopg [13, 14] c.inputs.length (fun gg s13 s14 wr => ∃ k : Nat, k ≤ c.inputs.length ∧ c.inputs.length - k ≤ gg ∧ s13 = .string ⟨(PC.xs k).toArray⟩ ∧ s14 = .int .i64 k ∧ V1 = wr)
          case atStart => exact ⟨0, Nat.zero_le _, by omega, rfl, rfl, rfl⟩
          case round =>
            clear hltz
            obtain ⟨k, hk, hg, rfl, rfl, rfl⟩ := hrel
            obtain ⟨q0, q1, q2, q3, q4, q5, q6, q7⟩ := hbxr.out
            by_cases hlt : k < c.inputs.length
            · have hltz : (k : Int) < (c.inputs.length : Int) := by omega
              have hmea : Hid (∀ g : Nat, c.inputs.length - k ≤ g → c.inputs.length - (k + 1) < g) := fun g h => by omega
              have HG := Lib.hid hg
              have hcat2 := xs_succ k
              have htl : (PC.xs k).length = k := by simp [PC.xs]
              have hk1 : k + 1 ≤ 9223372036854775807 := by omega
              have hk2 : (k : Int) + 1 ≤ 9223372036854775807 := by omega
              obtain ⟨X, hX⟩ : ∃ X, X = PC.xs k := ⟨_, rfl⟩
              obtain ⟨Y, hY⟩ : ∃ Y, Y = PC.xs (k + 1) := ⟨_, rfl⟩
              rw [← hX, ← hY] at hcat2
              rw [← hX] at htl ⊢
              have HY := Lib.hid hY
              clear hX hY hg
              go_wp2_with fail
              go_roundg (c.inputs.length - (k + 1))
              case measure => exact hmea.out _ HG.out
              case rel => exact ⟨k + 1, by omega, by omega, by rw [HY.out], by go_num, rfl⟩
            · have hltz : ¬ (k : Int) < (c.inputs.length : Int) := by omega
              obtain rfl : k = c.inputs.length := by omega
              obtain ⟨XB, hXB⟩ : ∃ X, X = PC.xs c.inputs.length := ⟨_, rfl⟩
              have hXl : XB.length = c.inputs.length := by rw [hXB]; simp [PC.xs]
              have HXB := Lib.hid hXB
              rw [← hXB]
              clear hXB hg hk hlt
              go_wp2_with fail
              clear q0 q1 q2 q3 q4 q5 q6 q7
              go_loopg [10, 15] ins.length (fun gg s10 s15 wr => ∃ (k : Nat) (I : List UInt8), k ≤ ins.length ∧ ins.length - k ≤ gg ∧ s10 = .string ⟨I.toArray⟩ ∧ s15 = .int .i64 k ∧ Below V1.heap.size V1 wr ∧ Aside (PC.Cov S I ∧ PC.bitsOk I c.latches.length = true))
              case atStart => exact ⟨0, I0, Nat.zero_le _, by omega, rfl, rfl, Below.refl _ _, ⟨hI0.out, hIb.out⟩⟩
              case round =>
                clear hltz
                obtain ⟨k, I, hk, hg, rfl, rfl, hbr3, AI⟩ := hrel
                have AI := Lib.hid AI.out
                have hbR := Lib.hid (Below.of hbWr.out hbr3)
                have hIl : I.length = c.latches.length := (PC.bitsOk_mem AI.out.2).2
                have hcv := Lib.hid fun w1 => terCovers_any S I w1 (by rw [hSl.out]; omega) (by omega)
                rw [(PC.covers_iff S I).2 AI.out.1] at hcv
                by_cases hlt : k < ins.length
                · have hltz : (k : Int) < (ins.length : Int) := by omega
                  by_cases h20 : k < 20
                  · have hltz2 : decide ((k : Int) < 20) = true := decide_eq_true (by omega)
                    have hmea : Hid (∀ g : Nat, ins.length - k ≤ g → ins.length - (k + 1) < g) := fun g h => by omega
                    have HG := Lib.hid hg
                    obtain ⟨bi, offi, rfl, hbsi, ⟨hy0, hy1⟩, hcell⟩ := HU.out k hlt
                    generalize ins[k] = u at *
                    clear hg h20
                    go_wp2_with fail
                    refine (hcv.out _).mono ?_
                    rintro e w4 ⟨rfl, hbk⟩
                    have hbS := Lib.hid (Below.of hbR.out hbk)
                    have hbr4 := Lib.hid (Below.of hbr3 hbk)
                    have hbx4 := Lib.hid ((hbxr.out.mono hbr3).mono hbk)
                    have hcell : ∀ y : Later w4, y.at_.cell? ⟨bi, offi + k, none⟩ = some (.int .u64 u) := fun y => y.cell ((hbS.out.cell hbsi).trans hcell)
                    clear hbk
                    obtain ⟨F, hF⟩ : ∃ F, F = fillS XB u := ⟨_, rfl⟩
                    have hFl : F.length = c.inputs.length := by rw [hF, fillS_len, hXl]
                    have hFc : PC.Cov (PC.xs c.inputs.length) F := by rw [hF, HXB.out]; exact (fill_Fil _ u).cov
                    have hFb : PC.bitsOk F c.inputs.length = true := by rw [hF, HXB.out]; exact (fill_Fil _ u).bits (PC.xs_ok _)
                    have hF1 : ∀ y : Later w4, Calls _ _ _ _ _ := fun y => fill_call XB u y.at_ (by omega) hy0 hy1
                    rw [← hF] at hF1
                    have hN1 : ∀ y : Later w4, Calls _ _ _ _ _ := fun y => hNx.out I F y.at_ (Below.of hbS.out y.below) (by omega) (by omega)
                    have eV0 : PC.valuesE c I F = 0 := by
                      unfold PC.valuesE
                      rw [if_neg (by rw [HCK.out]; decide), if_neg (by rw [AI.out.2, hFb]; simp)]
                    obtain ⟨I2, hI2⟩ : ∃ J, J = nextS c I F := ⟨_, rfl⟩
                    rw [← hI2, eV0] at hN1
                    have eI2 : I2 = PC.nexts c (PC.vals c I F) := by rw [hI2, nextS, if_pos eV0]
                    have HI2 : Hid (PC.Cov S I2 ∧ PC.bitsOk I2 c.latches.length = true) := by
                      show _ ∧ _
                      refine ⟨by rw [eI2]; exact PC.wid_next c hRt.out hfix.out.2 hSl.out AI.out.1 hFc (PC.bitsOk_mem AI.out.2).1 (PC.bitsOk_mem hFb).1, ?_⟩
                      rw [eI2, PC.bitsOk, PC.nexts, Bool.and_eq_true, List.all_eq_true]
                      refine ⟨fun b hb => ?_, by simp⟩
                      obtain ⟨x, _, rfl⟩ := List.mem_map.1 hb
                      split <;> rfl
                    clear hF hFl hFc hFb eV0 hI2 eI2 hy0 hy1
                    obtain ⟨q0, q1, q2, q3, q4, q5, q6, q7⟩ := hbx4.out.later
                    go_wp2_with fail
                    refine wp_region_later (by kernel_rfl) (by kernel_rfl) ?_; (repeat (go_big_quiet_step ((first | (go_at_call 12; with_reducible exact Calls.later (hF1 _)) | (go_at_call 23; with_reducible exact Calls.later (hN1 _)))))); refine wpQuiet_nil ?_; rintro w3 ⟨⟨_, hb3⟩, rfl⟩
                    clear q0 q1 q2 q3 q4 q5 q6 q7 hF1 hN1 hcell
                    go_wp2_with fail
                    go_roundg (ins.length - (k + 1))
                    case measure => exact hmea.out _ HG.out
                    case rel => exact ⟨k + 1, I2, by omega, by omega, rfl, by go_num, Below.of hbr4.out hb3, HI2.out⟩
                  · have hltz2 : decide ((k : Int) < 20) = false := decide_eq_false (by omega)
                    clear h20 hlt hg
                    go_wp2_with fail
                    refine (hcv.out _).mono ?_
                    rintro e w4 ⟨rfl, hbk⟩
                    go_wp2_with fail
                    go_ret
                    exact ⟨rfl, Below.of hbR.out hbk⟩
                · have hltz : ¬ (k : Int) < (ins.length : Int) := by omega
                  obtain rfl : k = ins.length := by omega
                  clear hlt hg
                  go_wp2_with fail
                  refine (hcv.out _).mono ?_
                  rintro e w4 ⟨rfl, hbk⟩
                  go_wp2_with fail
                  go_ret
                  exact ⟨rfl, Below.of hbR.out hbk⟩

end Go.Proofs.YtlakfaalpijhiaaDoor
