/- The walk of AigCuts. -/
import Derived.Test.YtjcaejdokillgaaDoorZWalkI8
import Derived.Test.YtjcaejdokillgaaDoorZA4
import Derived.Test.YtjcaejdokillgaaDoorZWalkO6
namespace Go.Proofs.YtjcaejdokillgaaDoor
open Go.RowKit Go.Shelf
attribute [local simp] mk_get

theorem iRead_any (s : List UInt8) (v : Value) (m : Int) (w : World) (h : Octs w v s) (hs : s.length ≤ 9223372036854775807) (hm : w.cell? ⟨0, 0, none⟩ = some (.int .i64 m)) : Calls Tryd.prog 23 #[v] w (RTo s w) := by
  by_cases h1 : s.length ≤ 65536
  · exact iRead_short s v m w h h1 hm
  · exact iRead_long s v w h (by omega) hs

theorem RTo.yes {s : List UInt8} {w w' : World} {e : Ending} (h : RTo s w e w') {c : PC.Circ} (hs : s.length ≤ 65536) (hp : PI.parse s = some c) :
    ∃ v, e = .returned (.tuple #[v, .int .i64 0]) ∧ IsCirc w' v c ∧ Below w.heap.size w w' := by
  obtain ⟨hb, ⟨c', v, _, h2, rfl, h3⟩ | ⟨h1, _⟩ | ⟨_, h1, _⟩⟩ := h
  · rw [hp] at h2
    obtain rfl := Option.some.inj h2
    exact ⟨v, rfl, h3, hb⟩
  · omega
  · rw [hp] at h1; cases h1
theorem RTo.no {s : List UInt8} {w w' : World} {e : Ending} (h : RTo s w e w') (hs : s.length ≤ 65536) (hp : PI.parse s = none) :
    e = .returned (.tuple #[.agg zero8.toArray, .int .i64 33]) ∧ Below w.heap.size w w' := by
  obtain ⟨hb, ⟨c', v, _, h2, _⟩ | ⟨h1, _⟩ | ⟨_, _, rfl⟩⟩ := h
  · rw [hp] at h2; cases h2
  · omega
  · exact ⟨rfl, hb⟩
theorem RTo.long {s : List UInt8} {w w' : World} {e : Ending} (h : RTo s w e w') (hs : 65536 < s.length) :
    e = .returned (.tuple #[.agg zero8.toArray, .int .i64 5]) ∧ Below w.heap.size w w' := by
  obtain ⟨hb, ⟨c', v, h1, _⟩ | ⟨_, rfl⟩ | ⟨h1, _⟩⟩ := h
  · omega
  · exact ⟨rfl, hb⟩
  · omega

/-- a beginning of octets in their block -/
theorem OctsA.take {w : World} {g : Nat} {l : List UInt8} (hc : ∀ j (h : j < l.length), w.cell? ⟨g, j, none⟩ = some (.int .u8 (l[j].toNat : Int))) (K c' : Nat) (hK : K ≤ l.length) : Octs w (.slice (some ⟨g, 0, none⟩) K c') (l.take K) := by
  have hl : (l.take K).length = K := by rw [List.length_take]; omega
  refine ⟨some ⟨g, 0, none⟩, c', by rw [hl], fun y hy => ?_⟩
  have h := run_convert_bytes_back (P := Tryd.prog) y 47 9 5 ⟨g, 0, none⟩ c' (l.take K) Tryd.underlying47 Tryd.underlying5 Tryd.underlying9 fun j hj => by
    rw [show ((⟨g, 0, none⟩ : Addr).add j) = ⟨g, j, none⟩ from by unfold Addr.add; split <;> simp_all]
    have hj' : j < l.length := by omega
    have := hc j hj'
    rw [hy.cell (World.block_lt_of_cell? w _ this), this, List.getElem_take]
  rw [hl] at h
  exact h
theorem OctsA.octs {w : World} {v : Value} {l : List UInt8} (h : OctsA w v l) : Octs w v l := by
  obtain ⟨g, cap, rfl, _, hc⟩ := h
  have := OctsA.take hc l.length cap (Nat.le_refl _)
  rw [List.take_length] at this
  exact this

theorem circ_noNames {w : World} {c : PC.Circ} {vi vl vo vb vv va vn : Value} (hp : CircParts w c vi vl vo vb vv va vn) (hm : rng c.max) : IsCirc w (.agg #[.int .i64 c.max, vi, vl, vo, vb, vv, va, .slice none 0 0]) { c with names := [] } :=
  ⟨_, _, _, _, _, _, _, rfl, ⟨hp.inputs, hp.latches, hp.outputs, hp.bads, hp.invars, hp.ands, ⟨Cells.nil _ _, fun x hx => by cases hx⟩⟩, hm⟩

end Go.Proofs.YtjcaejdokillgaaDoor

namespace Go.Proofs.YtjcaejdokillgaaDoor
open Go.RowKit Go.Shelf
attribute [local simp] mk_get


abbrev noCI : PC.Circ := ⟨0, [], [], [], [], [], [], []⟩

theorem take_extI (T : List UInt8) (K : Nat) : (ByteArray.mk T.toArray).extract 0 K = ⟨(T.take K).toArray⟩ := by
  apply ByteArray.ext
  simp only [ByteArray.data_extract]
  apply Array.ext'
  simp

/-- the place that is asked for -/
theorem place_ofI (a : Int) (L : Nat) (hL : 0 < L) : ∃ K : Nat, K < L ∧ -(L : Int) < a.tmod L ∧ a.tmod L < L ∧ Int.tmod (a.tmod L + L) L = (K : Int) := by
  have h1 : a.tmod L < L := by have := Int.tmod_lt_of_pos a (show (0 : Int) < L by omega); exact this
  have h2 : -(L : Int) < a.tmod L := by
    have := Int.tmod_lt_of_pos (-a) (show (0 : Int) < L by omega)
    rw [Int.neg_tmod] at this
    omega
  refine ⟨(Int.tmod (a.tmod L + L) L).toNat, ?_, h2, h1, ?_⟩
  · have h3 := Int.tmod_lt_of_pos (a.tmod L + L) (show (0 : Int) < L by omega)
    have h4 := Int.tmod_nonneg (L : Int) (show (0 : Int) ≤ a.tmod L + L by omega)
    omega
  · have h4 := Int.tmod_nonneg (L : Int) (show (0 : Int) ≤ a.tmod L + L by omega)
    omega

set_option maxRecDepth 100000 in
set_option maxHeartbeats 16000000 in
theorem aigCuts_walk (c : PC.Circ) (vc : Value) (a : Int) (m : Int) (w : World) (h : IsCirc w vc c) (hs : rng a) (hm : w.cell? ⟨0, 0, none⟩ = some (.int .i64 m)) :
    Calls Tryd.prog 8 #[vc, .int .i64 a] w fun e w' => e = .returned (.bool true) ∧ Below w.heap.size w w' := by
  have HM := Lib.hid hm
  have hrm : rng c.max := by obtain ⟨_, _, _, _, _, _, _, _, _, hr⟩ := h; exact hr
  obtain ⟨xi, xj, xl, xm, xo, xp, xb, xc, xv, xw, xa, xq, xn, xr, rfl, hp⟩ := row_slices h
  have HP := Lib.hid hp
  have HRM := Lib.hid hrm
  clear h hp hm hrm
  have r1 := RowL.new (T := 27) w [.int .i64 c.max, .slice xi c.inputs.length xj, .slice xl c.latches.length xm, .slice xo c.outputs.length xp, .slice xb c.bads.length xc, .slice xv c.invars.length xw, .slice xa c.ands.length xq, .slice xn c.names.length xr]
  have hb0 := (Below.refl w.heap.size w).alloc (Nat.le_refl _) (.cells #[.int .i64 c.max, .slice xi c.inputs.length xj, .slice xl c.latches.length xm, .slice xo c.outputs.length xp, .slice xb c.bads.length xc, .slice xv c.invars.length xw, .slice xa c.ands.length xq, .slice xn c.names.length xr] 27)
  obtain ⟨X, hX⟩ : ∃ X, X = w.alloc (.cells #[.int .i64 c.max, .slice xi c.inputs.length xj, .slice xl c.latches.length xm, .slice xo c.outputs.length xp, .slice xb c.bads.length xc, .slice xv c.invars.length xw, .slice xa c.ands.length xq, .slice xn c.names.length xr] 27) := ⟨_, rfl⟩
  rw [← hX] at r1 hb0
  have R1 := Lib.hid r1
  have HB0 := Lib.hid hb0
  have HX := Lib.hid hX
  clear hX r1 hb0
  have hN := Lib.hid fun x y => num05_any x y
  have HMw := Lib.hid fun (y : World) (hy : Below w.heap.size w y) => (hy.cell (World.block_lt_of_cell? w _ HM.out)).trans HM.out
  go_enter Tryd.func8, Tryd.ntmps8
  go_wp2_with fail
  rw [← HX.out]
  refine (alive05_any _).mono ?_
  rintro e w1 ⟨rfl, hb1⟩
  have HB1 := Lib.hid (Below.of HB0.out hb1)
  have S1 := Lib.hid (R1.out.mono hb1)
  clear hb1 R1 HB0 HX
  have s7 := S1.out.cell 7 _ rfl
  have f7 := S1.out.frozen 7
  have gS := set_grown' w1 w.heap.size 7 (.slice none 0 0)
  have S2 := Lib.hid (S1.out.set 7 (.slice none 0 0))
  have HB2 := Lib.hid (HB1.out.grown gS HB1.out.size (fun k e => by cases e; exact Nat.le_refl _))
  have hW := Lib.hid (aWrite_any { c with names := [] } _ _ (circ_noNames (HP.out.mono HB2.out) HRM.out))
  clear gS
  have q := S2.out
  have q0 := q.cell 0 _ rfl
  have q1 := q.cell 1 _ rfl
  have q2 := q.cell 2 _ rfl
  have q3 := q.cell 3 _ rfl
  have q4 := q.cell 4 _ rfl
  have q5 := q.cell 5 _ rfl
  have q6 := q.cell 6 _ rfl
  have q7 := q.cell 7 _ rfl
  go_wp2_with fail
  refine hW.out.mono ?_
  rintro e w2 ⟨v, rfl, hyes, hno, hb2⟩
  clear q q0 q1 q2 q3 q4 q5 q6 q7
  have HB3 := Lib.hid (Below.of HB2.out hb2)
  clear hb2 hW s7 f7
  cases hck : PA.ordered { c with names := [] } with
  | false =>
    have := hno hck
    subst this
    rw [hck] at *
    clear hyes hno hck
    go_wp2_with (go_at_call 21; refine (hN.out _ _).mono ?_; rintro e w4 ⟨rfl, rfl⟩)
    go_ret
    exact ⟨by first | rfl | simp, HB3.out⟩
  | true =>
    have hT0 : 0 < (PA.text { c with names := [] }).length := by unfold PA.text PA.lineT; simp; omega
    obtain ⟨g, cap, rfl, hcap, hcells⟩ := hyes hck
    have hTL := PA.text_len hck
    obtain ⟨T, hT⟩ : ∃ T, T = PA.text { c with names := [] } := ⟨_, rfl⟩
    rw [← hT] at hTL hT0 hcap hcells ⊢
    have HT := Lib.hid hT
    have HCK := Lib.hid hck
    have HCE := Lib.hid hcells
    rw [if_pos rfl]
    clear hyes hno hck hT hcells
    by_cases hlen : 65536 < T.length
    · have hlz : (65536 : Int) < (T.length : Int) := by omega
      clear hlen
      go_wp2_with (go_at_call 21; refine (hN.out _ _).mono ?_; rintro e w4 ⟨rfl, rfl⟩)
      go_ret
      exact ⟨by first | rfl | simp, HB3.out⟩
    · have hlz : ¬ (65536 : Int) < (T.length : Int) := by omega
      obtain ⟨hs1, hs2⟩ := hs
      obtain ⟨K, hKL, b1, b2, hKe⟩ := place_ofI a T.length hT0
      obtain ⟨A1, hA1⟩ : ∃ z, Int.tmod a T.length = z := ⟨_, rfl⟩
      rw [hA1] at b1 b2 hKe
      have hTn : ¬ (T.length : Int) = 0 := by omega
      have hKz : (K : Int) < (T.length : Int) := by omega
      have hKc : (K : Int) ≤ (cap : Int) := by omega
      have hno := Lib.hid (PI.parse_cut HCK.out rfl K (by rw [← HT.out]; exact hKL))
      rw [← HT.out] at hno
      have hRd := Lib.hid ((iRead_any (T.take K) (.slice (some ⟨g, 0, none⟩) K cap) m w2 (OctsA.take HCE.out K cap (by omega)) (by rw [List.length_take]; omega) (HMw.out w2 HB3.out)).mono fun e w' hh => RTo.no hh (by rw [List.length_take]; omega) hno.out)
      clear hno
      go_wp2_with (go_at_call 21; refine (hN.out _ _).mono ?_; rintro e w4 ⟨rfl, rfl⟩)
      refine hRd.out.mono ?_
      rintro e w3 ⟨rfl, hb3⟩
      have HB4 := Lib.hid (Below.of HB3.out hb3)
      have ha3 := (Below.refl w3.heap.size w3).alloc (Nat.le_refl _) (.cells #[.int .i64 0, .slice none 0 0, .slice none 0 0, .slice none 0 0, .slice none 0 0, .slice none 0 0, .slice none 0 0, .slice none 0 0] 27)
      have HB5 := Lib.hid (Below.of HB4.out ha3)
      have hSm := Lib.hid (same_any noCI _ _ (w3.alloc (.cells #[.int .i64 0, .slice none 0 0, .slice none 0 0, .slice none 0 0, .slice none 0 0, .slice none 0 0, .slice none 0 0, .slice none 0 0] 27)) (noC_is _) (noC_is _) (by decide))
      clear hb3 ha3 hRd
      go_wp2_with (go_at_call 21; refine (hN.out _ _).mono ?_; rintro e w4 ⟨rfl, rfl⟩)
      refine hSm.out.mono ?_
      rintro e w7 ⟨rfl, hb7⟩
      go_wp2_with fail
      go_ret
      exact ⟨by first | rfl | simp, Below.of HB5.out hb7⟩

end Go.Proofs.YtjcaejdokillgaaDoor
