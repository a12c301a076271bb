/- Contracts: slices.Grow of nothing, slices.Concat of two lists of clauses; a latch's literal in a frame. -/
import Derived.Test.YtbjioniefalgpaaWalkU1
import Derived.Test.YtbjioniefalgpaaWalkU4
import Derived.Lib.Walk
import Derived.Lib.SliceRun
import Derived.Lib.AppendZerosOnto
namespace Go.Proofs.Ytbjioniefalgpaa
open Go.RowKit Go.Shelf

set_option maxRecDepth 100000 in
set_option maxHeartbeats 4000000 in
theorem sGrow_nil (n : Nat) (w : World) (hn : 0 < n) (hb : n ≤ 16777216) :
    Calls Try.prog 60 #[.slice none 0 0, .int .i64 (n : Int)] w fun e w' => ∃ v, e = .returned v ∧ w'.ownsRow w.heap.size 22 1 v 0 [] ∧ Below w.heap.size w w' := by
  obtain ⟨i0, hi0, hz0, hs1, hs2⟩ := info_parts info24
  have h1 : ¬ ((n : Int) < 0) := by omega
  have h4 : (n : Int) > 0 := by omega
  have hold : (Builtin.firstCells i0.size 0 (.slice none 0 0)).run Try.prog w.drew = .ok (([] : List Value).toArray) w.drew := run_firstCells_none w.drew i0.size 0 0 0
  have hrz : ∀ ty, (Builtin.append_ #[28, 3] ty #[.slice none 0 0, .int .i64 (n : Int)]).run Try.prog w =
      .ok (.slice (some ⟨w.heap.size, 0, none⟩) n (grownCap w n 0 22)) (w.drew.alloc (.cells (([] : List Value).toArray ++ Builtin.zeroCells (Value.slice none 0 0).cells n ++ Builtin.zeroCells (Value.slice none 0 0).cells (grownCap w n 0 22 - n)) 22)) := fun ty => by
    have h := Lib.run_append_grow_zeros w 28 3 ty 22 i0 (.slice none 0 0) .i64 .i64 Try.underlying28 Try.underlying3 hi0 hz0 none 0 0 [] hold n (by omega) (by omega) (by omega) (by omega)
      (by rw [hs2]; omega)
      (by rw [Nat.zero_add]; exact growslice_fits hn (by rw [hs2]; omega))
    rw [Nat.zero_add] at h
    exact h
  have hGn : n ≤ grownCap w n 0 22 := grownCap_ge w _ _ _
  have hG63 : grownCap w n 0 22 ≤ 9223372036854775807 := by
    have := grownCap_le_maxLen w n 0 22 (by unfold maxLen; omega)
    unfold maxLen at this
    omega
  generalize grownCap w n 0 22 = G at *
  clear hold
  go_enter Try.func60, Try.ntmps60
  go_wp2_with (at_builtin; refine Lib.wpList_append_run _ rfl _ _ _ _ rfl _ _ rfl rfl _ _ (hrz _) ?_)
  go_ret
  refine ⟨_, rfl, World.ownsRow_made w.drew _ G (Nat.le_refl _) (by unfold maxLen; omega) ?_, (Below.refl _ _).drew.alloc (Nat.le_refl _) _⟩
  simp [Builtin.zeroCells, Value.cells]
  omega

theorem OutI.cells {w : World} {B : Nat} {v : Value} {ls : List (List Int)} (h : OutI w B v ls) : ∃ vs, Cells w 1 v ls.length vs ∧ RowsI w vs ls := by
  obtain ⟨vs, h1, h2⟩ := h
  exact ⟨vs, Cells.of_owns h1, h2⟩

set_option maxRecDepth 100000 in
set_option maxHeartbeats 4000000 in
theorem sConcat_two (l1 l2 : List (List Int)) (v1 v2 : Value) (g B1 B2 : Nat) (w : World) (h1 : OutI w B1 v1 l1) (h2 : OutI w B2 v2 l2) (hc1 : w.cell? ⟨g, 0, none⟩ = some v1) (hc2 : w.cell? ⟨g, 1, none⟩ = some v2)
    (hn : 0 < l1.length + l2.length) (hm : l1.length + l2.length ≤ 5000000) :
    Calls Try.prog 47 #[.slice (some ⟨g, 0, none⟩) 2 2] w fun e w' => ∃ u, e = .returned u ∧ OutI w' w.heap.size u (l1 ++ l2) ∧ Below w.heap.size w w' := by
  obtain ⟨vs1, hC1, hR1⟩ := h1.cells
  obtain ⟨vs2, hC2, hR2⟩ := h2.cells
  have hD1 := hC1
  have hD2 := hC2
  obtain ⟨a1, d1, rfl, _⟩ := hD1
  obtain ⟨a2, d2, rfl, _⟩ := hD2
  have HC1 := Lib.hid hC1
  have HC2 := Lib.hid hC2
  clear hC1 hC2
  have HR1 := Lib.hid hR1
  have HR2 := Lib.hid hR2
  have H1 := Lib.hid h1
  have H2 := Lib.hid h2
  clear hR1 hR2 h1 h2
  have hGr := Lib.hid fun w => sGrow_nil (l1.length + l2.length) w hn (by omega)
  have e0 : IntKind.i64.wrap ((l1.length : Int) + (l2.length : Int)) = (l1.length : Int) + (l2.length : Int) := IntWalk.i64_in _ (by omega)
  go_enter Try.func47, Try.ntmps47
  go_wp2_with fail
  go_loopg [3, 11] 2 (fun gg s3 s11 wr => w = wr ∧ ((s3 = .int .i64 0 ∧ s11 = .int .i64 0 ∧ 2 ≤ gg) ∨ (s3 = .int .i64 (l1.length : Int) ∧ s11 = .int .i64 1 ∧ 1 ≤ gg) ∨ (s3 = .int .i64 ((l1.length : Int) + (l2.length : Int)) ∧ s11 = .int .i64 2)))
  case atStart => exact ⟨rfl, Or.inl ⟨rfl, rfl, Nat.le_refl _⟩⟩
  case round =>
    obtain ⟨rfl, hr⟩ := hrel
    rcases hr with ⟨rfl, rfl, hg⟩ | ⟨rfl, rfl, hg⟩ | ⟨rfl, rfl⟩
    · go_wp2_with fail
      go_roundg 1
      case measure => omega
      case rel => exact ⟨rfl, Or.inr (Or.inl ⟨by go_num, rfl, Nat.le_refl _⟩)⟩
    · have hnn : ¬ ((l1.length : Int) + (l2.length : Int) < 0) := by omega
      go_wp2_with fail
      go_roundg 0
      case measure => omega
      case rel => exact ⟨rfl, Or.inr (Or.inr ⟨by go_num, rfl⟩)⟩
    · go_wp2_with fail
      rw [show ((l1.length : Int) + (l2.length : Int)) = ((l1.length + l2.length : Nat) : Int) by omega]
      refine (hGr.out w).mono ?_
      rintro e w1 ⟨v, rfl, hown1, hb1⟩
      have hOUT1 : Hid (OutI w1 w.heap.size v []) := ⟨[], hown1, RowsI.nil _⟩
      have hc1' := (hb1.cell (World.block_lt_of_cell? _ _ hc1)).trans hc1
      have hc2' := (hb1.cell (World.block_lt_of_cell? _ _ hc2)).trans hc2
      have hB1H := Lib.hid hb1
      clear hown1 hb1
      go_wp2_with fail
      go_loopg [6, 27] 2 (fun gg s6 s27 wr => Below w.heap.size w wr ∧ ((s27 = .int .i64 0 ∧ 2 ≤ gg ∧ Aside (OutI wr w.heap.size s6 [])) ∨ (s27 = .int .i64 1 ∧ 1 ≤ gg ∧ Aside (OutI wr w.heap.size s6 l1)) ∨ (s27 = .int .i64 2 ∧ Aside (OutI wr w.heap.size s6 (l1 ++ l2)))))
      case atStart => exact ⟨hB1H.out, Or.inl ⟨rfl, Nat.le_refl _, hOUT1.out⟩⟩
      case round =>
        clear hc1' hc2'
        obtain ⟨hbr, hr⟩ := hrel
        have k1 := (hbr.cell (World.block_lt_of_cell? _ _ hc1)).trans hc1
        have k2 := (hbr.cell (World.block_lt_of_cell? _ _ hc2)).trans hc2
        rcases hr with ⟨rfl, hg, ho⟩ | ⟨rfl, hg, ho⟩ | ⟨rfl, ho⟩
        · obtain ⟨vo, hown, hrows⟩ := ho.out
          go_wp2_with (at_builtin; refine app_cells rfl _ _ 28 rfl 22 1 24 (.slice none 0 0) Try.underlying28 info24 rfl (by decide) (w0 := w) (B0 := w.heap.size) rfl hown hbr (Nat.le_refl _) hbr.size rfl (HC1.out.mono hbr) HR1.out.one_cell (by simp; omega) (by simp; omega) ?_; intro v3 w3 hown3 hb3 hbs3 hgr3; have hout3 : Hid (OutI w3 w.heap.size v3 l1) := ⟨vo ++ vs1, (by simpa using hown3), (by simpa using (hrows.kept hown hgr3).append ((HR1.out.mono hbr).kept hown hgr3))⟩; clear hgr3 hown3)
          go_roundg 1
          case measure => omega
          case rel => exact ⟨hb3, Or.inr (Or.inl ⟨rfl, Nat.le_refl _, hout3.out⟩)⟩
        · obtain ⟨vo, hown, hrows⟩ := ho.out
          go_wp2_with (at_builtin; refine app_cells rfl _ _ 28 rfl 22 1 24 (.slice none 0 0) Try.underlying28 info24 rfl (by decide) (w0 := w) (B0 := w.heap.size) rfl hown hbr (Nat.le_refl _) hbr.size rfl (HC2.out.mono hbr) HR2.out.one_cell (by omega) (by omega) ?_; intro v3 w3 hown3 hb3 hbs3 hgr3; have hout3 : Hid (OutI w3 w.heap.size v3 (l1 ++ l2)) := ⟨vo ++ vs2, (by rw [List.length_append]; exact hown3), (hrows.kept hown hgr3).append ((HR2.out.mono hbr).kept hown hgr3)⟩; clear hgr3 hown3)
          go_roundg 0
          case measure => omega
          case rel => exact ⟨hb3, Or.inr (Or.inr ⟨rfl, hout3.out⟩)⟩
        · go_wp2_with fail
          go_ret
          exact ⟨_, rfl, ho.out, hbr⟩

end Go.Proofs.Ytbjioniefalgpaa
