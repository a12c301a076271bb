/- Contracts: slices.Grow of nothing, slices.Concat of three lists of ints. -/
import Derived.Test.YtjcaejdokillgaaLibC
import Derived.Lib.Walk
import Derived.Lib.AppendZerosOnto
namespace Go.Proofs.Ytjcaejdokillgaa
open Go.RowKit Go.Shelf

theorem infoI : (Try.prog.info? 3).map (fun i => (i.zero, i.size, i.bytes)) = some (some (.int .i64 0), 1, 8) := by kernel_rfl
theorem int_one (l : List Int) : ∀ u ∈ l.map (Value.int .i64), u.oneCell' = true := fun u hu => by
  obtain ⟨x, _, rfl⟩ := List.mem_map.1 hu
  rfl

set_option maxRecDepth 100000 in
set_option maxHeartbeats 4000000 in
theorem GrowI_nil (n : Nat) (w : World) (hb : n ≤ 1000000) :
    Calls Try.prog 34 #[.slice none 0 0, .int .i64 (n : Int)] w fun e w' => ∃ v, e = .returned v ∧ w'.ownsRow w.heap.size 3 1 v 0 [] ∧ Below w.heap.size w w' := by
  obtain ⟨i0, hi0, hz0, hs1, hs2⟩ := info_parts infoI
  have h1 : ¬ ((n : Int) < 0) := by omega
  by_cases hn : 0 < n
  · have h4 : (n : Int) > 0 := by omega
    have hold : (Builtin.firstCells i0.size 0 (.slice none 0 0)).run Try.prog w.drew = .ok (([] : List Value).toArray) w.drew := run_firstCells_none w.drew i0.size 0 0 0
    have hrz : ∀ ty, (Builtin.append_ #[22, 3] ty #[.slice none 0 0, .int .i64 (n : Int)]).run Try.prog w =
        .ok (.slice (some ⟨w.heap.size, 0, none⟩) n (grownCap w n 0 3)) (w.drew.alloc (.cells (([] : List Value).toArray ++ Builtin.zeroCells (.int .i64 0 : Value).cells n ++ Builtin.zeroCells (.int .i64 0 : Value).cells (grownCap w n 0 3 - n)) 3)) := fun ty => by
      have h := Lib.run_append_grow_zeros w 22 3 ty 3 i0 (.int .i64 0) .i64 .i64 Try.underlying22 Try.underlying3 hi0 hz0 none 0 0 [] hold n (by omega) (by omega) (by omega) (by omega)
        (by rw [hs2]; omega)
        (by rw [Nat.zero_add]; exact growslice_fits hn (by rw [hs2]; omega))
      rw [Nat.zero_add] at h
      exact h
    have hGn : n ≤ grownCap w n 0 3 := grownCap_ge w _ _ _
    have hG63 : grownCap w n 0 3 ≤ 9223372036854775807 := by
      have := grownCap_le_maxLen w n 0 3 (by unfold maxLen; omega)
      unfold maxLen at this
      omega
    generalize grownCap w n 0 3 = G at *
    clear hold
    go_enter Try.func34, Try.ntmps34
    go_wp2_with (at_builtin; refine Lib.wpList_append_run _ rfl _ _ _ _ rfl _ _ rfl rfl _ _ (hrz _) ?_)
    go_ret
    refine ⟨_, rfl, World.ownsRow_made w.drew _ G (Nat.le_refl _) (by unfold maxLen; omega) ?_, (Below.refl _ _).drew.alloc (Nat.le_refl _) _⟩
    simp [Builtin.zeroCells]
    omega
  · obtain rfl : n = 0 := by omega
    go_enter Try.func34, Try.ntmps34
    go_wp2_with fail
    go_ret
    exact ⟨_, rfl, World.ownsRow_nil _ _ _ _, Below.refl _ _⟩

set_option maxRecDepth 100000 in
set_option maxHeartbeats 4000000 in
theorem ConcatI_three (n1 n2 n3 : Nat) (cs1 cs2 cs3 : List Value) (v1 v2 v3 : Value) (g : Nat) (w : World) (h1 : Cells w 1 v1 n1 cs1) (h2 : Cells w 1 v2 n2 cs2) (h3 : Cells w 1 v3 n3 cs3) (ho1 : ∀ u ∈ cs1, u.oneCell' = true) (ho2 : ∀ u ∈ cs2, u.oneCell' = true) (ho3 : ∀ u ∈ cs3, u.oneCell' = true)
    (hc1 : w.cell? ⟨g, 0, none⟩ = some v1) (hc2 : w.cell? ⟨g, 1, none⟩ = some v2) (hc3 : w.cell? ⟨g, 2, none⟩ = some v3) (hm : n1 + n2 + n3 ≤ 1000000) :
    Calls Try.prog 16 #[.slice (some ⟨g, 0, none⟩) 3 3] w fun e w' => ∃ u, e = .returned u ∧ w'.ownsRow w.heap.size 3 1 u (n1 + n2 + n3) (cs1 ++ cs2 ++ cs3) ∧ Below w.heap.size w w' := by
  have hD1 := h1
  have hD2 := h2
  have hD3 := h3
  obtain ⟨a1, d1, rfl, _⟩ := hD1
  obtain ⟨a2, d2, rfl, _⟩ := hD2
  obtain ⟨a3, d3, rfl, _⟩ := hD3
  have HC1 := Lib.hid h1
  have HC2 := Lib.hid h2
  have HC3 := Lib.hid h3
  have HO1 := Lib.hid ho1
  have HO2 := Lib.hid ho2
  have HO3 := Lib.hid ho3
  clear h1 h2 h3 ho1 ho2 ho3
  have hGr := Lib.hid fun w => GrowI_nil (n1 + n2 + n3) w hm
  have e0 : IntKind.i64.wrap ((n1 : Int) + (n2 : Int)) = (n1 : Int) + (n2 : Int) := IntWalk.i64_in _ (by omega)
  have e1 : IntKind.i64.wrap ((n1 : Int) + (n2 : Int) + (n3 : Int)) = (n1 : Int) + (n2 : Int) + (n3 : Int) := IntWalk.i64_in _ (by omega)
  go_enter Try.func16, Try.ntmps16
  go_wp2_with fail
  go_loopg [3, 11] 3 (fun gg s3 s11 wr => w = wr ∧ ((s3 = .int .i64 0 ∧ s11 = .int .i64 0 ∧ 3 ≤ gg) ∨ (s3 = .int .i64 (n1 : Int) ∧ s11 = .int .i64 1 ∧ 2 ≤ gg) ∨ (s3 = .int .i64 ((n1 : Int) + (n2 : Int)) ∧ s11 = .int .i64 2 ∧ 1 ≤ gg) ∨ (s3 = .int .i64 ((n1 : Int) + (n2 : Int) + (n3 : Int)) ∧ s11 = .int .i64 3)))
  case atStart => exact ⟨rfl, Or.inl ⟨rfl, rfl, Nat.le_refl _⟩⟩
  case round =>
    obtain ⟨rfl, hr⟩ := hrel
    rcases hr with ⟨rfl, rfl, hg⟩ | ⟨rfl, rfl, hg⟩ | ⟨rfl, rfl, hg⟩ | ⟨rfl, rfl⟩
    · have hnn : ¬ ((n1 : Int) < 0) := by omega
      go_wp2_with fail
      go_roundg 2
      case measure => omega
      case rel => exact ⟨rfl, Or.inr (Or.inl ⟨by go_num, rfl, Nat.le_refl _⟩)⟩
    · have hnn : ¬ ((n1 : Int) + (n2 : Int) < 0) := by omega
      go_wp2_with fail
      go_roundg 1
      case measure => omega
      case rel => exact ⟨rfl, Or.inr (Or.inr (Or.inl ⟨by go_num, rfl, Nat.le_refl _⟩))⟩
    · have hnn : ¬ ((n1 : Int) + (n2 : Int) + (n3 : Int) < 0) := by omega
      go_wp2_with fail
      go_roundg 0
      case measure => omega
      case rel => exact ⟨rfl, Or.inr (Or.inr (Or.inr ⟨by go_num, rfl⟩))⟩
    · go_wp2_with fail
      rw [show ((n1 : Int) + (n2 : Int) + (n3 : Int)) = ((n1 + n2 + n3 : Nat) : Int) by omega]
      refine (hGr.out w).mono ?_
      rintro e w1 ⟨v, rfl, hown1, hb1⟩
      have hOUT1 : Hid (w1.ownsRow w.heap.size 3 1 v 0 []) := hown1
      have hc1' := (hb1.cell (World.block_lt_of_cell? _ _ hc1)).trans hc1
      have hc2' := (hb1.cell (World.block_lt_of_cell? _ _ hc2)).trans hc2
      have hc3' := (hb1.cell (World.block_lt_of_cell? _ _ hc3)).trans hc3
      have hB1H := Lib.hid hb1
      clear hown1 hb1
      go_wp2_with fail
      go_loopg [6, 27] 3 (fun gg s6 s27 wr => Below w.heap.size w wr ∧ ((s27 = .int .i64 0 ∧ 3 ≤ gg ∧ Aside (wr.ownsRow w.heap.size 3 1 s6 0 [])) ∨ (s27 = .int .i64 1 ∧ 2 ≤ gg ∧ Aside (wr.ownsRow w.heap.size 3 1 s6 n1 cs1)) ∨ (s27 = .int .i64 2 ∧ 1 ≤ gg ∧ Aside (wr.ownsRow w.heap.size 3 1 s6 (n1 + n2) (cs1 ++ cs2))) ∨ (s27 = .int .i64 3 ∧ Aside (wr.ownsRow w.heap.size 3 1 s6 (n1 + n2 + n3) (cs1 ++ cs2 ++ cs3)))))
      case atStart => exact ⟨hB1H.out, Or.inl ⟨rfl, Nat.le_refl _, hOUT1.out⟩⟩
      case round =>
        clear hc1' hc2' hc3'
        obtain ⟨hbr, hr⟩ := hrel
        have k1 := (hbr.cell (World.block_lt_of_cell? _ _ hc1)).trans hc1
        have k2 := (hbr.cell (World.block_lt_of_cell? _ _ hc2)).trans hc2
        have k3 := (hbr.cell (World.block_lt_of_cell? _ _ hc3)).trans hc3
        rcases hr with ⟨rfl, hg, ho⟩ | ⟨rfl, hg, ho⟩ | ⟨rfl, hg, ho⟩ | ⟨rfl, ho⟩
        · go_wp2_with (at_builtin; refine app_cells rfl _ _ 22 rfl 3 1 8 (.int .i64 0) Try.underlying22 infoI rfl (by decide) (w0 := w) (B0 := w.heap.size) rfl ho.out hbr (Nat.le_refl _) hbr.size rfl (HC1.out.mono hbr) HO1.out (by omega) (by omega) ?_; intro v3 w3 hown3 hb3 hbs3 hgr3; have hout3 : Hid (w3.ownsRow w.heap.size 3 1 v3 (n1) (cs1)) := (by rw [Nat.zero_add, List.nil_append] at hown3; exact hown3); clear hgr3 hown3)
          go_roundg 2
          case measure => omega
          case rel => exact ⟨hb3, Or.inr (Or.inl ⟨rfl, Nat.le_refl _, hout3.out⟩)⟩
        · go_wp2_with (at_builtin; refine app_cells rfl _ _ 22 rfl 3 1 8 (.int .i64 0) Try.underlying22 infoI rfl (by decide) (w0 := w) (B0 := w.heap.size) rfl ho.out hbr (Nat.le_refl _) hbr.size rfl (HC2.out.mono hbr) HO2.out (by omega) (by omega) ?_; intro v3 w3 hown3 hb3 hbs3 hgr3; have hout3 : Hid (w3.ownsRow w.heap.size 3 1 v3 (n1 + n2) (cs1 ++ cs2)) := (hown3); clear hgr3 hown3)
          go_roundg 1
          case measure => omega
          case rel => exact ⟨hb3, Or.inr (Or.inr (Or.inl ⟨rfl, Nat.le_refl _, hout3.out⟩))⟩
        · go_wp2_with (at_builtin; refine app_cells rfl _ _ 22 rfl 3 1 8 (.int .i64 0) Try.underlying22 infoI rfl (by decide) (w0 := w) (B0 := w.heap.size) rfl ho.out hbr (Nat.le_refl _) hbr.size rfl (HC3.out.mono hbr) HO3.out (by omega) (by omega) ?_; intro v3 w3 hown3 hb3 hbs3 hgr3; have hout3 : Hid (w3.ownsRow w.heap.size 3 1 v3 (n1 + n2 + n3) (cs1 ++ cs2 ++ cs3)) := (hown3); clear hgr3 hown3)
          go_roundg 0
          case measure => omega
          case rel => exact ⟨hb3, Or.inr (Or.inr (Or.inr ⟨rfl, hout3.out⟩))⟩
        · go_wp2_with fail
          go_ret
          exact ⟨_, rfl, ho.out, hbr⟩

end Go.Proofs.Ytjcaejdokillgaa
