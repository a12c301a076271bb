/- Contracts: the page's example; the walk of ReplayTells. -/
import Derived.Test.YtmnionocehflmaaDoorWalkP6
import Derived.Test.YtmnionocehflmaaDoorWalkM6
namespace Go.Proofs.YtmnionocehflmaaDoor
open Go.RowKit Go.Shelf

theorem num09_any (x : Int) (w : World) : Calls Tryd.prog 22 #[.int .i64 x] w fun e w' => e = .returned (.int .i64 x) ∧ w = w' := by
  go_enter Tryd.func22, Tryd.ntmps22
  go_wp2
  go_ret
  exact ⟨rfl, rfl⟩

/-- the page's example -/
def exR : PC.Circ := ⟨0, [], [], [], [1], [], [], []⟩
theorem exR_right : pathE exR [] 0 [] [[]] = 0 := by decide
theorem exR_short : pathE exR [] 0 [] [] = 8 := by decide

theorem strs_one (w : World) (s : List UInt8) (T : TypeId) (fr : Nat × Nat) (hr : s.length ≤ 9223372036854775807) : Strs (w.alloc (.cells #[.string ⟨s.toArray⟩] T fr)) (.slice (some ⟨w.heap.size, 0, none⟩) 1 1) [s] :=
  ⟨⟨_, _, rfl, Nat.le_refl _, by omega, (fun h => by cases h), rfl, fun j hj => ⟨_, _, rfl, by simp, by
    have hj' : j = 0 := by simpa using hj
    subst hj'
    rw [World.cell?_alloc_mark]; rfl⟩⟩, fun y hy => by
      have : y = s := by simpa using hy
      rw [this]; exact hr⟩

theorem lists_nil (w : World) : Lists w (.slice none 0 0) [] := ⟨[], rfl, Cells.nil _ _, fun i h => by simp at h⟩
theorem strs_nil (w : World) : Strs w (.slice none 0 0) [] := ⟨Cells.nil _ _, fun s h => by simp at h⟩

set_option maxRecDepth 100000 in
set_option maxHeartbeats 1000000 in
theorem alive09_any (w : World) : Calls Tryd.prog 25 #[] w fun e w' => e = .returned (.bool true) ∧ Below w.heap.size w w' := by
  have hI : ∀ w1, w1.cell? ⟨w.heap.size, 0, none⟩ = some (.int .i64 1) →
      IsCirc w1 (.agg #[.int .i64 0, .slice none 0 0, .slice none 0 0, .slice none 0 0, .slice (some ⟨w.heap.size, 0, none⟩) 1 1, .slice none 0 0, .slice none 0 0, .slice none 0 0]) exR := fun w1 hc =>
    ⟨_, _, _, _, _, _, _, rfl, ⟨⟨Cells.nil _ _, fun x hx => by simp [exR] at hx⟩, ⟨Cells.nil _ _, fun x hx => by simp [exR] at hx⟩, ⟨Cells.nil _ _, fun x hx => by simp [exR] at hx⟩, ⟨⟨_, _, rfl, by simp [exR], by omega, fun h => by simp at h, rfl, fun j hj => ⟨w.heap.size, 0, rfl, World.block_lt_of_cell? w1 _ hc, by
      have hj' : j = 0 := by simpa [exR] using hj
      subst hj'
      exact hc⟩⟩, fun x hx => by simp [exR] at hx; subst hx; unfold rng; simp⟩, ⟨Cells.nil _ _, fun x hx => by simp [exR] at hx⟩, ⟨Cells.nil _ _, fun x hx => by simp [exR] at hx⟩, ⟨Cells.nil _ _, fun x hx => by simp [exR] at hx⟩⟩, by unfold rng exR; simp⟩
  have hX : ∀ o, IsCirc ((w.alloc (.cells #[.int .i64 1] 3)).alloc o) (.agg #[.int .i64 0, .slice none 0 0, .slice none 0 0, .slice none 0 0, .slice (some ⟨w.heap.size, 0, none⟩) 1 1, .slice none 0 0, .slice none 0 0, .slice none 0 0]) exR := fun o =>
    hI _ (past1 (by rw [World.cell?_alloc_mark]; rfl) o)
  have hN : ∀ w1 v u, IsCirc w1 v exR → Strs w1 u [[]] → Calls Tryd.prog 23 #[v, .slice none 0 0, .agg #[.int .i64 0, .string ⟨#[]⟩, u]] w1 fun e w' => e = .returned (.int .i64 0) ∧ Below w1.heap.size w1 w' := fun w1 v u h hs => by
    have := repCheck_any exR v (.slice none 0 0) [] 0 [] [[]] u w1 h (lists_nil _) hs (by decide) (by unfold rng; omega) (by decide)
    rw [exR_right] at this
    exact this
  have hJ : ∀ w1 v, IsCirc w1 v exR → Calls Tryd.prog 23 #[v, .slice none 0 0, .agg #[.int .i64 0, .string ⟨#[]⟩, .slice none 0 0]] w1 fun e w' => e = .returned (.int .i64 8) ∧ Below w1.heap.size w1 w' := fun w1 v h => by
    have := repCheck_any exR v (.slice none 0 0) [] 0 [] [] (.slice none 0 0) w1 h (lists_nil _) (strs_nil _) (by decide) (by unfold rng; omega) (by decide)
    rw [exR_short] at this
    exact this
  have HN := Lib.hid fun o => hN (((w.alloc (.cells #[.int .i64 1] 3)).alloc o).alloc (.cells #[.string ⟨#[]⟩] 9)) _ _ ((hX o).mono ((Below.refl _ _).alloc (Nat.le_refl _) _)) (strs_one _ [] 9 _ (by decide))
  have hsz : ∀ o, ((w.alloc (.cells #[.int .i64 1] 3)).alloc o).heap.size = w.heap.size + 1 + 1 := fun o => by rw [World.size_alloc, World.size_alloc]
  simp only [hsz] at HN
  clear hsz
  have HX := Lib.hid fun o o2 w1 (hb : Below _ (((w.alloc (.cells #[.int .i64 1] 3)).alloc o).alloc o2) w1) => ((hX o).mono ((Below.refl _ _).alloc (Nat.le_refl _) o2)).mono hb
  have HJ := Lib.hid hJ
  have hb0 := Lib.hid fun o o2 => (((Below.refl w.heap.size w).alloc (Nat.le_refl _) (.cells #[.int .i64 1] 3)).alloc (by simp) o).alloc (by simp; omega) o2
  clear hI hX hN hJ
  go_enter Tryd.func25, Tryd.ntmps25
  go_wp2_with fail
  refine (HN.out _).mono ?_
  rintro e w1 ⟨rfl, hb1⟩
  have hC1 := Lib.hid (HX.out _ _ _ hb1)
  have hbw1 := Below.of (hb0.out _ _) hb1
  have B8 := ((Box8.new (w.alloc (.cells #[.int .i64 1] 3)) (.int .i64 0) (.slice none 0 0) (.slice none 0 0) (.slice none 0 0) (.slice (some ⟨w.heap.size, 0, none⟩) 1 1) (.slice none 0 0) (.slice none 0 0) (.slice none 0 0) 27).mono ((Below.refl _ _).alloc (Nat.le_refl _) _)).mono hb1
  rw [World.size_alloc] at B8
  obtain ⟨q0, q1, q2, q3, q4, q5, q6, q7⟩ := B8
  clear hb1
  go_wp2_with (go_at_call 22; refine (num09_any _ _).mono ?_; rintro e w2 ⟨rfl, rfl⟩)
  refine (HJ.out _ _ (by exact hC1.out)).mono ?_
  rintro e w2 ⟨rfl, hb2⟩
  go_wp2_with fail
  go_ret
  exact ⟨rfl, Below.of hbw1 hb2⟩

end Go.Proofs.YtmnionocehflmaaDoor
