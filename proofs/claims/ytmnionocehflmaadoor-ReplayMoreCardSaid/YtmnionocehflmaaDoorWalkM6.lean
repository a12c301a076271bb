/- Contracts: sim.Initial, the page's example. -/
import Derived.Test.YtmnionocehflmaaDoorWalkM5
namespace Go.Proofs.YtmnionocehflmaaDoor
open Go.RowKit Go.Shelf
attribute [local simp] mk_get

theorem num07_any (x : Int) (w : World) : Calls Tryd.prog 11 #[.int .i64 x] w fun e w' => e = .returned (.int .i64 x) ∧ w = w' := by
  go_enter Tryd.func11, Tryd.ntmps11
  go_wp2
  go_ret
  exact ⟨rfl, rfl⟩

theorem initial_E (c : PC.Circ) (st : List UInt8) : ((firstE c st == 0) && (firstS c st == st)) = (PC.chk c && PC.initial c st) := by
  unfold firstS
  cases hck : PC.chk c with
  | false =>
    have : firstE c st = 9 := by rw [firstE, if_pos hck]
    rw [this]; rfl
  | true =>
    cases d1 : PC.bitsOk st c.latches.length with
    | false =>
      have : firstE c st = 5 := by rw [firstE, if_neg (by rw [hck]; decide), if_pos d1]
      rw [this, PC.initial, d1]; rfl
    | true =>
      have : firstE c st = 0 := by rw [firstE, if_neg (by rw [hck]; decide), if_neg (by rw [d1]; decide)]
      rw [this, if_pos rfl, initial_first c (PC.right_of c hck) st d1]; rfl

set_option maxHeartbeats 1000000 in
theorem simInitial_any (c : PC.Circ) (vc : Value) (st : List UInt8) (w : World) (h : IsCirc w vc c) (hs : st.length ≤ 9223372036854775807) :
    Calls Tryd.prog 30 #[vc, .string ⟨st.toArray⟩] w fun e w' => e = .returned (.bool (PC.chk c && PC.initial c st)) ∧ Below w.heap.size w w' := by
  have hF := Lib.hid fun w1 (hb : Below w.heap.size w w1) => simFirst_any c vc st w1 (h.mono hb) hs
  obtain ⟨vi, vl, vo, vb, vv, va, vn, rfl, hp, hm⟩ := h
  clear hp
  have hb0 : Below w.heap.size w (w.alloc (.cells #[.int .i64 c.max, vi, vl, vo, vb, vv, va, vn] 27)) := (Below.refl _ _).alloc (Nat.le_refl _) _
  rw [← initial_E]
  generalize firstE c st = E at *
  generalize firstS c st = S at *
  by_cases hz : E = 0
  · subst hz
    cases hs2 : (S == st) with
    | true =>
      go_enter Tryd.func30, Tryd.ntmps30
      go_wp2_with fail
      refine (hF.out _ (by exact hb0)).mono ?_
      rintro e w1 ⟨rfl, hb1⟩
      go_wp2_with fail
      go_ret
      exact ⟨rfl, Below.of hb0 hb1⟩
    | false =>
      go_enter Tryd.func30, Tryd.ntmps30
      go_wp2_with fail
      refine (hF.out _ (by exact hb0)).mono ?_
      rintro e w1 ⟨rfl, hb1⟩
      go_wp2_with fail
      go_ret
      exact ⟨rfl, Below.of hb0 hb1⟩
  · have hz1 : (E == 0) = false := by simpa using hz
    rw [hz1, Bool.false_and]
    go_enter Tryd.func30, Tryd.ntmps30
    go_wp2_with fail
    refine (hF.out _ (by exact hb0)).mono ?_
    rintro e w1 ⟨rfl, hb1⟩
    go_wp2_with fail
    go_ret
    exact ⟨rfl, Below.of hb0 hb1⟩

/-- the page's example -/
def exC : PC.Circ := ⟨1, [], [⟨2, 3, 0⟩], [], [], [], [], []⟩
theorem exC_next : nextS exC [48] [] = [49] ∧ PC.valuesE exC [48] [] = 0 := by decide
theorem exC_initial : (PC.chk exC && PC.initial exC [48]) = true := by decide

set_option maxRecDepth 100000 in
set_option maxHeartbeats 1000000 in
theorem alive07_any (w : World) : Calls Tryd.prog 9 #[] w fun e w' => e = .returned (.bool true) ∧ Below w.heap.size w w' := by
  have hI : ∀ w1, (∀ j v, #[Value.int .i64 2, .int .i64 3, .int .i64 0][j]? = some v → w1.cell? ⟨w.heap.size, j, none⟩ = some v) →
      IsCirc w1 (.agg #[.int .i64 1, .slice none 0 0, .slice (some ⟨w.heap.size, 0, none⟩) 1 1, .slice none 0 0, .slice none 0 0, .slice none 0 0, .slice none 0 0, .slice none 0 0]) exC := fun w1 hc =>
    ⟨_, _, _, _, _, _, _, rfl, ⟨⟨Cells.nil _ _, fun x hx => by simp [exC] at hx⟩, ⟨⟨_, _, rfl, by simp [exC], by omega, fun h => by simp at h, rfl, fun j hj => ⟨w.heap.size, 0, rfl, World.block_lt_of_cell? w1 _ (hc 0 _ rfl), by
      rw [Nat.zero_add]
      exact hc j _ (by first | (simp [exC, latCells] at hj ⊢; done) | (simp [exC, latCells] at hj ⊢; omega))⟩⟩, fun x hx => by simp [exC] at hx; subst hx; unfold rng; simp⟩, ⟨Cells.nil _ _, fun x hx => by simp [exC] at hx⟩, ⟨Cells.nil _ _, fun x hx => by simp [exC] at hx⟩, ⟨Cells.nil _ _, fun x hx => by simp [exC] at hx⟩, ⟨Cells.nil _ _, fun x hx => by simp [exC] at hx⟩, ⟨Cells.nil _ _, fun x hx => by simp [exC] at hx⟩⟩, by unfold rng exC; simp⟩
  have hX : ∀ o, IsCirc ((w.alloc (.cells #[.int .i64 2, .int .i64 3, .int .i64 0] 57)).alloc o) (.agg #[.int .i64 1, .slice none 0 0, .slice (some ⟨w.heap.size, 0, none⟩) 1 1, .slice none 0 0, .slice none 0 0, .slice none 0 0, .slice none 0 0, .slice none 0 0]) exC := fun o =>
    hI _ fun j v hj => past1 (by rw [World.cell?_alloc_mark]; exact hj) o
  have hN : ∀ w1 v, IsCirc w1 v exC → Calls Tryd.prog 15 #[v, .string ⟨#[48]⟩, .string ⟨#[]⟩] w1 fun e w' => e = .returned (.tuple #[.string ⟨#[49]⟩, .int .i64 0]) ∧ Below w1.heap.size w1 w' := fun w1 v h => by
    have := simNext_any exC v [48] [] w1 h (by decide) (by decide)
    rw [exC_next.1, exC_next.2] at this
    exact this
  have hJ : ∀ w1 v, IsCirc w1 v exC → Calls Tryd.prog 30 #[v, .string ⟨#[48]⟩] w1 fun e w' => e = .returned (.bool true) ∧ Below w1.heap.size w1 w' := fun w1 v h => by
    have := simInitial_any exC v [48] w1 h (by decide)
    rw [exC_initial] at this
    exact this
  have HX := Lib.hid hX
  have HN := Lib.hid hN
  have HJ := Lib.hid hJ
  have hb0 := Lib.hid fun o => ((Below.refl w.heap.size w).alloc (Nat.le_refl _) (.cells #[.int .i64 2, .int .i64 3, .int .i64 0] 57)).alloc (by simp) o
  clear hI hX hN hJ
  go_enter Tryd.func9, Tryd.ntmps9
  go_wp2_with fail
  refine (HN.out _ _ (by exact HX.out _)).mono ?_
  rintro e w1 ⟨rfl, hb1⟩
  have hC1 := Lib.hid ((HX.out _).mono hb1)
  have hbw1 := Below.of (hb0.out _) hb1
  have B8 := (Box8.new (w.alloc (.cells #[.int .i64 2, .int .i64 3, .int .i64 0] 57)) (.int .i64 1) (.slice none 0 0) (.slice (some ⟨w.heap.size, 0, none⟩) 1 1) (.slice none 0 0) (.slice none 0 0) (.slice none 0 0) (.slice none 0 0) (.slice none 0 0) 27).mono hb1
  rw [World.size_alloc] at B8
  obtain ⟨q0, q1, q2, q3, q4, q5, q6, q7⟩ := B8
  clear hb1
  go_wp2_with (go_at_call 11; refine (num07_any _ _).mono ?_; rintro e w2 ⟨rfl, rfl⟩)
  refine (HJ.out _ _ (by exact hC1.out)).mono ?_
  rintro e w2 ⟨rfl, hb2⟩
  go_wp2_with fail
  go_ret
  exact ⟨rfl, Below.of hbw1 hb2⟩

end Go.Proofs.YtmnionocehflmaaDoor
