/- Contracts: are all literals 1; a state, with what is not needed unknown. -/
import Derived.Test.YtlakfaalpijhiaaDoorWalkY3
import Derived.Test.YtlakfaalpijhiaaDoorWalkF
import Derived.Laws.OwnMore
namespace Go.Proofs.YtlakfaalpijhiaaDoor
open Go.RowKit Go.Shelf
attribute [local simp] mk_get

theorem enters_held1 : ∀ args w, (callFunc 58 args).run Tryd.prog w = .ok (.enter 58 args) w := enters_of Tryd.func58 (by kernel_rfl) rfl

theorem held1_any (m : List UInt8) (l : Int) (bx : Nat) (w : World) (hc : w.cell? ⟨bx, 0, none⟩ = some (.string ⟨m.toArray⟩)) (hr : rng l) (hm : m.length ≤ 9223372036854775807) :
    Calls Tryd.prog 58 #[.int .i64 l, .pointer (some ⟨bx, 0, none⟩)] w fun e w' => e = .returned (.bool (!(PC.ofT m l == 49))) ∧ Below w.heap.size w w' := by
  have hO := terOf_any m l w hr hm
  have e : (!(PC.ofT m l == 49)) = (((PC.ofT m l).toNat : Int) != 49) := by
    rw [u8_beq49]; rfl
  rw [e]
  generalize PC.ofT m l = x at *
  clear e
  go_enter Tryd.func58, Tryd.ntmps58
  go_wp2_with (go_at_call 21; refine hO.mono ?_; rintro e w1 ⟨rfl, rfl⟩)
  go_ret
  exact ⟨rfl, Below.refl _ _⟩

theorem any_notT {α : Type} (p : α → Bool) (l : List α) : (l.any fun x => !p x) = !l.all p := by
  induction l with
  | nil => rfl
  | cons x r ih => simp only [List.any_cons, List.all_cons, ih, Bool.not_and]

theorem held_any (m : List UInt8) (hold : List Int) (v : Value) (w : World) (hv : Ints w v hold) (hm : m.length ≤ 9223372036854775807) :
    Calls Tryd.prog 31 #[.string ⟨m.toArray⟩, v] w fun e w' => e = .returned (.bool (PC.heldT m hold)) ∧ Below w.heap.size w w' := by
  have hmf : ∀ (fn : Fn) (first cap : Array Value) (w : World), (Instr.makeFunc fn first cap).run Tryd.prog w = .ok (.func fn first cap) w := fun _ _ _ _ => rfl
  have hb0 := Lib.hid ((Below.refl w.heap.size w).alloc (Nat.le_refl _) (.cells #[.string ⟨m.toArray⟩] 9))
  have hcell : (w.alloc (.cells #[.string ⟨m.toArray⟩] 9)).cell? ⟨w.heap.size, 0, none⟩ = some (.string ⟨m.toArray⟩) := by rw [World.cell?_alloc_mark]; rfl
  have hC := ContainsFuncI_any (fun l => !(PC.ofT m l == 49)) 58 #[.pointer (some ⟨w.heap.size, 0, none⟩)] (w.alloc (.cells #[.string ⟨m.toArray⟩] 9)) enters_held1
    (fun x w2 hr hb => held1_any m x w.heap.size w2 ((hb.cell (by simp)).trans hcell) hr hm) hold v (hv.mono hb0.out)
  rw [any_notT] at hC
  have hR : PC.heldT m hold = hold.all fun l => PC.ofT m l == 49 := rfl
  rw [← hR] at hC
  generalize PC.heldT m hold = R at *
  have HC := Lib.hid hC
  clear hC hR hcell hv
  go_enter Tryd.func31, Tryd.ntmps31
  go_wp2_with fail
  refine HC.out.mono ?_
  rintro e w1 ⟨rfl, hb1⟩
  go_wp2_with fail
  go_ret
  exact ⟨by simp, Below.of hb0.out hb1⟩

/-- octets in a block of the call's own that a text was turned into -/
def RowX (w : World) (g N : Nat) (m : List UInt8) : Prop := m.length = N ∧ N ≤ 9223372036854775807 ∧ ∃ cur lo hi, w.heap[g]? = some (.cells cur 5 (lo, hi)) ∧ N ≤ lo ∧ ∀ j (h : j < m.length), cur[j]? = some (octV m[j])

theorem RowX.new (w : World) (m : List UInt8) (c : Nat) (_hc : m.length ≤ c) (hm : m.length ≤ 9223372036854775807) :
    RowX (w.drew.alloc (.cells (bytesRow ⟨m.toArray⟩ c) 5 ((bytesRow ⟨m.toArray⟩ c).size, (bytesRow ⟨m.toArray⟩ c).size + 1))) w.heap.size m.length m := by
  refine ⟨rfl, hm, _, _, _, heap_alloc_new w.drew _, ?_, fun j h => ?_⟩
  · simp [bytesRow]
  · rw [bytesRow_at _ _ _ (by simpa using h)]
    simp

theorem RowX.cell {w : World} {g N : Nat} {m : List UInt8} (h : RowX w g N m) (j : Nat) (hj : j < m.length) : w.cell? ⟨g, j, none⟩ = some (octV m[j]) := by
  obtain ⟨_, _, cur, lo, hi, hg, _, hh⟩ := h
  rw [cell_of_row w g j cur _ _ hg]
  exact hh j hj

theorem RowX.free {w : World} {g N : Nat} {m : List UInt8} (h : RowX w g N m) (j : Nat) (hj : j < m.length) : w.frozen? ⟨g, j, none⟩ = false := by
  obtain ⟨h1, _, cur, lo, hi, hg, h2, hh⟩ := h
  simp only [World.frozen?, hg]
  simp
  omega

theorem RowX.lt {w : World} {g N : Nat} {m : List UInt8} (h : RowX w g N m) : g < w.heap.size := by
  obtain ⟨_, _, cur, lo, hi, hg, _⟩ := h
  exact (Array.getElem?_eq_some_iff.1 hg).1

theorem RowX.below {w w' : World} {g N : Nat} {m : List UInt8} (h : RowX w g N m) (hb : Below w.heap.size w w') : RowX w' g N m := by
  have hl := h.lt
  obtain ⟨h1, h2, cur, lo, hi, hg, h3⟩ := h
  exact ⟨h1, h2, cur, lo, hi, by rw [hb.block g hl]; exact hg, h3⟩

theorem RowX.put {w : World} {g N : Nat} {m : List UInt8} (h : RowX w g N m) (v : Nat) (y : UInt8) :
    RowX (w.setCell ⟨g, v, none⟩ (octV y)) g N (m.set v y) ∧ w.grownBy (w.setCell ⟨g, v, none⟩ (octV y)) (some g) := by
  obtain ⟨h1, h2, cur, lo, hi, hg, h3, h4⟩ := h
  refine ⟨⟨by rw [List.length_set]; exact h1, h2, cur.setIfInBounds v (octV y), lo, hi, ?_, h3, fun j hj => ?_⟩,
    ⟨rfl, rfl, rfl, by simp, fun k _ hk => heap_setCell_other w ⟨g, v, none⟩ k _ (fun e => hk (by simp [e]))⟩⟩
  · rw [setCell_eq_setRow w g v cur _ (lo, hi) _ hg]
    exact setRow_heap w g cur _ _ _ hg
  · rw [List.length_set] at hj
    have hcs : j < cur.size := (Array.getElem?_eq_some_iff.1 (h4 j hj)).1
    rw [Array.getElem?_setIfInBounds, List.getElem_set]
    by_cases e : v = j
    · subst e; simp [hcs]
    · simp [e, h4 j hj]

theorem RowX.conv {w : World} {g N cap : Nat} {m : List UInt8} (h : RowX w g N m) : (convert 45 9 (.slice (some ⟨g, 0, none⟩) N cap)).run Tryd.prog w = .ok (.string ⟨m.toArray⟩) w := by
  have := run_convert_bytes_back (P := Tryd.prog) w 45 9 5 ⟨g, 0, none⟩ cap m Tryd.underlying45 Tryd.underlying5 Tryd.underlying9 (fun j hj => by
    rw [Go.WideShapes.add_plain, Nat.zero_add]
    exact h.cell j hj)
  rw [h.1] at this
  exact this

end Go.Proofs.YtlakfaalpijhiaaDoor
