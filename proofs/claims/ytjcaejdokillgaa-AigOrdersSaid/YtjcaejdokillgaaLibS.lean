/- Rows of cells in a variable. -/
import Derived.Test.YtjcaejdokillgaaLib
import Derived.Test.YtjcaejdokillgaaLibR
namespace Go.Proofs.Ytjcaejdokillgaa
open Go Go.RowKit Go.Shelf

/-- a variable of some cells -/
def RowL (T : TypeId) (y : World) (g : Nat) (l : List Value) : Prop := y.heap[g]? = some (.cells l.toArray T (0, 0))

section
variable {T : TypeId} {y y' : World} {g : Nat} {l : List Value}
theorem RowL.lt (h : RowL T y g l) : g < y.heap.size := (Array.getElem?_eq_some_iff.1 h).1
theorem RowL.keep (h : RowL T y g l) (e : y'.heap[g]? = y.heap[g]?) : RowL T y' g l := e.trans h
theorem RowL.mono (h : RowL T y g l) (hb : Below y.heap.size y y') : RowL T y' g l := h.keep (hb.block g h.lt)
theorem RowL.grown (h : RowL T y g l) {r : Option Nat} (hg : y.grownBy y' r) (hr : some g ≠ r) : RowL T y' g l := h.keep (hg.block g h.lt hr)
theorem RowL.cell (h : RowL T y g l) (j : Nat) (v : Value) (hj : l[j]? = some v) : y.cell? ⟨g, j, none⟩ = some v := by
  rw [cell_of_row y g _ _ _ _ h]
  simpa using hj
theorem RowL.frozen (h : RowL T y g l) (j : Nat) : y.frozen? ⟨g, j, none⟩ = false := by
  unfold RowL at h
  simp only [World.frozen?, h]
  simp
theorem RowL.new (w : World) (l : List Value) : RowL T (w.alloc (.cells l.toArray T)) w.heap.size l := by
  unfold RowL World.alloc
  simp
theorem RowL.drew (h : RowL T y g l) : RowL T y.drew g l := h
theorem RowL.set (h : RowL T y g l) (j : Nat) (d : Value) : RowL T (y.setCell ⟨g, j, none⟩ d) g (l.set j d) := by
  unfold RowL
  rw [setCell_eq_setRow y g j _ _ (0, 0) _ h]
  have := setRow_heap y g l.toArray (l.toArray.setIfInBounds j d) T (0, 0) h
  simpa using this
/-- a row of another type is another block -/
theorem RowL.other (h : RowL T y g l) {B k : Nat} {e : TypeId} {v : Value} {n : Nat} {xs : List Value} (ho : y.ownsRow B e k v n xs) (hne : e ≠ T) : some g ≠ v.ownBlock := fun hx => by
  obtain ⟨_, ⟨rfl, _⟩ | ⟨g', c', cur, rfl, _, hh, _⟩⟩ := ho
  · cases hx
  · have : g = g' := by simpa [Value.ownBlock] using hx
    subst this
    rw [h] at hh
    simp at hh
    exact hne hh.2.symm
end

theorem set_grown' (y : World) (g j : Nat) (d : Value) : y.grownBy (y.setCell ⟨g, j, none⟩ d) (some g) :=
  ⟨rfl, rfl, rfl, by simp, fun k _ hk => heap_setCell_other y ⟨g, j, none⟩ k _ (fun e => hk (by simp [e]))⟩

theorem grownBy_two {W a b : World} {O : Nat} {r : Option Nat} (h : W.grownBy a (some O)) (k : a.grownBy b r) (hr : ∀ j, r = some j → W.heap.size ≤ j ∨ j = O) : W.grownBy b (some O) :=
  ⟨k.os.trans h.os, k.tape.trans h.tape, k.output.trans h.output, Nat.le_trans h.size k.size, fun j hj hne => (k.block j (Nat.lt_of_lt_of_le hj h.size) fun e => by
    rcases hr j e.symm with h1 | h1
    · omega
    · exact hne (by rw [h1])).trans (h.block j hj hne)⟩
theorem grownBy_below {W a b : World} {O : Nat} (h : W.grownBy a (some O)) (k : Below a.heap.size a b) : W.grownBy b (some O) :=
  grownBy_two h (r := none) ⟨k.os, k.tape, k.output, k.size, fun j hj _ => k.block j hj⟩ fun j e => by cases e
theorem grownBy_cell {W a : World} {O : Nat} (h : W.grownBy a (some O)) {p : Addr} {v : Value} (hp : W.cell? p = some v) (hne : p.block ≠ O) : a.cell? p = some v :=
  h.cell hp fun e => hne (Option.some.inj e)
theorem below_grown {B O : Nat} {w W a : World} (h : Below B w W) (k : W.grownBy a (some O)) (hB : B ≤ W.heap.size) (hO : B ≤ O) : Below B w a := h.grown k hB fun j e => by cases e; exact hO

def set8 (y : World) (g : Nat) (d0 d1 d2 d3 d4 d5 d6 d7 : Value) : World := (((((((y.setCell ⟨g, 0, none⟩ d0).setCell ⟨g, 1, none⟩ d1).setCell ⟨g, 2, none⟩ d2).setCell ⟨g, 3, none⟩ d3).setCell ⟨g, 4, none⟩ d4).setCell ⟨g, 5, none⟩ d5).setCell ⟨g, 6, none⟩ d6).setCell ⟨g, 7, none⟩ d7
theorem RowL.put8 {T : TypeId} {y : World} {g : Nat} {c0 c1 c2 c3 c4 c5 c6 c7 : Value} (h : RowL T y g [c0, c1, c2, c3, c4, c5, c6, c7]) (d0 d1 d2 d3 d4 d5 d6 d7 : Value) :
    (y.cell? ⟨g, 0, none⟩ = some c0 ∧
      y.frozen? ⟨g, 0, none⟩ = false ∧
      (y.setCell ⟨g, 0, none⟩ d0).cell? ⟨g, 1, none⟩ = some c1 ∧
      (y.setCell ⟨g, 0, none⟩ d0).frozen? ⟨g, 1, none⟩ = false ∧
      ((y.setCell ⟨g, 0, none⟩ d0).setCell ⟨g, 1, none⟩ d1).cell? ⟨g, 2, none⟩ = some c2 ∧
      ((y.setCell ⟨g, 0, none⟩ d0).setCell ⟨g, 1, none⟩ d1).frozen? ⟨g, 2, none⟩ = false ∧
      (((y.setCell ⟨g, 0, none⟩ d0).setCell ⟨g, 1, none⟩ d1).setCell ⟨g, 2, none⟩ d2).cell? ⟨g, 3, none⟩ = some c3 ∧
      (((y.setCell ⟨g, 0, none⟩ d0).setCell ⟨g, 1, none⟩ d1).setCell ⟨g, 2, none⟩ d2).frozen? ⟨g, 3, none⟩ = false ∧
      ((((y.setCell ⟨g, 0, none⟩ d0).setCell ⟨g, 1, none⟩ d1).setCell ⟨g, 2, none⟩ d2).setCell ⟨g, 3, none⟩ d3).cell? ⟨g, 4, none⟩ = some c4 ∧
      ((((y.setCell ⟨g, 0, none⟩ d0).setCell ⟨g, 1, none⟩ d1).setCell ⟨g, 2, none⟩ d2).setCell ⟨g, 3, none⟩ d3).frozen? ⟨g, 4, none⟩ = false ∧
      (((((y.setCell ⟨g, 0, none⟩ d0).setCell ⟨g, 1, none⟩ d1).setCell ⟨g, 2, none⟩ d2).setCell ⟨g, 3, none⟩ d3).setCell ⟨g, 4, none⟩ d4).cell? ⟨g, 5, none⟩ = some c5 ∧
      (((((y.setCell ⟨g, 0, none⟩ d0).setCell ⟨g, 1, none⟩ d1).setCell ⟨g, 2, none⟩ d2).setCell ⟨g, 3, none⟩ d3).setCell ⟨g, 4, none⟩ d4).frozen? ⟨g, 5, none⟩ = false ∧
      ((((((y.setCell ⟨g, 0, none⟩ d0).setCell ⟨g, 1, none⟩ d1).setCell ⟨g, 2, none⟩ d2).setCell ⟨g, 3, none⟩ d3).setCell ⟨g, 4, none⟩ d4).setCell ⟨g, 5, none⟩ d5).cell? ⟨g, 6, none⟩ = some c6 ∧
      ((((((y.setCell ⟨g, 0, none⟩ d0).setCell ⟨g, 1, none⟩ d1).setCell ⟨g, 2, none⟩ d2).setCell ⟨g, 3, none⟩ d3).setCell ⟨g, 4, none⟩ d4).setCell ⟨g, 5, none⟩ d5).frozen? ⟨g, 6, none⟩ = false ∧
      (((((((y.setCell ⟨g, 0, none⟩ d0).setCell ⟨g, 1, none⟩ d1).setCell ⟨g, 2, none⟩ d2).setCell ⟨g, 3, none⟩ d3).setCell ⟨g, 4, none⟩ d4).setCell ⟨g, 5, none⟩ d5).setCell ⟨g, 6, none⟩ d6).cell? ⟨g, 7, none⟩ = some c7 ∧
      (((((((y.setCell ⟨g, 0, none⟩ d0).setCell ⟨g, 1, none⟩ d1).setCell ⟨g, 2, none⟩ d2).setCell ⟨g, 3, none⟩ d3).setCell ⟨g, 4, none⟩ d4).setCell ⟨g, 5, none⟩ d5).setCell ⟨g, 6, none⟩ d6).frozen? ⟨g, 7, none⟩ = false) ∧
    RowL T (set8 y g d0 d1 d2 d3 d4 d5 d6 d7) g [d0, d1, d2, d3, d4, d5, d6, d7] ∧ y.grownBy (set8 y g d0 d1 d2 d3 d4 d5 d6 d7) (some g) := by
  have h0 := h.set 0 d0
  have h1 := h0.set 1 d1
  have h2 := h1.set 2 d2
  have h3 := h2.set 3 d3
  have h4 := h3.set 4 d4
  have h5 := h4.set 5 d5
  have h6 := h5.set 6 d6
  have h7 := h6.set 7 d7
  exact ⟨⟨h.cell 0 _ rfl, h.frozen 0, h0.cell 1 _ rfl, h0.frozen 1, h1.cell 2 _ rfl, h1.frozen 2, h2.cell 3 _ rfl, h2.frozen 3, h3.cell 4 _ rfl, h3.frozen 4, h4.cell 5 _ rfl, h4.frozen 5, h5.cell 6 _ rfl, h5.frozen 6, h6.cell 7 _ rfl, h6.frozen 7⟩, h7, (set_grown' _ _ _ _).trans ((set_grown' _ _ _ _).trans ((set_grown' _ _ _ _).trans ((set_grown' _ _ _ _).trans ((set_grown' _ _ _ _).trans ((set_grown' _ _ _ _).trans ((set_grown' _ _ _ _).trans (set_grown' _ _ _ _)))))))⟩

end Go.Proofs.Ytjcaejdokillgaa
