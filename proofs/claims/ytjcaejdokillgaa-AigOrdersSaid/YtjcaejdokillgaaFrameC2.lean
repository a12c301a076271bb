/- What a circuit among the arguments reads as. -/
import Derived.Test.YtjcaejdokillgaaFrameC
import Derived.Deep.Strs
namespace Go.Proofs.Ytjcaejdokillgaa
open Go.ChangeShapes Go.WideShapes Go.RowKit

theorem cells_int : Try.prog.cellsOf 3 = 1 := by kernel_rfl
theorem cells_string : Try.prog.cellsOf 9 = 1 := by kernel_rfl
theorem cells_ints : Try.prog.cellsOf 22 = 1 := by kernel_rfl
theorem cells_lats : Try.prog.cellsOf 23 = 1 := by kernel_rfl
theorem cells_gats : Try.prog.cellsOf 24 = 1 := by kernel_rfl
theorem cells_nams : Try.prog.cellsOf 25 = 1 := by kernel_rfl
theorem cells_lat : Try.prog.cellsOf 36 = 3 := by kernel_rfl
theorem cells_gat : Try.prog.cellsOf 38 = 3 := by kernel_rfl
theorem cells_nam : Try.prog.cellsOf 40 = 3 := by kernel_rfl
theorem cells_circ : Try.prog.cellsOf 27 = 8 := by kernel_rfl
theorem bytes_int : Try.prog.bytesOf 3 = 8 := by kernel_rfl
theorem bytes_ints : Try.prog.bytesOf 22 = 24 := by kernel_rfl
theorem bytes_gat : Try.prog.bytesOf 38 = 24 := by kernel_rfl

theorem flat1 {α β : Type} (f : α → β) (l : List α) : l.flatMap (fun y => [f y]) = l.map f := by
  induction l with
  | nil => rfl
  | cons y r ih => simp [List.flatMap_cons, ih]

section
variable {H : Type} {enc : TypeId × Value → H} {w : World} {spare : Nat → Bool} {held : Bool}

theorem block_lt {w : World} (b : Addr) (o : Value) (h : w.cell? b = some o) : b.block < w.heap.size := World.block_lt_of_cell? w b h

theorem tr_int {n : Nat} {cs : List Value} {x : DataW H × List MemPlace} (h : DataW.trod enc Try.prog w 0 spare held n 3 cs = some x) : ∃ y, cs = [.int .i64 y] ∧ rng y := by
  obtain ⟨y, rfl, _, hw⟩ := DataW.trod_int Try.underlying3 h
  exact ⟨y, rfl, bounds_i64 hw⟩

theorem tr_string {n : Nat} {cs : List Value} {x : DataW H × List MemPlace} (h : DataW.trod enc Try.prog w 0 spare held n 9 cs = some x) : ∃ s : List UInt8, cs = [.string ⟨s.toArray⟩] ∧ s.length ≤ 9223372036854775807 := by
  obtain ⟨s, rfl, _, hw⟩ := DataW.trod_string Try.underlying9 h
  refine ⟨s.data.toList, ?_, ?_⟩
  · simp
  · have : s.size ≤ 9223372036854775807 := hw
    simpa using this

theorem tr_ints {n : Nat} {cs : List Value} {x : DataW H × List MemPlace} (h : DataW.trod enc Try.prog w 0 spare held n 22 cs = some x) :
    ∃ v l, cs = [v] ∧ Ints w v l ∧ ∀ B, Wt Try.prog B 22 x.1 → l.length * 8 ≤ B := by
  obtain ⟨v, ys, rfl, hc, hB, hok⟩ := tr_slice (α := Int) Try.underlying22 cells_int (by decide) (fun y => [.int .i64 y]) (fun y _ => rng y) (fun _ => rfl)
    (fun n cs' x' h' => tr_int h') h block_lt
  refine ⟨v, ys, rfl, ⟨?_, fun y hy => (hok y hy).choose_spec⟩, fun B hb => ?_⟩
  · rw [flat1] at hc
    exact hc
  · have := (hB B hb).1
    rw [bytes_int] at this
    exact this

theorem tr_lats {n : Nat} {cs : List Value} {x : DataW H × List MemPlace} (h : DataW.trod enc Try.prog w 0 spare held n 23 cs = some x) : ∃ v l, cs = [v] ∧ Lats w v l := by
  obtain ⟨v, ys, rfl, hc, hB, hok⟩ := tr_slice (α := PC.Lat) Try.underlying23 cells_lat (by decide) latCells (fun y _ => rng y.lit ∧ rng y.next ∧ rng y.reset) (fun _ => rfl)
    (fun n cs' x' h' => by
      obtain ⟨y0, y1, y2, m, _, hl, h0, h1, h2⟩ := Go.Deep.trod_struct3 Try.underlying36 h'
      rw [cells_lat] at hl
      rw [cells_int] at h0 h1 h2
      match cs', hl with
      | [a, b, d], _ =>
        obtain ⟨z0, e0, r0⟩ := tr_int h0
        obtain ⟨z1, e1, r1⟩ := tr_int h1
        obtain ⟨z2, e2, r2⟩ := tr_int h2
        simp at e0 e1 e2
        subst e0; subst e1; subst e2
        exact ⟨⟨z0, z1, z2⟩, rfl, r0, r1, r2⟩) h block_lt
  exact ⟨v, ys, rfl, hc, fun y hy => (hok y hy).choose_spec⟩

theorem tr_gats {n : Nat} {cs : List Value} {x : DataW H × List MemPlace} (h : DataW.trod enc Try.prog w 0 spare held n 24 cs = some x) :
    ∃ v l, cs = [v] ∧ Gats w v l ∧ ∀ B, Wt Try.prog B 24 x.1 → l.length * 24 ≤ B := by
  obtain ⟨v, ys, rfl, hc, hB, hok⟩ := tr_slice (α := PC.Gat) Try.underlying24 cells_gat (by decide) gatCells (fun y _ => rng y.lit ∧ rng y.left ∧ rng y.right) (fun _ => rfl)
    (fun n cs' x' h' => by
      obtain ⟨y0, y1, y2, m, _, hl, h0, h1, h2⟩ := Go.Deep.trod_struct3 Try.underlying38 h'
      rw [cells_gat] at hl
      rw [cells_int] at h0 h1 h2
      match cs', hl with
      | [a, b, d], _ =>
        obtain ⟨z0, e0, r0⟩ := tr_int h0
        obtain ⟨z1, e1, r1⟩ := tr_int h1
        obtain ⟨z2, e2, r2⟩ := tr_int h2
        simp at e0 e1 e2
        subst e0; subst e1; subst e2
        exact ⟨⟨z0, z1, z2⟩, rfl, r0, r1, r2⟩) h block_lt
  refine ⟨v, ys, rfl, ⟨hc, fun y hy => (hok y hy).choose_spec⟩, fun B hb => ?_⟩
  have := (hB B hb).1
  rw [bytes_gat] at this
  exact this

theorem tr_nams {n : Nat} {cs : List Value} {x : DataW H × List MemPlace} (h : DataW.trod enc Try.prog w 0 spare held n 25 cs = some x) : ∃ v l, cs = [v] ∧ Nams w v l := by
  obtain ⟨v, ys, rfl, hc, hB, hok⟩ := tr_slice (α := PC.Nam) Try.underlying25 cells_nam (by decide) namCells (fun y _ => rng y.at_ ∧ y.kind.length ≤ 9223372036854775807 ∧ y.text.length ≤ 9223372036854775807) (fun _ => rfl)
    (fun n cs' x' h' => by
      obtain ⟨y0, y1, y2, m, _, hl, h0, h1, h2⟩ := Go.Deep.trod_struct3 Try.underlying40 h'
      rw [cells_nam] at hl
      simp only [cells_int, cells_string] at h0 h1 h2
      match cs', hl with
      | [a, b, d], _ =>
        obtain ⟨z0, e0, r0⟩ := tr_string h0
        obtain ⟨z1, e1, r1⟩ := tr_int h1
        obtain ⟨z2, e2, r2⟩ := tr_string h2
        simp at e0 e1 e2
        subst e0; subst e1; subst e2
        exact ⟨⟨z0, z1, z2⟩, rfl, r1, r0, r2⟩) h block_lt
  exact ⟨v, ys, rfl, hc, fun y hy => (hok y hy).choose_spec⟩

theorem tr_lists {n : Nat} {cs : List Value} {x : DataW H × List MemPlace} (h : DataW.trod enc Try.prog w 0 spare held n 75 cs = some x) :
    ∃ v l, cs = [v] ∧ Lists w v l ∧ ∀ B, Wt Try.prog B 75 x.1 → l.length * 24 ≤ B ∧ ∀ a ∈ l, a.length * 8 ≤ B := by
  obtain ⟨v, ys, rfl, hc, hB, hok⟩ := tr_slice (α := Value × List Int) (enc := enc) Try.underlying75 cells_ints (by decide) (fun y => [y.1]) (fun y d => Ints w y.1 y.2 ∧ ∀ B, Wt Try.prog B 22 d → y.2.length * 8 ≤ B) (fun _ => rfl)
    (fun n cs' x' h' => by
      obtain ⟨v, l, rfl, h1, h2⟩ := tr_ints h'
      exact ⟨(v, l), rfl, h1, h2⟩) h block_lt
  rw [flat1] at hc
  refine ⟨v, ys.map (·.2), rfl, ⟨ys.map (·.1), by simp, ?_, fun i h1 h2 => ?_⟩, fun B hb => ?_⟩
  · rw [List.length_map]; exact hc
  · simp only [List.getElem_map]
    obtain ⟨d, hd, _⟩ := hok (ys[i]'(by simpa using h1)) (List.getElem_mem _)
    exact hd
  · obtain ⟨h1, h2⟩ := hB B hb
    rw [bytes_ints] at h1
    refine ⟨by rw [List.length_map]; exact h1, fun a ha => ?_⟩
    obtain ⟨y, hy, rfl⟩ := List.mem_map.1 ha
    obtain ⟨d, ⟨_, hd⟩, hw⟩ := h2 y hy
    exact hd B hw

set_option maxRecDepth 10000 in
/-- a circuit among the arguments -/
theorem tr_circ {n : Nat} {cs : List Value} {x : DataW H × List MemPlace} (h : DataW.trod enc Try.prog w 0 spare held n 27 cs = some x) :
    ∃ c : PC.Circ, IsCirc w (.agg cs.toArray) c ∧ ∀ B, Wt Try.prog B 27 x.1 → c.ands.length * 24 ≤ B ∧ c.inputs.length * 8 ≤ B := by
  obtain ⟨xs, m, _, rfl, hl, hlen, hf⟩ := DataW.trod_struct Try.underlying27 h
  rw [cells_circ] at hl
  match xs, hlen with
  | [y0, y1, y2, y3, y4, y5, y6, y7], _ =>
    match cs, hl with
    | [c0, c1, c2, c3, c4, c5, c6, c7], _ =>
      have f0 := hf 0 _ rfl
      have f1 := hf 1 _ rfl
      have f2 := hf 2 _ rfl
      have f3 := hf 3 _ rfl
      have f4 := hf 4 _ rfl
      have f5 := hf 5 _ rfl
      have f6 := hf 6 _ rfl
      have f7 := hf 7 _ rfl
      simp [cells_int, cells_ints, cells_lats, cells_gats, cells_nams] at f0 f1 f2 f3 f4 f5 f6 f7
      obtain ⟨mx, e0, r0⟩ := tr_int f0
      obtain ⟨v1, l1, e1, r1, s1⟩ := tr_ints f1
      obtain ⟨v2, l2, e2, r2⟩ := tr_lats f2
      obtain ⟨v3, l3, e3, r3, _⟩ := tr_ints f3
      obtain ⟨v4, l4, e4, r4, _⟩ := tr_ints f4
      obtain ⟨v5, l5, e5, r5, _⟩ := tr_ints f5
      obtain ⟨v6, l6, e6, r6, s6⟩ := tr_gats f6
      obtain ⟨v7, l7, e7, r7⟩ := tr_nams f7
      simp at e0 e1 e2 e3 e4 e5 e6 e7
      subst e0; subst e1; subst e2; subst e3; subst e4; subst e5; subst e6; subst e7
      refine ⟨⟨mx, l1, l2, l3, l4, l5, l6, l7⟩, ⟨_, _, _, _, _, _, _, rfl, ⟨r1, r2, r3, r4, r5, r6, r7⟩, r0⟩, fun B hb => ⟨s6 B fun q hq => hb q ?_, s1 B fun q hq => hb q ?_⟩⟩
      · simp only [DataW.weights, Try.underlying27, List.map_cons, List.map_nil, DataW.weightsEach, List.mem_append]
        simp [hq]
      · simp only [DataW.weights, Try.underlying27, List.map_cons, List.map_nil, DataW.weightsEach, List.mem_append]
        simp [hq]

end
end Go.Proofs.Ytjcaejdokillgaa
