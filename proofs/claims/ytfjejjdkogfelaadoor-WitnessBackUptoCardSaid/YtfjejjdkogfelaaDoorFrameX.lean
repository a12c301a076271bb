/- What a list of texts, and a witness, among the arguments read as. -/
import Derived.Test.YtfjejjdkogfelaaDoorFrameC
import Derived.Deep.Strs
namespace Go.Proofs.YtfjejjdkogfelaaDoor
open Go.ChangeShapes Go.WideShapes Go.RowKit

theorem cells_int : Tryd.prog.cellsOf 3 = 1 := by kernel_rfl
theorem cells_string : Tryd.prog.cellsOf 9 = 1 := by kernel_rfl
theorem flat1 {α β : Type} (f : α → β) (l : List α) : l.flatMap (fun y => [f y]) = l.map f := by
  induction l with
  | nil => rfl
  | cons y r ih => simp [List.flatMap_cons, ih]

theorem cells_strs : Tryd.prog.cellsOf 22 = 1 := by kernel_rfl
theorem cells_wit : Tryd.prog.cellsOf 24 = 3 := by kernel_rfl
theorem bytes_string : Tryd.prog.bytesOf 9 = 16 := by kernel_rfl

section
variable {H : Type} {enc : TypeId × Value → H} {w : World} {spare : Nat → Bool} {held : Bool}

theorem block_lt {w : World} (b : Addr) (o : Value) (h : w.cell? b = some o) : b.block < w.heap.size := World.block_lt_of_cell? w b h

theorem tr_int {n : Nat} {cs : List Value} {x : DataW H × List MemPlace} (h : DataW.trod enc Tryd.prog w 0 spare held n 3 cs = some x) : ∃ y, cs = [.int .i64 y] ∧ rng y := by
  obtain ⟨y, rfl, _, hw⟩ := DataW.trod_int Tryd.underlying3 h
  exact ⟨y, rfl, bounds_i64 hw⟩

theorem tr_string {n : Nat} {cs : List Value} {x : DataW H × List MemPlace} (h : DataW.trod enc Tryd.prog w 0 spare held n 9 cs = some x) : ∃ s : List UInt8, cs = [.string ⟨s.toArray⟩] ∧ s.length ≤ 9223372036854775807 := by
  obtain ⟨s, rfl, _, hw⟩ := DataW.trod_string Tryd.underlying9 h
  refine ⟨s.data.toList, ?_, ?_⟩
  · simp
  · have : s.size ≤ 9223372036854775807 := hw
    simpa using this

theorem tr_strs {n : Nat} {cs : List Value} {x : DataW H × List MemPlace} (h : DataW.trod enc Tryd.prog w 0 spare held n 22 cs = some x) :
    ∃ v l, cs = [v] ∧ Strs w v l ∧ ∀ B, Wt Tryd.prog B 22 x.1 → l.length * 16 ≤ B := by
  obtain ⟨v, ys, rfl, hc, hB, hok⟩ := tr_slice (α := List UInt8) Tryd.underlying22 cells_string (by decide) (fun y => [.string ⟨y.toArray⟩]) (fun y _ => y.length ≤ 9223372036854775807) (fun _ => rfl)
    (fun n cs' x' h' => tr_string h') h block_lt
  refine ⟨v, ys, rfl, ⟨?_, fun y hy => (hok y hy).choose_spec⟩, fun B hb => ?_⟩
  · rw [flat1] at hc
    exact hc
  · have := (hB B hb).1
    rw [bytes_string] at this
    exact this

set_option maxRecDepth 10000 in
theorem tr_wit {n : Nat} {cs : List Value} {x : DataW H × List MemPlace} (h : DataW.trod enc Tryd.prog w 0 spare held n 24 cs = some x) :
    ∃ (bad : Int) (st : List UInt8) (ins : List (List UInt8)) (u : Value), Value.agg cs.toArray = .agg #[.int .i64 bad, .string ⟨st.toArray⟩, u] ∧ Strs w u ins ∧ st.length ≤ 9223372036854775807 ∧ rng bad ∧ ∀ B, Wt Tryd.prog B 24 x.1 → ins.length * 16 ≤ B := by
  obtain ⟨xs, m, _, rfl, hl, hlen, hf⟩ := DataW.trod_struct Tryd.underlying24 h
  rw [cells_wit] at hl
  match xs, hlen with
  | [y0, y1, y2], _ =>
    match cs, hl with
    | [c0, c1, c2], _ =>
      have f0 := hf 0 _ rfl
      have f1 := hf 1 _ rfl
      have f2 := hf 2 _ rfl
      simp [cells_int, cells_string, cells_strs] at f0 f1 f2
      obtain ⟨mx, e0, r0⟩ := tr_int f0
      obtain ⟨s1, e1, r1⟩ := tr_string f1
      obtain ⟨v2, l2, e2, r2, w2⟩ := tr_strs f2
      simp at e0 e1 e2
      subst e0; subst e1; subst e2
      refine ⟨mx, s1, l2, _, rfl, r2, r1, r0, fun B hb => w2 B fun q hq => hb q ?_⟩
      simp only [DataW.weights, Tryd.underlying24, List.map_cons, List.map_nil, DataW.weightsEach, List.mem_append]
      simp [hq]

end
end Go.Proofs.YtfjejjdkogfelaaDoor
