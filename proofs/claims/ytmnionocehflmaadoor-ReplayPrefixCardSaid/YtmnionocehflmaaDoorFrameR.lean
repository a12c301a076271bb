/- What a list of texts, and a witness, among the arguments read as. -/
import Derived.Test.YtmnionocehflmaaDoorFrameC2
namespace Go.Proofs.YtmnionocehflmaaDoor
open Go.ChangeShapes Go.WideShapes Go.RowKit

theorem cells_strs : Tryd.prog.cellsOf 44 = 1 := by kernel_rfl
theorem cells_wit : Tryd.prog.cellsOf 46 = 3 := by kernel_rfl
theorem bytes_string : Tryd.prog.bytesOf 9 = 16 := by kernel_rfl

section
variable {H : Type} {enc : TypeId × Value → H} {w : World} {spare : Nat → Bool} {held : Bool}

theorem tr_strs {n : Nat} {cs : List Value} {x : DataW H × List MemPlace} (h : DataW.trod enc Tryd.prog w 0 spare held n 44 cs = some x) :
    ∃ v l, cs = [v] ∧ Strs w v l ∧ ∀ B, Wt Tryd.prog B 44 x.1 → l.length * 16 ≤ B := by
  obtain ⟨v, ys, rfl, hc, hB, hok⟩ := tr_slice (α := List UInt8) Tryd.underlying44 cells_string (by decide) (fun y => [.string ⟨y.toArray⟩]) (fun y _ => y.length ≤ 9223372036854775807) (fun _ => rfl)
    (fun n cs' x' h' => tr_string h') h block_lt
  refine ⟨v, ys, rfl, ⟨?_, fun y hy => (hok y hy).choose_spec⟩, fun B hb => ?_⟩
  · rw [flat1] at hc
    exact hc
  · have := (hB B hb).1
    rw [bytes_string] at this
    exact this

set_option maxRecDepth 10000 in
theorem tr_wit {n : Nat} {cs : List Value} {x : DataW H × List MemPlace} (h : DataW.trod enc Tryd.prog w 0 spare held n 46 cs = some x) :
    ∃ (bad : Int) (st : List UInt8) (ins : List (List UInt8)) (u : Value), Value.agg cs.toArray = .agg #[.int .i64 bad, .string ⟨st.toArray⟩, u] ∧ Strs w u ins ∧ st.length ≤ 9223372036854775807 ∧ rng bad ∧ ∀ B, Wt Tryd.prog B 46 x.1 → ins.length * 16 ≤ B := by
  obtain ⟨xs, m, _, rfl, hl, hlen, hf⟩ := DataW.trod_struct Tryd.underlying46 h
  rw [cells_wit] at hl
  match xs, hlen with
  | [y0, y1, y2], _ =>
    match cs, hl with
    | [c0, c1, c2], _ =>
      have f0 := hf 0 _ rfl
      have f1 := hf 1 _ rfl
      have f2 := hf 2 _ rfl
      simp [cells_int, cells_string, cells_strs] at f0 f1 f2
      obtain ⟨mx, e0, r0⟩ := tr_int f0
      obtain ⟨s1, e1, r1⟩ := tr_string f1
      obtain ⟨v2, l2, e2, r2, w2⟩ := tr_strs f2
      simp at e0 e1 e2
      subst e0; subst e1; subst e2
      refine ⟨mx, s1, l2, _, rfl, r2, r1, r0, fun B hb => w2 B fun q hq => hb q ?_⟩
      simp only [DataW.weights, Tryd.underlying46, List.map_cons, List.map_nil, DataW.weightsEach, List.mem_append]
      simp [hq]

end
end Go.Proofs.YtmnionocehflmaaDoor
