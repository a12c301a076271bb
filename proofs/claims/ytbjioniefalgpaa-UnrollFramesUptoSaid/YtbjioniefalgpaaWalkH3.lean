/- Contract: what holds in a frame. -/
import Derived.Test.YtbjioniefalgpaaWalkH2
import Derived.Test.YtbjioniefalgpaaWalkG2
namespace Go.Proofs.Ytbjioniefalgpaa
open Go.RowKit Go.Shelf

/-- a question, plainly -/
structure Qst where
  c : PC.Circ
  assume : List (List Int)
  lemmas : List (List Int)
  known : List (List Int)
  bad : Int
  depth : Int
  budget : Int

/-- a value that is a question -/
def IsQ (w : World) (v : Value) (q : Qst) : Prop :=
  ∃ vi vl vo vb vv va vn vA vL vK, v = .agg #[.int .i64 q.c.max, vi, vl, vo, vb, vv, va, vn, vA, vL, vK, .int .i64 q.bad, .int .i64 q.depth, .int .i64 q.budget] ∧
    IsCirc w (.agg #[.int .i64 q.c.max, vi, vl, vo, vb, vv, va, vn]) q.c ∧ Lists w vA q.assume ∧ Lists w vL q.lemmas ∧ Lists w vK q.known ∧ rng q.bad ∧ rng q.depth ∧ rng q.budget

theorem IsQ.mono {w w' : World} {v : Value} {q : Qst} (h : IsQ w v q) (hb : Below w.heap.size w w') : IsQ w' v q := by
  obtain ⟨vi, vl, vo, vb, vv, va, vn, vA, vL, vK, rfl, hc, h1, h2, h3, r⟩ := h
  exact ⟨vi, vl, vo, vb, vv, va, vn, vA, vL, vK, rfl, hc.mono hb, h1.mono hb, h2.mono hb, h3.mono hb, r⟩

/-- what a question's size asks -/
def FitsQ (q : Qst) : Prop := q.assume.length ≤ 1048576 ∧ q.lemmas.length ≤ 1048576 ∧ q.known.length ≤ 1048576 ∧ (∀ a ∈ q.assume, a.length ≤ 1048576) ∧ (∀ a ∈ q.lemmas, a.length ≤ 1048576) ∧ (∀ a ∈ q.known, a.length ≤ 1048576)

/-- the fourteen cells of a question in its box -/
def Box14 (w : World) (b : Nat) (x0 x1 x2 x3 x4 x5 x6 x7 x8 x9 x10 x11 x12 x13 : Value) : Prop :=
  Box8 w b x0 x1 x2 x3 x4 x5 x6 x7 ∧ w.cell? ⟨b, 8, none⟩ = some x8 ∧ w.cell? ⟨b, 9, none⟩ = some x9 ∧ w.cell? ⟨b, 10, none⟩ = some x10 ∧ w.cell? ⟨b, 11, none⟩ = some x11 ∧ w.cell? ⟨b, 12, none⟩ = some x12 ∧ w.cell? ⟨b, 13, none⟩ = some x13

theorem Box14.new (w : World) (x0 x1 x2 x3 x4 x5 x6 x7 x8 x9 x10 x11 x12 x13 : Value) (t : TypeId) :
    Box14 (w.alloc (.cells #[x0, x1, x2, x3, x4, x5, x6, x7, x8, x9, x10, x11, x12, x13] t)) w.heap.size x0 x1 x2 x3 x4 x5 x6 x7 x8 x9 x10 x11 x12 x13 := by
  have h : ∀ j, (w.alloc (.cells #[x0, x1, x2, x3, x4, x5, x6, x7, x8, x9, x10, x11, x12, x13] t)).cell? ⟨w.heap.size, j, none⟩ = (#[x0, x1, x2, x3, x4, x5, x6, x7, x8, x9, x10, x11, x12, x13] : Array Value)[j]? := fun j => World.cell?_alloc_mark _ _ _ _ _
  exact ⟨⟨h 0, h 1, h 2, h 3, h 4, h 5, h 6, h 7⟩, h 8, h 9, h 10, h 11, h 12, h 13⟩

theorem Box14.mono {w w' : World} {b : Nat} {x0 x1 x2 x3 x4 x5 x6 x7 x8 x9 x10 x11 x12 x13 : Value} (h : Box14 w b x0 x1 x2 x3 x4 x5 x6 x7 x8 x9 x10 x11 x12 x13) (hb : Below w.heap.size w w') : Box14 w' b x0 x1 x2 x3 x4 x5 x6 x7 x8 x9 x10 x11 x12 x13 := by
  have hl := h.1.lt
  obtain ⟨h0, h8, h9, h10, h11, h12, h13⟩ := h
  exact ⟨h0.mono hb, (hb.cell hl).trans h8, (hb.cell hl).trans h9, (hb.cell hl).trans h10, (hb.cell hl).trans h11, (hb.cell hl).trans h12, (hb.cell hl).trans h13⟩

theorem IsCirc.parts {w : World} {m vi vl vo vb vv va vn : Value} {c : PC.Circ} (h : IsCirc w (.agg #[m, vi, vl, vo, vb, vv, va, vn]) c) : CircParts w c vi vl vo vb vv va vn := by
  obtain ⟨_, _, _, _, _, _, _, he, hp, _⟩ := h
  cases he
  exact hp

theorem Cells.slice {w : World} {k : Nat} {v : Value} {n : Nat} {cs : List Value} (h : Cells w k v n cs) : ∃ a cap, v = .slice a n cap := by
  obtain ⟨a, cap, h1, _⟩ := h
  exact ⟨a, cap, h1⟩

theorem Lists.slice {w : World} {v : Value} {l : List (List Int)} (h : Lists w v l) : ∃ a cap, v = .slice a l.length cap := by
  obtain ⟨vs, _, h1, _⟩ := h
  exact h1.slice

set_option maxRecDepth 100000 in
set_option maxHeartbeats 4000000 in
theorem uFrame_bad (q : Qst) (vq : Value) (fr : Int) (w : World) (h : IsQ w vq q) (hR : (decide (0 ≤ fr) && decide (fr ≤ 80) && PC.chk q.c) = false) :
    Calls Try.prog 24 #[vq, .int .i64 fr] w fun e w' => e = .returned (.slice none 0 0) ∧ Below w.heap.size w w' := by
  obtain ⟨vi, vl, vo, vb, vv, va, vn, vA, vL, vK, rfl, hc, h1, h2, h3, r⟩ := h
  have hRt := Lib.hid fun w1 (hb : Below w.heap.size w w1) => uright_any q.c _ fr w1 (hc.mono hb)
  rw [hR] at hRt
  have hp := hc.parts
  obtain ⟨a1, k1, rfl⟩ := hp.inputs.1.slice
  obtain ⟨a2, k2, rfl⟩ := hp.latches.1.slice
  obtain ⟨a3, k3, rfl⟩ := hp.outputs.1.slice
  obtain ⟨a4, k4, rfl⟩ := hp.bads.1.slice
  obtain ⟨a5, k5, rfl⟩ := hp.invars.1.slice
  obtain ⟨a6, k6, rfl⟩ := hp.ands.1.slice
  obtain ⟨a7, k7, rfl⟩ := hp.names.1.slice
  clear hc h1 h2 h3 r hR hp
  have hb0 : Below w.heap.size w ((w.alloc (.cells #[.int .i64 q.c.max, .slice a1 q.c.inputs.length k1, .slice a2 q.c.latches.length k2, .slice a3 q.c.outputs.length k3, .slice a4 q.c.bads.length k4, .slice a5 q.c.invars.length k5, .slice a6 q.c.ands.length k6, .slice a7 q.c.names.length k7, vA, vL, vK, .int .i64 q.bad, .int .i64 q.depth, .int .i64 q.budget] 54)).alloc (.cells #[.int .i64 q.c.max, .slice a1 q.c.inputs.length k1, .slice a2 q.c.latches.length k2, .slice a3 q.c.outputs.length k3, .slice a4 q.c.bads.length k4, .slice a5 q.c.invars.length k5, .slice a6 q.c.ands.length k6, .slice a7 q.c.names.length k7] 27)) := ((Below.refl _ _).alloc (Nat.le_refl _) _).alloc (by simp) _
  go_enter Try.func24, Try.ntmps24
  go_wp2_with fail
  refine (hRt.out _ (by exact hb0)).mono ?_
  rintro e w1 ⟨rfl, hb1⟩
  go_wp2_with fail
  go_ret
  exact ⟨rfl, Below.of hb0 hb1⟩

theorem rightE_zero (c : PC.Circ) (b : Int) (hck : PC.chk c = true) (h0 : 0 ≤ b) (h1 : b ≤ 262144) : rightE c b = 0 := by
  unfold rightE
  rw [if_neg (by rw [hck]; decide), if_neg (by omega)]

namespace PC
theorem gatesT_pos (c : Circ) (h : Right c) (b : Int) : 0 < (gatesT c b).length := by
  have h0 : isDef c 0 = false := by
    rw [Bool.eq_false_iff]
    intro hd
    obtain ⟨d, hm, he⟩ := List.any_eq_true.1 hd
    have := (h.defs d hm).1
    have e : varOf d = 0 := by simpa using he
    unfold varOf at e
    omega
  rw [gatesT_eq, List.length_append, undefs_succ]
  have : (undefs c b (0 + 1)).length = 1 := by rw [undefs_succ, h0]; rfl
  have hle : ∀ k, 1 ≤ (undefs c b (k + 1)).length := by
    intro k
    induction k with
    | zero => omega
    | succ k ih => rw [undefs_succ, List.length_append]; omega
  have := hle c.max.toNat
  rw [undefs_succ] at this
  omega

theorem gatesT_len (c : Circ) (h : Right c) (b : Int) : (gatesT c b).length ≤ 2049 + 3 * c.ands.length := by
  rw [gatesT_eq, List.length_append]
  have h1 := undefs_len c b (c.max.toNat + 1)
  have h2 := gates_len c b c.ands.length
  rw [List.take_length] at h2
  have := h.max1
  omega

theorem force_len (c : Circ) (h : Right c) (assume : List (List Int)) (b : Int) : (force c assume b).length ≤ 64 + assume.length := by
  unfold force
  rw [List.length_append, List.length_map, List.length_map]
  have := h.invs
  omega
end PC

theorem OutI.slice {w : World} {B : Nat} {v : Value} {ls : List (List Int)} (h : OutI w B v ls) : ∃ ao n c, v = .slice ao n c := by
  obtain ⟨vs, h1, _⟩ := h
  rcases h1.2 with ⟨rfl, _⟩ | ⟨g, cap, cur, rfl, _⟩ <;> exact ⟨_, _, _, rfl⟩

end Go.Proofs.Ytbjioniefalgpaa
