/- Contract: octets' circuit: a number in a region that draws: how far it is read. -/
import Derived.Test.YtjcaejdokillgaaDoorZI5
namespace Go.Proofs.YtjcaejdokillgaaDoor
open Go.RowKit Go.Shelf
attribute [local simp] mk_get

def Got1 (r B n1 : Nat) (q0 : List UInt8) (u : Value) (y : World) : Prop :=
  ∃ l1 q1, PR.many PJ.oneF 1 1 0 n1 q0 = some (l1, q1) ∧ OwnI y B u l1 ∧ RdI y r q1 ∧ q1.length + n1 ≤ q0.length
def Got2 (r B n1 n2 : Nat) (q0 : List UInt8) (u v : Value) (y : World) : Prop :=
  ∃ l1 q1 l2 q2, PR.many PJ.oneF 1 1 0 n1 q0 = some (l1, q1) ∧ PR.many PJ.oneF 1 1 0 n2 q1 = some (l2, q2) ∧ OwnI y B u l1 ∧ OwnI y B v l2 ∧ RdI y r q2 ∧ q2.length + n1 + n2 ≤ q0.length
def Got3 (r B n1 n2 n3 : Nat) (q0 : List UInt8) (u v x : Value) (y : World) : Prop :=
  ∃ l1 q1 l2 q2 l3 q3, PR.many PJ.oneF 1 1 0 n1 q0 = some (l1, q1) ∧ PR.many PJ.oneF 1 1 0 n2 q1 = some (l2, q2) ∧ PR.many PJ.oneF 1 1 0 n3 q2 = some (l3, q3) ∧ OwnI y B u l1 ∧ OwnI y B v l2 ∧ OwnI y B x l3 ∧ RdI y r q3 ∧ q3.length + n1 + n2 + n3 ≤ q0.length

section
variable {r B n1 n2 n3 : Nat} {q0 : List UInt8} {u v x : Value} {y y' : World}
theorem Got1.mono (h : Got1 r B n1 q0 u y) (hb : Below y.heap.size y y') : Got1 r B n1 q0 u y' := by
  obtain ⟨l1, q1, m1, o1, hR, hl⟩ := h
  exact ⟨l1, q1, m1, o1.mono hb, hR.mono hb, hl⟩
theorem Got2.mono (h : Got2 r B n1 n2 q0 u v y) (hb : Below y.heap.size y y') : Got2 r B n1 n2 q0 u v y' := by
  obtain ⟨l1, q1, l2, q2, m1, m2, o1, o2, hR, hl⟩ := h
  exact ⟨l1, q1, l2, q2, m1, m2, o1.mono hb, o2.mono hb, hR.mono hb, hl⟩
theorem Got3.mono (h : Got3 r B n1 n2 n3 q0 u v x y) (hb : Below y.heap.size y y') : Got3 r B n1 n2 n3 q0 u v x y' := by
  obtain ⟨l1, q1, l2, q2, l3, q3, m1, m2, m3, o1, o2, o3, hR, hl⟩ := h
  exact ⟨l1, q1, l2, q2, l3, q3, m1, m2, m3, o1.mono hb, o2.mono hb, o3.mono hb, hR.mono hb, hl⟩
theorem Got3.slices (h : Got3 r B n1 n2 n3 q0 u v x y) : (∃ a n c, u = .slice a n c) ∧ (∃ a n c, v = .slice a n c) ∧ ∃ a n c, x = .slice a n c := by
  obtain ⟨l1, q1, l2, q2, l3, q3, m1, m2, m3, o1, o2, o3, hR, hl⟩ := h
  obtain ⟨a1, c1, e1⟩ := owned_slice' o1.1
  obtain ⟨a2, c2, e2⟩ := owned_slice' o2.1
  obtain ⟨a3, c3, e3⟩ := owned_slice' o3.1
  exact ⟨⟨_, _, _, e1⟩, ⟨_, _, _, e2⟩, ⟨_, _, _, e3⟩⟩
end

/-- three lists: how far they are read and laid -/
def DI (r B b : Nat) (w1 : World) (n1 n2 n3 : Nat) (q0 : List UInt8) (cs : List Value) (bs : List Bool) (vs : Nat → Value) (y : World) : Prop :=
  (bs = [false, false, false, false, false] ∧ w1.grownBy y (some r) ∧ RdI y r q0) ∨
  (bs = [true, false, false, false, false] ∧ w1.grownBy y (some r) ∧ Got1 r B n1 q0 (vs 4) y) ∨
  (bs = [true, true, false, false, false] ∧ w1.grownBy y (some r) ∧ Got2 r B n1 n2 q0 (vs 4) (vs 9) y) ∨
  (bs = [true, true, true, false, false] ∧ w1.grownBy y (some r) ∧ Got3 r B n1 n2 n3 q0 (vs 4) (vs 9) (vs 14) y) ∨
  (bs = [true, true, true, true, false] ∧ ∃ z, w1.grownBy z (some r) ∧ RowL 27 y b (cs.set 3 (vs 4)) ∧ z.grownBy y (some b) ∧ Got3 r B n1 n2 n3 q0 (vs 4) (vs 9) (vs 14) z) ∨
  (bs = [true, true, true, true, true] ∧ ∃ z, w1.grownBy z (some r) ∧ RowL 27 y b ((cs.set 3 (vs 4)).set 4 (vs 9)) ∧ z.grownBy y (some b) ∧ Got3 r B n1 n2 n3 q0 (vs 4) (vs 9) (vs 14) z)

section
variable {r B b : Nat} {w1 : World} {n1 n2 n3 : Nat} {q0 : List UInt8} {cs : List Value} {y y' : World} {s : Nat → Bool} {vs vs' : Nat → Value}
theorem DI.mono {bs : List Bool} (hv : ∀ k ∈ [4, 9, 14, 16, 18], vs' k = vs k) (hb : Below y.heap.size y y') (h : DI r B b w1 n1 n2 n3 q0 cs bs vs y) : DI r B b w1 n1 n2 n3 q0 cs bs vs' y' := by
  have e4 := hv 4 (by simp)
  have e9 := hv 9 (by simp)
  have e14 := hv 14 (by simp)
  unfold DI at *
  rw [e4, e9, e14]
  rcases h with ⟨eb, hg, h⟩ | ⟨eb, hg, h⟩ | ⟨eb, hg, h⟩ | ⟨eb, hg, h⟩ | ⟨eb, z, hg, hC, hz, h⟩ | ⟨eb, z, hg, hC, hz, h⟩
  · exact .inl ⟨eb, grownBy_below hg hb, h.mono hb⟩
  · exact .inr (.inl ⟨eb, grownBy_below hg hb, h.mono hb⟩)
  · exact .inr (.inr (.inl ⟨eb, grownBy_below hg hb, h.mono hb⟩))
  · exact .inr (.inr (.inr (.inl ⟨eb, grownBy_below hg hb, h.mono hb⟩)))
  · exact .inr (.inr (.inr (.inr (.inl ⟨eb, z, hg, hC.mono hb, grownBy_below hz hb, h⟩))))
  · exact .inr (.inr (.inr (.inr (.inr ⟨eb, z, hg, hC.mono hb, grownBy_below hz hb, h⟩))))
theorem DI.before (h : DI r B b w1 n1 n2 n3 q0 cs ([4, 9, 14, 16, 18].map s) vs y) (h14 : s 14 = false) : w1.grownBy y (some r) := by
  rcases h with ⟨eb, hg, _⟩ | ⟨eb, hg, _⟩ | ⟨eb, hg, _⟩ | ⟨eb, _⟩ | ⟨eb, _⟩ | ⟨eb, _⟩
  · exact hg
  · exact hg
  · exact hg
  all_goals simp [h14] at eb
theorem DI.before9 (h : DI r B b w1 n1 n2 n3 q0 cs ([4, 9, 14, 16, 18].map s) vs y) (h9 : s 9 = false) : w1.grownBy y (some r) := by
  rcases h with ⟨eb, hg, _⟩ | ⟨eb, hg, _⟩ | ⟨eb, _⟩ | ⟨eb, _⟩ | ⟨eb, _⟩ | ⟨eb, _⟩
  · exact hg
  · exact hg
  all_goals simp [h9] at eb
theorem DI.at0 (h : DI r B b w1 n1 n2 n3 q0 cs ([4, 9, 14, 16, 18].map s) vs y) (h4 : s 4 = false) : w1.grownBy y (some r) ∧ RdI y r q0 ∧ s 9 = false ∧ s 14 = false ∧ s 16 = false ∧ s 18 = false := by
  rcases h with ⟨eb, hg, h⟩ | ⟨eb, _⟩ | ⟨eb, _⟩ | ⟨eb, _⟩ | ⟨eb, _⟩ | ⟨eb, _⟩
  · simp [h4] at eb
    exact ⟨hg, h, eb⟩
  all_goals simp [h4] at eb
theorem DI.at1 (h : DI r B b w1 n1 n2 n3 q0 cs ([4, 9, 14, 16, 18].map s) vs y) (h4 : s 4 = true) (h9 : s 9 = false) : w1.grownBy y (some r) ∧ Got1 r B n1 q0 (vs 4) y ∧ s 14 = false ∧ s 16 = false ∧ s 18 = false := by
  rcases h with ⟨eb, _⟩ | ⟨eb, hg, h⟩ | ⟨eb, _⟩ | ⟨eb, _⟩ | ⟨eb, _⟩ | ⟨eb, _⟩
  · simp [h4] at eb
  · simp [h4, h9] at eb
    exact ⟨hg, h, eb⟩
  all_goals simp [h4, h9] at eb
theorem DI.at2 (h : DI r B b w1 n1 n2 n3 q0 cs ([4, 9, 14, 16, 18].map s) vs y) (h9 : s 9 = true) (h14 : s 14 = false) : w1.grownBy y (some r) ∧ Got2 r B n1 n2 q0 (vs 4) (vs 9) y ∧ s 4 = true ∧ s 16 = false ∧ s 18 = false := by
  rcases h with ⟨eb, _⟩ | ⟨eb, _⟩ | ⟨eb, hg, h⟩ | ⟨eb, _⟩ | ⟨eb, _⟩ | ⟨eb, _⟩
  · simp [h9] at eb
  · simp [h9] at eb
  · simp [h9, h14] at eb
    exact ⟨hg, h, eb⟩
  all_goals simp [h9, h14] at eb
theorem DI.at3 (h : DI r B b w1 n1 n2 n3 q0 cs ([4, 9, 14, 16, 18].map s) vs y) (h14 : s 14 = true) (h16 : s 16 = false) : w1.grownBy y (some r) ∧ Got3 r B n1 n2 n3 q0 (vs 4) (vs 9) (vs 14) y ∧ s 4 = true ∧ s 9 = true ∧ s 18 = false := by
  rcases h with ⟨eb, _⟩ | ⟨eb, _⟩ | ⟨eb, _⟩ | ⟨eb, hg, h⟩ | ⟨eb, _⟩ | ⟨eb, _⟩
  · simp [h14] at eb
  · simp [h14] at eb
  · simp [h14] at eb
  · simp [h14, h16] at eb
    exact ⟨hg, h, eb⟩
  all_goals simp [h14, h16] at eb
theorem DI.at4 (h : DI r B b w1 n1 n2 n3 q0 cs ([4, 9, 14, 16, 18].map s) vs y) (h16 : s 16 = true) (h18 : s 18 = false) :
    (∃ z, w1.grownBy z (some r) ∧ RowL 27 y b (cs.set 3 (vs 4)) ∧ z.grownBy y (some b) ∧ Got3 r B n1 n2 n3 q0 (vs 4) (vs 9) (vs 14) z) ∧ s 4 = true ∧ s 9 = true ∧ s 14 = true := by
  rcases h with ⟨eb, _⟩ | ⟨eb, _⟩ | ⟨eb, _⟩ | ⟨eb, _⟩ | ⟨eb, h⟩ | ⟨eb, _⟩
  · simp [h16] at eb
  · simp [h16] at eb
  · simp [h16] at eb
  · simp [h16] at eb
  · simp [h16, h18] at eb
    exact ⟨h, eb⟩
  · simp [h16, h18] at eb
theorem DI.at5 (h : DI r B b w1 n1 n2 n3 q0 cs ([4, 9, 14, 16, 18].map fun _ => true) vs y) :
    ∃ z, w1.grownBy z (some r) ∧ RowL 27 y b ((cs.set 3 (vs 4)).set 4 (vs 9)) ∧ z.grownBy y (some b) ∧ Got3 r B n1 n2 n3 q0 (vs 4) (vs 9) (vs 14) z := by
  rcases h with ⟨eb, _⟩ | ⟨eb, _⟩ | ⟨eb, _⟩ | ⟨eb, _⟩ | ⟨eb, _⟩ | ⟨_, h⟩
  · simp at eb
  · simp at eb
  · simp at eb
  · simp at eb
  · simp at eb
  · exact h
end

/-- the five lists ahead of the gates -/
def Own5 (y : World) (B : Nat) (ins : List Int) (lats : List PC.Lat) (outs bads invs : List Int) (v1 v2 v3 v4 v5 : Value) : Prop :=
  OwnI y B v1 ins ∧ OwnL y B v2 lats ∧ OwnI y B v3 outs ∧ OwnI y B v4 bads ∧ OwnI y B v5 invs
section
variable {y y' : World} {B : Nat} {ins : List Int} {lats : List PC.Lat} {outs bads invs : List Int} {v1 v2 v3 v4 v5 : Value}
theorem Own5.mono (h : Own5 y B ins lats outs bads invs v1 v2 v3 v4 v5) (hb : Below y.heap.size y y') : Own5 y' B ins lats outs bads invs v1 v2 v3 v4 v5 :=
  ⟨h.1.mono hb, h.2.1.mono hb, h.2.2.1.mono hb, h.2.2.2.1.mono hb, h.2.2.2.2.mono hb⟩
theorem Own5.kept {T : TypeId} {q : Nat} {cs : List Value} (h : Own5 y B ins lats outs bads invs v1 v2 v3 v4 v5) (hg : y.grownBy y' (some q)) (hq : RowL T y q cs) (hi : 3 ≠ T) (hl : 64 ≠ T) : Own5 y' B ins lats outs bads invs v1 v2 v3 v4 v5 :=
  ⟨h.1.kept hg hq hi, h.2.1.kept hg hq hl, h.2.2.1.kept hg hq hi, h.2.2.2.1.kept hg hq hi, h.2.2.2.2.kept hg hq hi⟩
theorem Own5.app {e : TypeId} {B' k m' : Nat} {v : Value} {xs : List Value} {o : Obj} (h : Own5 y B ins lats outs bads invs v1 v2 v3 v4 v5) (hown : y.ownsRow B' e k v m' xs) (hgr : (y.alloc o).grownBy y' v.ownBlock) (hi : 3 ≠ e) (hl : 64 ≠ e) : Own5 y' B ins lats outs bads invs v1 v2 v3 v4 v5 :=
  ⟨⟨owns_app h.1.1 hown hgr hi, h.1.2⟩, ⟨owns_app h.2.1.1 hown hgr hl, h.2.1.2⟩, ⟨owns_app h.2.2.1.1 hown hgr hi, h.2.2.1.2⟩, ⟨owns_app h.2.2.2.1.1 hown hgr hi, h.2.2.2.1.2⟩, ⟨owns_app h.2.2.2.2.1 hown hgr hi, h.2.2.2.2.2⟩⟩
end

end Go.Proofs.YtjcaejdokillgaaDoor

namespace Go.Proofs.YtjcaejdokillgaaDoor
open Go.RowKit Go.Shelf
attribute [local simp] mk_get

/-- a number is read, and taken from another -/
def DN (r : Nat) (w1 : World) (tk : List UInt8) (L : Int) (bs : List Bool) (vs : Nat → Value) (y : World) : Prop :=
  (bs = [false, false] ∧ w1.grownBy y (some r) ∧ RdI y r tk) ∨
  (bs = [true, false] ∧ w1.grownBy y (some r) ∧ ∃ (x : Nat) (q : List UInt8), PI.numB tk = some (x, q) ∧ vs 3 = .int .i64 (x : Int) ∧ RdI y r q ∧ x < 2097152) ∨
  (bs = [true, true] ∧ w1.grownBy y (some r) ∧ ∃ (x : Nat) (q : List UInt8), PI.numB tk = some (x, q) ∧ vs 4 = .int .i64 (L - (x : Int)) ∧ RdI y r q ∧ x < 2097152)

section
variable {r : Nat} {w1 : World} {tk : List UInt8} {L : Int} {y y' : World} {s : Nat → Bool} {vs vs' : Nat → Value}
theorem DN.mono {bs : List Bool} (hv : ∀ k ∈ [3, 4], vs' k = vs k) (hb : Below y.heap.size y y') (h : DN r w1 tk L bs vs y) : DN r w1 tk L bs vs' y' := by
  have e3 := hv 3 (by simp)
  have e4 := hv 4 (by simp)
  unfold DN at *
  rw [e3, e4]
  rcases h with ⟨eb, hg, h⟩ | ⟨eb, hg, x, q, h1, h2, h3, h4⟩ | ⟨eb, hg, x, q, h1, h2, h3, h4⟩
  · exact .inl ⟨eb, grownBy_below hg hb, h.mono hb⟩
  · exact .inr (.inl ⟨eb, grownBy_below hg hb, x, q, h1, h2, h3.mono hb, h4⟩)
  · exact .inr (.inr ⟨eb, grownBy_below hg hb, x, q, h1, h2, h3.mono hb, h4⟩)
theorem DN.grown {bs : List Bool} (h : DN r w1 tk L bs vs y) : w1.grownBy y (some r) := by
  rcases h with ⟨_, hg, _⟩ | ⟨_, hg, _⟩ | ⟨_, hg, _⟩ <;> exact hg
theorem DN.at0 (h : DN r w1 tk L ([3, 4].map s) vs y) (h3 : s 3 = false) : w1.grownBy y (some r) ∧ RdI y r tk ∧ s 4 = false := by
  rcases h with ⟨eb, hg, h⟩ | ⟨eb, _⟩ | ⟨eb, _⟩
  · simp [h3] at eb
    exact ⟨hg, h, eb⟩
  all_goals simp [h3] at eb
theorem DN.at1 (h : DN r w1 tk L ([3, 4].map s) vs y) (h3 : s 3 = true) (h4 : s 4 = false) : w1.grownBy y (some r) ∧ ∃ (x : Nat) (q : List UInt8), PI.numB tk = some (x, q) ∧ vs 3 = .int .i64 (x : Int) ∧ RdI y r q ∧ x < 2097152 := by
  rcases h with ⟨eb, _⟩ | ⟨eb, hg, h⟩ | ⟨eb, _⟩
  · simp [h3] at eb
  · exact ⟨hg, h⟩
  · simp [h3, h4] at eb
theorem DN.at2 (h : DN r w1 tk L ([3, 4].map fun _ => true) vs y) : w1.grownBy y (some r) ∧ ∃ (x : Nat) (q : List UInt8), PI.numB tk = some (x, q) ∧ vs 4 = .int .i64 (L - (x : Int)) ∧ RdI y r q ∧ x < 2097152 := by
  rcases h with ⟨eb, _⟩ | ⟨eb, _⟩ | ⟨_, hg, h⟩
  · simp at eb
  · simp at eb
  · exact ⟨hg, h⟩
end

/-- the block of a row lies in the world -/
theorem own_lt {y : World} {B : Nat} {e : TypeId} {k m' : Nat} {v : Value} {xs : List Value} (h : y.ownsRow B e k v m' xs) : ∀ q, v.ownBlock = some q → q < y.heap.size := by
  intro q hq
  obtain ⟨_, ⟨rfl, _⟩ | ⟨g, c, cur, rfl, _, hh, _⟩⟩ := h
  · cases hq
  · obtain rfl : g = q := Option.some.inj hq
    exact (Array.getElem?_eq_some_iff.1 hh).1

/-- a younger block is written: rows stay -/
theorem OwnG.put {W y y' : World} {B u : Nat} {v : Value} {l : List PC.Gat} (h : OwnG y B v l) (hW : OwnG W B v l) (hu : W.heap.size ≤ u) (hg : y.grownBy y' (some u)) : OwnG y' B v l :=
  ⟨World.ownsRow.kept h.1 hg (Or.inr fun e => by have := own_lt hW.1 _ e; omega), h.2⟩

/-- a circuit's variable is read whole -/
theorem wpList_ld8 {ops : Array Oper} {rest : List Oper} {o : Oper} {a : Act} {w : World} {Q : Exit → Act → World → Prop} (hg : o.guard = none) (x : Operand) (ho : o.op = .load 27 x) (g : Nat) (c0 c1 c2 c3 c4 c5 c6 c7 : Value)
    (hx : a.eval x = .pointer (some ⟨g, 0, none⟩)) (hR : RowL 27 w g [c0, c1, c2, c3, c4, c5, c6, c7]) (h : wpList Tryd.prog ops Q rest (a.put o.dst (.agg #[c0, c1, c2, c3, c4, c5, c6, c7])) w) : wpList Tryd.prog ops Q (o :: rest) a w :=
  wpList_plain hg fun K hK => by
    have hk := hK _ _ h
    obtain ⟨k0, k1, k2, k3, k4, k5, k6, k7⟩ := read8I hR
    clear hR h hK
    unfold Oper.wp execOp
    simp only [ho, hx]
    simp [go_sem, k0, k1, k2, k3, k4, k5, k6, k7]
    exact hk

theorem NamesI.some {r : Nat} {s : List UInt8} {w w' : World} {e : Ending} (h : NamesI r s w e w') {l : List PC.Nam} (hl : PR.names false PI.namB s = .some l) :
    ∃ v, e = .returned v ∧ OwnN w' w.heap.size v l ∧ w.grownBy w' (.some r) := by
  obtain ⟨hg, ⟨l', v, h1, rfl, h2, _⟩ | ⟨h1, _⟩⟩ := h
  · rw [hl] at h1
    obtain rfl := Option.some.inj h1
    exact ⟨v, rfl, h2, hg⟩
  · rw [hl] at h1; cases h1
theorem NamesI.none {r : Nat} {s : List UInt8} {w w' : World} {e : Ending} (h : NamesI r s w e w') (hl : PR.names false PI.namB s = .none) : e = .panicked synC ∧ w.grownBy w' (.some r) := by
  obtain ⟨hg, ⟨l', v, h1, _⟩ | ⟨_, rfl⟩⟩ := h
  · rw [hl] at h1; cases h1
  · exact ⟨rfl, hg⟩

end Go.Proofs.YtjcaejdokillgaaDoor
