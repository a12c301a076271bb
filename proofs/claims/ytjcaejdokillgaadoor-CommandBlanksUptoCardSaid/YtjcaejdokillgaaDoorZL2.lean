/- Rows of circuits' lists; octets in their block. -/
import Derived.Test.YtjcaejdokillgaaDoorZL1
import Derived.Laws.AppendOwnNone
import Derived.Test.YtjcaejdokillgaaDoorZP1
import Derived.Deep.Onto
namespace Go.Proofs.YtjcaejdokillgaaDoor
open Go.RowKit

/-- a slice value v of n elements, k cells each, reads as the cells cs -/
def Cells (w : World) (k : Nat) (v : Value) (n : Nat) (cs : List Value) : Prop :=
  ∃ ao cap, v = .slice ao n cap ∧ n ≤ cap ∧ cap ≤ 9223372036854775807 ∧ (ao = none → cap = 0) ∧ cs.length = n * k ∧
    ∀ j (hj : j < cs.length), ∃ b off, ao = some ⟨b, off, none⟩ ∧ b < w.heap.size ∧ w.cell? ⟨b, off + j, none⟩ = some cs[j]

theorem Cells.mono {w w' : World} {k : Nat} {v : Value} {n : Nat} {cs : List Value} (h : Cells w k v n cs) (hb : Below w.heap.size w w') : Cells w' k v n cs := by
  obtain ⟨ao, cap, rfl, h1, h2, h0, h3, h4⟩ := h
  refine ⟨ao, cap, rfl, h1, h2, h0, h3, fun j hj => ?_⟩
  obtain ⟨b, off, e, hlt, hc⟩ := h4 j hj
  exact ⟨b, off, e, Nat.lt_of_lt_of_le hlt hb.size, (hb.cell (p := ⟨b, off + j, none⟩) hlt).trans hc⟩

theorem Cells.nil (w : World) (k : Nat) : Cells w k (.slice none 0 0) 0 [] := ⟨none, 0, rfl, Nat.le_refl _, by omega, fun _ => rfl, by simp, fun j hj => by simp at hj⟩

/-- what the call owns reads -/
theorem Cells.of_owns {w : World} {B : Nat} {e : TypeId} {k : Nat} {v : Value} {n : Nat} {cs : List Value} (h : w.ownsRow B e k v n cs) : Cells w k v n cs := by
  obtain ⟨h1, h2⟩ := h
  rcases h2 with ⟨rfl, rfl⟩ | ⟨g, cap, cur, rfl, hb, hg, hc, hm, hs, ht⟩
  · exact ⟨none, 0, rfl, Nat.le_refl _, by omega, fun _ => rfl, h1, fun j hj => by rw [h1] at hj; simp at hj⟩
  · refine ⟨_, cap, rfl, hc, hm, fun h => by (cases h), h1, fun j hj => ⟨g, 0, rfl, (Array.getElem?_eq_some_iff.1 hg).1, ?_⟩⟩
    rw [Nat.zero_add, cell_of_row w g j cur e (0, 0) hg]
    have h3 : (cur.toList.take (n * k))[j]? = cs[j]? := by rw [ht]
    rw [List.getElem?_take, if_pos (by omega), List.getElem?_eq_getElem hj] at h3
    simpa using h3

/-- the first m elements -/
theorem Cells.cut {w : World} {k : Nat} {ao : Option Addr} {n cap : Nat} {cs : List Value} (h : Cells w k (.slice ao n cap) n cs) (m : Nat) (hm : m ≤ n) : Cells w k (.slice ao m cap) m (cs.take (m * k)) := by
  obtain ⟨ao', cap', e, h1, h2, h0, h3, h4⟩ := h
  cases e
  have hle : m * k ≤ n * k := Nat.mul_le_mul_right _ hm
  refine ⟨_, _, rfl, by omega, h2, h0, by rw [List.length_take, h3]; omega, fun j hj => ?_⟩
  obtain ⟨b, off, e, hlt, hc⟩ := h4 j (by rw [List.length_take] at hj; omega)
  exact ⟨b, off, e, hlt, by rw [hc]; simp⟩

/-- 'append(out, l...)': out is the call's own, l is read -/
theorem app_cells {P : Program} {ops : Array Oper} {rest : List Oper} {o : Oper} {a : Act} {Q : Exit → Act → World → Prop} {w : World} (hgd : o.guard = none) (s x : Operand) (t : TypeId)
    (ho : o.op = .call { callee := .builtin .append, args := #[s, x], argTypes := #[t, t] }) (e : TypeId) (k bytes : Nat) (z : Value) (ht : P.underlying t = some (.slice e))
    (hinfo : (P.info? e).map (fun i => (i.zero, i.size, i.bytes)) = some (some z, k, bytes)) (hzk : z.cells.size = k) (hk0 : 0 < k)
    {B0 : Nat} {w0 : World} {B : Nat} {v : Value} {n : Nat} {xs : List Value} (hs : a.eval s = v) (hown : w.ownsRow B e k v n xs) (hb : Below B0 w0 w) (hB : B0 ≤ B) (hBw : B ≤ w.heap.size)
    {u : Value} (hx : a.eval x = u) {m : Nat} {cs : List Value} (hc : Cells w k u m cs) (h1 : ∀ u ∈ cs, u.oneCell' = true)
    (hmax : n + m ≤ 9223372036854775807) (hroom : (n + m) * bytes ≤ 140737488355328)
    (h : ∀ v' w', w'.ownsRow B e k v' (n + m) (xs ++ cs) → Below B0 w0 w' → B ≤ w'.heap.size → w.grownBy w' v.ownBlock → wpList P ops Q rest (a.put o.dst v') w') :
    wpList P ops Q (o :: rest) a w := by
  obtain ⟨i, hi, hz0, hz1, hz2⟩ := info_parts hinfo
  obtain ⟨ao, cap, rfl, hn, hcap, h0, hcl, hcc⟩ := hc
  cases ao with
  | none =>
    have := h0 rfl
    subst this
    obtain rfl : m = 0 := by omega
    have hcs : cs = [] := List.eq_nil_of_length_eq_zero (by simpa using hcl)
    subst hcs
    refine wpList_append_own_none hgd s x t ho B e i k ht hi v n xs hs hown hx ?_
    exact h v w (by simpa using hown) hb hBw (World.grownBy.refl _ _)
  | some ad =>
    refine wpList_append_own w hgd s x t ho B e i z k bytes ht hi hz0 hz1 hz2 hzk hk0 v n xs hs hown ad m cap cs hx hcl ?_ h1 hmax hroom hBw ?_
    · intro j u' hj
      have hj' : j < cs.length := (List.getElem?_eq_some_iff.1 hj).1
      obtain ⟨b, off, e', _, hcell⟩ := hcc j hj'
      cases e'
      rw [show ((⟨b, off, none⟩ : Addr).add j) = ⟨b, off + j, none⟩ from by unfold Addr.add; split <;> simp_all]
      rw [hcell, ← hj, List.getElem?_eq_getElem hj']
    · intro v' w' hown' hgr _
      refine h v' w' hown' ?_ ?_ hgr
      · refine hb.grown hgr (by omega) fun j hj => ?_
        have := (hown.lt j hj).1
        omega
      · have := hgr.size
        omega

/-- a number that an int holds -/
def rng (x : Int) : Prop := -9223372036854775808 ≤ x ∧ x ≤ 9223372036854775807

def Ints (w : World) (v : Value) (l : List Int) : Prop := Cells w 1 v l.length (l.map (Value.int .i64)) ∧ ∀ x ∈ l, rng x

def Strs (w : World) (v : Value) (l : List (List UInt8)) : Prop := Cells w 1 v l.length (l.map fun s => Value.string ⟨s.toArray⟩) ∧ ∀ s ∈ l, s.length ≤ 9223372036854775807

def latCells (x : PC.Lat) : List Value := [.int .i64 x.lit, .int .i64 x.next, .int .i64 x.reset]
def gatCells (x : PC.Gat) : List Value := [.int .i64 x.lit, .int .i64 x.left, .int .i64 x.right]
def namCells (x : PC.Nam) : List Value := [.string ⟨x.kind.toArray⟩, .int .i64 x.at_, .string ⟨x.text.toArray⟩]

def Lats (w : World) (v : Value) (l : List PC.Lat) : Prop := Cells w 3 v l.length (l.flatMap latCells) ∧ ∀ x ∈ l, rng x.lit ∧ rng x.next ∧ rng x.reset
def Gats (w : World) (v : Value) (l : List PC.Gat) : Prop := Cells w 3 v l.length (l.flatMap gatCells) ∧ ∀ x ∈ l, rng x.lit ∧ rng x.left ∧ rng x.right
def Nams (w : World) (v : Value) (l : List PC.Nam) : Prop := Cells w 3 v l.length (l.flatMap namCells) ∧ ∀ x ∈ l, rng x.at_ ∧ x.kind.length ≤ 9223372036854775807 ∧ x.text.length ≤ 9223372036854775807

/-- lists of lists -/
def Lists (w : World) (v : Value) (l : List (List Int)) : Prop := ∃ vs : List Value, vs.length = l.length ∧ Cells w 1 v l.length vs ∧ ∀ i (h : i < l.length) (h' : i < vs.length), Ints w vs[i] l[i]

theorem Ints.mono {w w' : World} {v : Value} {l : List Int} (h : Ints w v l) (hb : Below w.heap.size w w') : Ints w' v l := ⟨Cells.mono h.1 hb, h.2⟩
theorem Strs.mono {w w' : World} {v : Value} {l : List (List UInt8)} (h : Strs w v l) (hb : Below w.heap.size w w') : Strs w' v l := ⟨Cells.mono h.1 hb, h.2⟩
theorem Lats.mono {w w' : World} {v : Value} {l : List PC.Lat} (h : Lats w v l) (hb : Below w.heap.size w w') : Lats w' v l := ⟨Cells.mono h.1 hb, h.2⟩
theorem Gats.mono {w w' : World} {v : Value} {l : List PC.Gat} (h : Gats w v l) (hb : Below w.heap.size w w') : Gats w' v l := ⟨Cells.mono h.1 hb, h.2⟩
theorem Nams.mono {w w' : World} {v : Value} {l : List PC.Nam} (h : Nams w v l) (hb : Below w.heap.size w w') : Nams w' v l := ⟨Cells.mono h.1 hb, h.2⟩
theorem Lists.mono {w w' : World} {v : Value} {l : List (List Int)} (h : Lists w v l) (hb : Below w.heap.size w w') : Lists w' v l := by
  obtain ⟨vs, h1, h2, h3⟩ := h
  exact ⟨vs, h1, h2.mono hb, fun i hi hi' => (h3 i hi hi').mono hb⟩

/-- the slice as the walk sees it -/
theorem Ints.open_ {w : World} {v : Value} {l : List Int} (h : Ints w v l) : ∃ ao cap, v = .slice ao l.length cap ∧ l.length ≤ cap ∧ cap ≤ 9223372036854775807 ∧
    ∀ j (hj : j < l.length), ∃ b off, ao = some ⟨b, off, none⟩ ∧ b < w.heap.size ∧ rng l[j] ∧ w.cell? ⟨b, off + j, none⟩ = some (.int .i64 l[j]) := by
  obtain ⟨⟨ao, cap, rfl, h1, h2, _, h3, h4⟩, hr⟩ := h
  refine ⟨ao, cap, rfl, h1, h2, fun j hj => ?_⟩
  obtain ⟨b, off, e, hlt, hc⟩ := h4 j (by simpa using hj)
  exact ⟨b, off, e, hlt, hr _ (List.getElem_mem hj), by simpa using hc⟩

theorem Strs.open_ {w : World} {v : Value} {l : List (List UInt8)} (h : Strs w v l) : ∃ ao cap, v = .slice ao l.length cap ∧ l.length ≤ cap ∧ cap ≤ 9223372036854775807 ∧
    ∀ j (hj : j < l.length), ∃ b off, ao = some ⟨b, off, none⟩ ∧ b < w.heap.size ∧ l[j].length ≤ 9223372036854775807 ∧ w.cell? ⟨b, off + j, none⟩ = some (.string ⟨l[j].toArray⟩) := by
  obtain ⟨⟨ao, cap, rfl, h1, h2, _, h3, h4⟩, hr⟩ := h
  refine ⟨ao, cap, rfl, h1, h2, fun j hj => ?_⟩
  obtain ⟨b, off, e, hlt, hc⟩ := h4 j (by simpa using hj)
  exact ⟨b, off, e, hlt, hr _ (List.getElem_mem hj), by simpa using hc⟩

theorem flatMap3_get {α : Type} (f : α → List Value) (hf : ∀ x, (f x).length = 3) (l : List α) : ∀ (j i : Nat) (hj : j < l.length), i < 3 → (l.flatMap f)[j * 3 + i]? = (f l[j])[i]? := by
  induction l with
  | nil => intro j i hj; simp at hj
  | cons x r ih =>
    intro j i hj hi
    rw [List.flatMap_cons]
    cases j with
    | zero => rw [List.getElem?_append_left (by rw [hf]; omega)]; simp
    | succ j =>
      rw [List.getElem?_append_right (by rw [hf]; omega), hf, show (j + 1) * 3 + i - 3 = j * 3 + i from by omega, ih j i (by simpa using hj) hi]
      simp

theorem cells3_open {α : Type} (f : α → List Value) (hf : ∀ x, (f x).length = 3) {w : World} {v : Value} {l : List α} (h : Cells w 3 v l.length (l.flatMap f)) :
    ∃ ao cap, v = .slice ao l.length cap ∧ l.length ≤ cap ∧ cap ≤ 9223372036854775807 ∧
      ∀ j (hj : j < l.length), ∃ b off, ao = some ⟨b, off, none⟩ ∧ b < w.heap.size ∧ ∀ i, i < 3 → w.cell? ⟨b, off + (j * 3 + i), none⟩ = (f l[j])[i]? := by
  obtain ⟨ao, cap, rfl, h1, h2, _, h3, h4⟩ := h
  refine ⟨ao, cap, rfl, h1, h2, fun j hj => ?_⟩
  obtain ⟨b, off, e, hlt, hc⟩ := h4 (j * 3) (by rw [h3]; omega)
  refine ⟨b, off, e, hlt, fun i hi => ?_⟩
  obtain ⟨b', off', e', _, hc'⟩ := h4 (j * 3 + i) (by rw [h3]; omega)
  rw [e] at e'
  cases e'
  rw [hc', ← flatMap3_get f hf l j i hj hi, List.getElem?_eq_getElem (by rw [h3]; omega)]

theorem Lats.open_ {w : World} {v : Value} {l : List PC.Lat} (h : Lats w v l) : ∃ ao cap, v = .slice ao l.length cap ∧ l.length ≤ cap ∧ cap ≤ 9223372036854775807 ∧
    ∀ j (hj : j < l.length), ∃ b off, ao = some ⟨b, off, none⟩ ∧ b < w.heap.size ∧ (rng l[j].lit ∧ rng l[j].next ∧ rng l[j].reset) ∧ w.cell? ⟨b, off + j * 3, none⟩ = some (.int .i64 l[j].lit) ∧ w.cell? ⟨b, off + j * 3 + 1, none⟩ = some (.int .i64 l[j].next) ∧ w.cell? ⟨b, off + j * 3 + 2, none⟩ = some (.int .i64 l[j].reset) := by
  obtain ⟨ao, cap, rfl, h1, h2, h3⟩ := cells3_open latCells (fun _ => rfl) h.1
  refine ⟨ao, cap, rfl, h1, h2, fun j hj => ?_⟩
  obtain ⟨b, off, e, hlt, hc⟩ := h3 j hj
  exact ⟨b, off, e, hlt, h.2 _ (List.getElem_mem hj), hc 0 (by omega), hc 1 (by omega), hc 2 (by omega)⟩

theorem Gats.open_ {w : World} {v : Value} {l : List PC.Gat} (h : Gats w v l) : ∃ ao cap, v = .slice ao l.length cap ∧ l.length ≤ cap ∧ cap ≤ 9223372036854775807 ∧
    ∀ j (hj : j < l.length), ∃ b off, ao = some ⟨b, off, none⟩ ∧ b < w.heap.size ∧ (rng l[j].lit ∧ rng l[j].left ∧ rng l[j].right) ∧ w.cell? ⟨b, off + j * 3, none⟩ = some (.int .i64 l[j].lit) ∧ w.cell? ⟨b, off + j * 3 + 1, none⟩ = some (.int .i64 l[j].left) ∧ w.cell? ⟨b, off + j * 3 + 2, none⟩ = some (.int .i64 l[j].right) := by
  obtain ⟨ao, cap, rfl, h1, h2, h3⟩ := cells3_open gatCells (fun _ => rfl) h.1
  refine ⟨ao, cap, rfl, h1, h2, fun j hj => ?_⟩
  obtain ⟨b, off, e, hlt, hc⟩ := h3 j hj
  exact ⟨b, off, e, hlt, h.2 _ (List.getElem_mem hj), hc 0 (by omega), hc 1 (by omega), hc 2 (by omega)⟩

theorem Nams.open_ {w : World} {v : Value} {l : List PC.Nam} (h : Nams w v l) : ∃ ao cap, v = .slice ao l.length cap ∧ l.length ≤ cap ∧ cap ≤ 9223372036854775807 ∧
    ∀ j (hj : j < l.length), ∃ b off, ao = some ⟨b, off, none⟩ ∧ b < w.heap.size ∧ (rng l[j].at_ ∧ l[j].kind.length ≤ 9223372036854775807 ∧ l[j].text.length ≤ 9223372036854775807) ∧ w.cell? ⟨b, off + j * 3, none⟩ = some (.string ⟨l[j].kind.toArray⟩) ∧ w.cell? ⟨b, off + j * 3 + 1, none⟩ = some (.int .i64 l[j].at_) ∧ w.cell? ⟨b, off + j * 3 + 2, none⟩ = some (.string ⟨l[j].text.toArray⟩) := by
  obtain ⟨ao, cap, rfl, h1, h2, h3⟩ := cells3_open namCells (fun _ => rfl) h.1
  refine ⟨ao, cap, rfl, h1, h2, fun j hj => ?_⟩
  obtain ⟨b, off, e, hlt, hc⟩ := h3 j hj
  exact ⟨b, off, e, hlt, h.2 _ (List.getElem_mem hj), hc 0 (by omega), hc 1 (by omega), hc 2 (by omega)⟩

theorem Lists.open_ {w : World} {v : Value} {l : List (List Int)} (h : Lists w v l) : ∃ ao cap, v = .slice ao l.length cap ∧ l.length ≤ cap ∧ cap ≤ 9223372036854775807 ∧
    ∀ j (hj : j < l.length), ∃ b off u, ao = some ⟨b, off, none⟩ ∧ b < w.heap.size ∧ w.cell? ⟨b, off + j, none⟩ = some u ∧ Ints w u l[j] := by
  obtain ⟨vs, hl, ⟨ao, cap, rfl, h1, h2, _, h3, h4⟩, h5⟩ := h
  refine ⟨ao, cap, rfl, h1, h2, fun j hj => ?_⟩
  obtain ⟨b, off, e, hlt, hc⟩ := h4 j (by omega)
  exact ⟨b, off, _, e, hlt, hc, h5 j hj (by omega)⟩

/-- eight cells at a block's head -/
def Box8 (w : World) (b : Nat) (x0 x1 x2 x3 x4 x5 x6 x7 : Value) : Prop :=
  w.cell? ⟨b, 0, none⟩ = some x0 ∧ w.cell? ⟨b, 1, none⟩ = some x1 ∧ w.cell? ⟨b, 2, none⟩ = some x2 ∧ w.cell? ⟨b, 3, none⟩ = some x3 ∧
  w.cell? ⟨b, 4, none⟩ = some x4 ∧ w.cell? ⟨b, 5, none⟩ = some x5 ∧ w.cell? ⟨b, 6, none⟩ = some x6 ∧ w.cell? ⟨b, 7, none⟩ = some x7

section
variable {w w' : World} {b : Nat} {x0 x1 x2 x3 x4 x5 x6 x7 : Value}
theorem Box8.new (w : World) (x0 x1 x2 x3 x4 x5 x6 x7 : Value) (t : TypeId) : Box8 (w.alloc (.cells #[x0, x1, x2, x3, x4, x5, x6, x7] t)) w.heap.size x0 x1 x2 x3 x4 x5 x6 x7 := by
  have h : ∀ j, (w.alloc (.cells #[x0, x1, x2, x3, x4, x5, x6, x7] t)).cell? ⟨w.heap.size, j, none⟩ = (#[x0, x1, x2, x3, x4, x5, x6, x7] : Array Value)[j]? := fun j => World.cell?_alloc_mark _ _ _ _ _
  exact ⟨h 0, h 1, h 2, h 3, h 4, h 5, h 6, h 7⟩
theorem Box8.lt (h : Box8 w b x0 x1 x2 x3 x4 x5 x6 x7) : b < w.heap.size := World.block_lt_of_cell? w _ h.1
theorem Box8.mono (h : Box8 w b x0 x1 x2 x3 x4 x5 x6 x7) (hb : Below w.heap.size w w') : Box8 w' b x0 x1 x2 x3 x4 x5 x6 x7 := by
  have hl := h.lt
  obtain ⟨h0, h1, h2, h3, h4, h5, h6, h7⟩ := h
  exact ⟨(hb.cell hl).trans h0, (hb.cell hl).trans h1, (hb.cell hl).trans h2, (hb.cell hl).trans h3, (hb.cell hl).trans h4, (hb.cell hl).trans h5, (hb.cell hl).trans h6, (hb.cell hl).trans h7⟩
theorem Box8.later (h : Box8 w b x0 x1 x2 x3 x4 x5 x6 x7) : (∀ x : Later w, x.at_.cell? ⟨b, 0, none⟩ = some x0) ∧ (∀ x : Later w, x.at_.cell? ⟨b, 1, none⟩ = some x1) ∧ (∀ x : Later w, x.at_.cell? ⟨b, 2, none⟩ = some x2) ∧
    (∀ x : Later w, x.at_.cell? ⟨b, 3, none⟩ = some x3) ∧ (∀ x : Later w, x.at_.cell? ⟨b, 4, none⟩ = some x4) ∧ (∀ x : Later w, x.at_.cell? ⟨b, 5, none⟩ = some x5) ∧ (∀ x : Later w, x.at_.cell? ⟨b, 6, none⟩ = some x6) ∧ (∀ x : Later w, x.at_.cell? ⟨b, 7, none⟩ = some x7) := by
  obtain ⟨h0, h1, h2, h3, h4, h5, h6, h7⟩ := h
  exact ⟨fun x => x.cell h0, fun x => x.cell h1, fun x => x.cell h2, fun x => x.cell h3, fun x => x.cell h4, fun x => x.cell h5, fun x => x.cell h6, fun x => x.cell h7⟩
end

/-- three cells at a block's head -/
def Box3 (w : World) (b : Nat) (x0 x1 x2 : Value) : Prop := w.cell? ⟨b, 0, none⟩ = some x0 ∧ w.cell? ⟨b, 1, none⟩ = some x1 ∧ w.cell? ⟨b, 2, none⟩ = some x2

section
variable {w w' : World} {b : Nat} {x0 x1 x2 : Value}
theorem Box3.new (w : World) (x0 x1 x2 : Value) (t : TypeId) : Box3 (w.alloc (.cells #[x0, x1, x2] t)) w.heap.size x0 x1 x2 := by
  have h : ∀ j, (w.alloc (.cells #[x0, x1, x2] t)).cell? ⟨w.heap.size, j, none⟩ = (#[x0, x1, x2] : Array Value)[j]? := fun j => World.cell?_alloc_mark _ _ _ _ _
  exact ⟨h 0, h 1, h 2⟩
theorem Box3.lt (h : Box3 w b x0 x1 x2) : b < w.heap.size := World.block_lt_of_cell? w _ h.1
theorem Box3.mono (h : Box3 w b x0 x1 x2) (hb : Below w.heap.size w w') : Box3 w' b x0 x1 x2 := by
  have hl := h.lt
  obtain ⟨h0, h1, h2⟩ := h
  exact ⟨(hb.cell hl).trans h0, (hb.cell hl).trans h1, (hb.cell hl).trans h2⟩
theorem Box3.later (h : Box3 w b x0 x1 x2) : (∀ x : Later w, x.at_.cell? ⟨b, 0, none⟩ = some x0) ∧ (∀ x : Later w, x.at_.cell? ⟨b, 1, none⟩ = some x1) ∧ (∀ x : Later w, x.at_.cell? ⟨b, 2, none⟩ = some x2) := by
  obtain ⟨h0, h1, h2⟩ := h
  exact ⟨fun x => x.cell h0, fun x => x.cell h1, fun x => x.cell h2⟩
end

/-- the eight cells of a circuit -/
structure CircParts (w : World) (c : PC.Circ) (vi vl vo vb vv va vn : Value) : Prop where
  inputs : Ints w vi c.inputs
  latches : Lats w vl c.latches
  outputs : Ints w vo c.outputs
  bads : Ints w vb c.bads
  invars : Ints w vv c.invars
  ands : Gats w va c.ands
  names : Nams w vn c.names

theorem CircParts.mono {w w' : World} {c : PC.Circ} {vi vl vo vb vv va vn : Value} (h : CircParts w c vi vl vo vb vv va vn) (hb : Below w.heap.size w w') : CircParts w' c vi vl vo vb vv va vn :=
  ⟨h.inputs.mono hb, h.latches.mono hb, h.outputs.mono hb, h.bads.mono hb, h.invars.mono hb, h.ands.mono hb, h.names.mono hb⟩

/-- a value that is a circuit -/
def IsCirc (w : World) (v : Value) (c : PC.Circ) : Prop :=
  ∃ vi vl vo vb vv va vn, v = .agg #[.int .i64 c.max, vi, vl, vo, vb, vv, va, vn] ∧ CircParts w c vi vl vo vb vv va vn ∧ rng c.max

theorem IsCirc.mono {w w' : World} {v : Value} {c : PC.Circ} (h : IsCirc w v c) (hb : Below w.heap.size w w') : IsCirc w' v c := by
  obtain ⟨vi, vl, vo, vb, vv, va, vn, rfl, hp, h1⟩ := h
  exact ⟨vi, vl, vo, vb, vv, va, vn, rfl, hp.mono hb, h1⟩

end Go.Proofs.YtjcaejdokillgaaDoor

namespace Go.Proofs.YtjcaejdokillgaaDoor
open Go.RowKit Go.Shelf
attribute [local simp] mk_get

/-- octets in their block -/
def OctsA (w : World) (v : Value) (l : List UInt8) : Prop :=
  ∃ g cap, v = .slice (some ⟨g, 0, none⟩) l.length cap ∧ l.length ≤ cap ∧ ∀ j (h : j < l.length), w.cell? ⟨g, j, none⟩ = some (.int .u8 (l[j].toNat : Int))

theorem OctsA.mono {w w' : World} {v : Value} {l : List UInt8} (h : OctsA w v l) (hb : Below w.heap.size w w') : OctsA w' v l := by
  obtain ⟨g, cap, e, hl, hc⟩ := h
  exact ⟨g, cap, e, hl, fun j hj => (hb.cell (World.block_lt_of_cell? w _ (hc j hj))).trans (hc j hj)⟩

theorem OctsA.conv (w : World) (l : List UInt8) (c : Nat) (e : TypeId) (fr : Nat × Nat) (c' : Nat) (hc : l.length ≤ c') : OctsA (w.alloc (.cells (bytesRow ⟨l.toArray⟩ c) e fr)) (.slice (some ⟨w.heap.size, 0, none⟩) l.length c') l := by
  refine ⟨_, _, rfl, hc, fun j hj => ?_⟩
  rw [World.cell?_alloc_mark, bytesRow_at _ _ _ (by simpa using hj)]
  simp

theorem OctsA.back {w : World} {v : Value} {l : List UInt8} (h : OctsA w v l) : (convert 47 9 v).run Tryd.prog w = .ok (.string ⟨l.toArray⟩) w := by
  obtain ⟨g, cap, rfl, _, hc⟩ := h
  exact run_convert_bytes_back w 47 9 5 ⟨g, 0, none⟩ cap l Tryd.underlying47 Tryd.underlying5 Tryd.underlying9 fun j hj => by
    rw [show ((⟨g, 0, none⟩ : Addr).add j) = ⟨g, j, none⟩ from by unfold Addr.add; split <;> simp_all]
    exact hc j hj

/-- a fresh row of ints -/
theorem ints_new (w : World) (l : List Int) (hl : l.length ≤ 1000) (hr : ∀ x ∈ l, rng x) (us : Array Value) (hu : us = (l.map (Value.int .i64)).toArray) : Ints (w.alloc (.cells us 3)) (.slice (some ⟨w.heap.size, 0, none⟩) l.length l.length) l := by
  subst hu
  refine ⟨⟨_, _, rfl, Nat.le_refl _, by omega, (fun h => by cases h), by simp, fun j hj => ⟨w.heap.size, 0, rfl, by simp, ?_⟩⟩, hr⟩
  rw [World.cell?_alloc_mark]
  simp

theorem row_slices {w : World} {v : Value} {c : PC.Circ} (h : IsCirc w v c) : ∃ i j l m o p b d vv ww a q n r, v = .agg #[.int .i64 c.max, .slice i c.inputs.length j, .slice l c.latches.length m, .slice o c.outputs.length p, .slice b c.bads.length d, .slice vv c.invars.length ww, .slice a c.ands.length q, .slice n c.names.length r] ∧
    CircParts w c (.slice i c.inputs.length j) (.slice l c.latches.length m) (.slice o c.outputs.length p) (.slice b c.bads.length d) (.slice vv c.invars.length ww) (.slice a c.ands.length q) (.slice n c.names.length r) := by
  obtain ⟨vi, vl, vo, vb, vv, va, vn, rfl, hp, _⟩ := h
  have hq := hp
  obtain ⟨i, j, rfl, _⟩ := hp.inputs.open_
  obtain ⟨l, m, rfl, _⟩ := hp.latches.open_
  obtain ⟨o, p, rfl, _⟩ := hp.outputs.open_
  obtain ⟨b, d, rfl, _⟩ := hp.bads.open_
  obtain ⟨v, ww, rfl, _⟩ := hp.invars.open_
  obtain ⟨a, q, rfl, _⟩ := hp.ands.open_
  obtain ⟨n, r, rfl, _⟩ := hp.names.open_
  exact ⟨i, j, l, m, o, p, b, d, v, ww, a, q, n, r, rfl, hq⟩

theorem Ints.at_ {w : World} {ao : Option Addr} {cap n : Nat} {l : List Int} (h : Ints w (.slice ao n cap) l) (k : Nat) (hk : k < l.length) :
    ∃ b o, ao = some ⟨b, o, none⟩ ∧ b < w.heap.size ∧ rng l[k] ∧ w.cell? ⟨b, o + k, none⟩ = some (.int .i64 l[k]) := by
  obtain ⟨ao', cap', e, _, _, h3⟩ := h.open_
  cases e
  exact h3 k hk
theorem Lats.at_ {w : World} {ao : Option Addr} {cap n : Nat} {l : List PC.Lat} (h : Lats w (.slice ao n cap) l) (j : Nat) (hj : j < l.length) :
    ∃ b off, ao = some ⟨b, off, none⟩ ∧ b < w.heap.size ∧ (rng l[j].lit ∧ rng l[j].next ∧ rng l[j].reset) ∧ w.cell? ⟨b, off + j * 3, none⟩ = some (.int .i64 l[j].lit) ∧ w.cell? ⟨b, off + j * 3 + 1, none⟩ = some (.int .i64 l[j].next) ∧ w.cell? ⟨b, off + j * 3 + 2, none⟩ = some (.int .i64 l[j].reset) := by
  obtain ⟨ao', cap', e, _, _, h3⟩ := h.open_
  cases e
  exact h3 j hj
theorem Gats.at_ {w : World} {ao : Option Addr} {cap n : Nat} {l : List PC.Gat} (h : Gats w (.slice ao n cap) l) (j : Nat) (hj : j < l.length) :
    ∃ b off, ao = some ⟨b, off, none⟩ ∧ b < w.heap.size ∧ (rng l[j].lit ∧ rng l[j].left ∧ rng l[j].right) ∧ w.cell? ⟨b, off + j * 3, none⟩ = some (.int .i64 l[j].lit) ∧ w.cell? ⟨b, off + j * 3 + 1, none⟩ = some (.int .i64 l[j].left) ∧ w.cell? ⟨b, off + j * 3 + 2, none⟩ = some (.int .i64 l[j].right) := by
  obtain ⟨ao', cap', e, _, _, h3⟩ := h.open_
  cases e
  exact h3 j hj
theorem Nams.at_ {w : World} {ao : Option Addr} {cap n : Nat} {l : List PC.Nam} (h : Nams w (.slice ao n cap) l) (j : Nat) (hj : j < l.length) :
    ∃ b off, ao = some ⟨b, off, none⟩ ∧ b < w.heap.size ∧ (rng l[j].at_ ∧ l[j].kind.length ≤ 9223372036854775807 ∧ l[j].text.length ≤ 9223372036854775807) ∧ w.cell? ⟨b, off + j * 3, none⟩ = some (.string ⟨l[j].kind.toArray⟩) ∧ w.cell? ⟨b, off + j * 3 + 1, none⟩ = some (.int .i64 l[j].at_) ∧ w.cell? ⟨b, off + j * 3 + 2, none⟩ = some (.string ⟨l[j].text.toArray⟩) := by
  obtain ⟨ao', cap', e, _, _, h3⟩ := h.open_
  cases e
  exact h3 j hj

theorem infoI' : (Tryd.prog.info? 3).map (fun i => (i.zero, i.size, i.bytes)) = some (some (.int .i64 0), 1, 8) := by kernel_rfl
def OwnI (w : World) (B : Nat) (v : Value) (l : List Int) : Prop := w.ownsRow B 3 1 v l.length (l.map (Value.int .i64)) ∧ ∀ x ∈ l, rng x
theorem owns_below' {w w' : World} {B : Nat} {e : TypeId} {k n : Nat} {v : Value} {xs : List Value} (h : w.ownsRow B e k v n xs) (hb : Below w.heap.size w w') : w'.ownsRow B e k v n xs :=
  h.kept ⟨hb.os, hb.tape, hb.output, hb.size, fun b hb' _ => hb.block b hb'⟩ (row := none) (by cases v.ownBlock <;> simp)
theorem OwnI.ints {w : World} {B : Nat} {v : Value} {l : List Int} (h : OwnI w B v l) : Ints w v l := ⟨Cells.of_owns h.1, h.2⟩
theorem OwnI.mono {w w' : World} {B : Nat} {v : Value} {l : List Int} (h : OwnI w B v l) (hb : Below w.heap.size w w') : OwnI w' B v l := ⟨owns_below' h.1 hb, h.2⟩
theorem OwnI.base {w : World} {B B' : Nat} {v : Value} {l : List Int} (h : OwnI w B v l) (hb : B' ≤ B) : OwnI w B' v l := ⟨World.ownsRow.mono h.1 hb, h.2⟩

theorem OwnI.kept {T : TypeId} {w w' : World} {B q : Nat} {v : Value} {l : List Int} {cs : List Value} (h : OwnI w B v l) (hg : w.grownBy w' (some q)) (hq : RowL T w q cs) (hne : 3 ≠ T) : OwnI w' B v l :=
  ⟨h.1.kept hg (Or.inr fun e => hq.other h.1 hne e.symm), h.2⟩
theorem owns_other {T : TypeId} {w w' : World} {B q k : Nat} {e : TypeId} {v : Value} {m : Nat} {xs cs : List Value} (h : w.ownsRow B e k v m xs) (hg : w.grownBy w' (some q)) (hq : RowL T w q cs) (hne : e ≠ T) : w'.ownsRow B e k v m xs :=
  h.kept hg (Or.inr fun x => hq.other h hne x.symm)

end Go.Proofs.YtjcaejdokillgaaDoor
