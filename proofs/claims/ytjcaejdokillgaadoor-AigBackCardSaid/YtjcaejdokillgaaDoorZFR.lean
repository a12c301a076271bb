/- The row's frame for a law that answers true and leaves old memory as it was. -/
import Derived.Test.YtjcaejdokillgaaDoorZL2
import Derived.Deep.Slices
import Derived.SizedLaws
import Derived.OpenShut
import Derived.Deep.Strs
import Derived.Test.YtjcaejdokillgaaDoorZL1
import Derived.ProofKit
namespace Go.Proofs.YtjcaejdokillgaaDoor
open Go.ChangeShapes Go.WideShapes Go.RowKit

section
variable {H : Type} {enc : TypeId × Value → H} {P : Program} {w : World} {spare : Nat → Bool} {held : Bool}

/-- all weights of a datum are at most B -/
def Wt (P : Program) (B : Nat) (t : TypeId) (d : DataW H) : Prop := ∀ n ∈ d.weights P t, n ≤ B

theorem weightsAll_mem {e : TypeId} {l : List (DataW H)} {d : DataW H} (h : d ∈ l) : ∀ n ∈ d.weights P e, n ∈ DataW.weightsAll P e l := by
  induction l with
  | nil => cases h
  | cons x r ih =>
    intro n hn
    simp only [DataW.weightsAll, List.mem_append]
    rcases List.mem_cons.1 h with e | e
    · subst e; exact Or.inl hn
    · exact Or.inr (ih e n hn)

/-- a slice, element by element -/
theorem tr_slice {α : Type} [Inhabited α] {t e : TypeId} {k fuel : Nat} {cs : List Value} {x : DataW H × List MemPlace} (ht : P.underlying t = some (.slice e)) (hk : P.cellsOf e = k) (hk0 : 0 < k)
    (f : α → List Value) (ok : α → DataW H → Prop) (hf : ∀ y, (f y).length = k)
    (elem : ∀ (n : Nat) (cs' : List Value) (x' : DataW H × List MemPlace), DataW.trod enc P w 0 spare held n e cs' = some x' → ∃ y, cs' = f y ∧ ok y x'.1)
    (h : DataW.trod enc P w 0 spare held fuel t cs = some x) (hw : ∀ b o, w.cell? b = some o → b.block < w.heap.size) :
    ∃ (v : Value) (ys : List α), cs = [v] ∧ Cells w k v ys.length (ys.flatMap f) ∧ (∀ B, Wt P B t x.1 → ys.length * P.bytesOf e ≤ B ∧ ∀ y ∈ ys, ∃ d, ok y d ∧ Wt P B e d) ∧ (∀ y ∈ ys, ∃ d, ok y d) := by
  subst hk
  rcases Go.Deep.open_slice ht h with ⟨rfl, rfl⟩ | ⟨a, len, cap, m, n, D, Pl, rfl, hb, hl, hm, hmm, rfl, hx⟩
  · exact ⟨_, [], rfl, Cells.nil _ _, fun B _ => ⟨by simp, fun y hy => by simp at hy⟩, fun y hy => by simp at hy⟩
  · have hlm : len ≤ m := by rw [hmm]; split <;> omega
    obtain ⟨Y, hY⟩ := Go.Deep.choose_lt (α := α) (n := len) (p := fun i y => w.cells? 0 (a.add (i * P.cellsOf e)) (P.cellsOf e) = some (f y) ∧ ok y (D i)) (fun i hi => by
      obtain ⟨cs', h1, h2⟩ := hx i (by omega)
      obtain ⟨y, e1, e2⟩ := elem _ _ _ h2
      exact ⟨y, by rw [h1, e1], e2⟩)
    refine ⟨_, (List.range len).map Y, rfl, ?_, ?_, ?_⟩
    · refine ⟨some a, cap, by simp, by simpa using hl, hm, fun hh => by (cases hh), ?_, ?_⟩
      · rw [List.flatMap_map]
        have : ∀ l : List Nat, (l.flatMap fun i => f (Y i)).length = l.length * P.cellsOf e := by
          intro l
          induction l with
          | nil => simp
          | cons i r ih => rw [List.flatMap_cons, List.length_append, ih, hf, List.length_cons, Nat.succ_mul, Nat.add_comm]
        rw [this, List.length_range, List.length_map, List.length_range]
      · intro j hj
        have hj0 := hj
        rw [List.flatMap_map] at hj
        have hlen : ∀ l : List Nat, (l.flatMap fun i => f (Y i)).length = l.length * P.cellsOf e := by
          intro l
          induction l with
          | nil => simp
          | cons i r ih => rw [List.flatMap_cons, List.length_append, ih, hf, List.length_cons, Nat.succ_mul, Nat.add_comm]
        have hjl : j < len * P.cellsOf e := by rw [hlen, List.length_range] at hj; exact hj
        have hi : j / P.cellsOf e < len := by rw [Nat.div_lt_iff_lt_mul hk0]; exact hjl
        obtain ⟨hc, _⟩ := hY _ hi
        obtain ⟨_, hfl, hcc⟩ := World.cells?_some hc
        have hr := Nat.mod_lt j hk0
        have hcell := hcc _ hr
        rw [Go.Deep.add_add] at hcell
        have hdm : j / P.cellsOf e * P.cellsOf e + j % P.cellsOf e = j := by rw [Nat.mul_comm]; exact Nat.div_add_mod j _
        rw [hdm] at hcell
        have hget : ∀ (l : List Nat) (i r : Nat), i < l.length → r < P.cellsOf e → (l.flatMap fun i => f (Y i))[i * P.cellsOf e + r]? = (f (Y (l.getD i 0)))[r]? := by
          intro l
          induction l with
          | nil => intro i r hi; simp at hi
          | cons q l ih =>
            intro i r hi hr
            rw [List.flatMap_cons]
            cases i with
            | zero =>
              rw [Nat.zero_mul, Nat.zero_add, List.getElem?_append_left (by rw [hf]; exact hr)]
              rfl
            | succ i =>
              rw [List.getElem?_append_right (by rw [hf, Nat.succ_mul]; omega), hf, show (i + 1) * P.cellsOf e + r - P.cellsOf e = i * P.cellsOf e + r by rw [Nat.succ_mul]; omega]
              exact ih i r (by simpa using hi) hr
        have hg := hget (List.range len) (j / P.cellsOf e) (j % P.cellsOf e) (by simpa using hi) hr
        have hgd : (List.range len).getD (j / P.cellsOf e) 0 = j / P.cellsOf e := by simp [List.getD, hi]
        rw [hgd, hdm] at hg
        rw [← hg, ← List.flatMap_map, List.getElem?_eq_getElem hj0] at hcell
        have hspot : a.spot = none := by
          obtain ⟨_, _, h0⟩ := World.cells?_some (hY 0 (by omega)).1
          have h00 := h0 0 hk0
          rw [Nat.zero_mul] at h00
          have e0 : (a.add 0).add 0 = a := by simp [Addr.add]
          rw [e0] at h00
          obtain ⟨u, hu⟩ : ∃ u, w.cell? a = some u := by
            rw [h00]
            exact ⟨_, List.getElem?_eq_getElem (by rw [hf]; exact hk0)⟩
          cases hs : a.spot with
          | none => rfl
          | some s =>
            unfold World.cell? at hu
            split at hu
            · rw [hs] at hu; simp at hu
            · cases hu
        obtain ⟨b, off, sp⟩ := a
        simp only at hspot
        subst hspot
        rw [add_plain] at hcell
        exact ⟨b, off, rfl, hw _ _ hcell, hcell⟩
    · intro B hB
      have hB' : ∀ q ∈ (DataW.slice ((List.range len).map D) ((List.range (m - len)).map fun j => D (len + j)) : DataW H).weights P t, q ≤ B := hB
      simp only [DataW.weights, ht, List.mem_cons, List.mem_append] at hB'
      refine ⟨?_, fun y hy => ?_⟩
      · have := hB' _ (Or.inl rfl)
        simp only [List.length_map, List.length_range] at this ⊢
        exact Nat.le_trans (Nat.mul_le_mul_right _ (Nat.le_add_right _ _)) this
      · obtain ⟨i, hi, rfl⟩ := List.mem_map.1 hy
        have hi' := List.mem_range.1 hi
        exact ⟨D i, (hY i hi').2, fun q hq => hB' q (Or.inr (Or.inl (weightsAll_mem (List.mem_map.2 ⟨i, hi, rfl⟩) q hq)))⟩
    · intro y hy
      obtain ⟨i, hi, rfl⟩ := List.mem_map.1 hy
      exact ⟨D i, (hY i (List.mem_range.1 hi)).2⟩

end
end Go.Proofs.YtjcaejdokillgaaDoor

namespace Go.Proofs.YtjcaejdokillgaaDoor
open Go.ChangeShapes Go.WideShapes Go.RowKit

theorem cells_int : Tryd.prog.cellsOf 3 = 1 := by kernel_rfl
theorem cells_string : Tryd.prog.cellsOf 9 = 1 := by kernel_rfl
theorem cells_ints : Tryd.prog.cellsOf 22 = 1 := by kernel_rfl
theorem cells_lats : Tryd.prog.cellsOf 23 = 1 := by kernel_rfl
theorem cells_gats : Tryd.prog.cellsOf 24 = 1 := by kernel_rfl
theorem cells_nams : Tryd.prog.cellsOf 25 = 1 := by kernel_rfl
theorem cells_lat : Tryd.prog.cellsOf 64 = 3 := by kernel_rfl
theorem cells_gat : Tryd.prog.cellsOf 66 = 3 := by kernel_rfl
theorem cells_nam : Tryd.prog.cellsOf 68 = 3 := by kernel_rfl
theorem cells_circ : Tryd.prog.cellsOf 27 = 8 := by kernel_rfl
theorem bytes_int : Tryd.prog.bytesOf 3 = 8 := by kernel_rfl
theorem bytes_ints : Tryd.prog.bytesOf 22 = 24 := by kernel_rfl
theorem bytes_gat : Tryd.prog.bytesOf 66 = 24 := by kernel_rfl

theorem flat1 {α β : Type} (f : α → β) (l : List α) : l.flatMap (fun y => [f y]) = l.map f := by
  induction l with
  | nil => rfl
  | cons y r ih => simp [List.flatMap_cons, ih]

section
variable {H : Type} {enc : TypeId × Value → H} {w : World} {spare : Nat → Bool} {held : Bool}

theorem block_lt {w : World} (b : Addr) (o : Value) (h : w.cell? b = some o) : b.block < w.heap.size := World.block_lt_of_cell? w b h

theorem tr_int {n : Nat} {cs : List Value} {x : DataW H × List MemPlace} (h : DataW.trod enc Tryd.prog w 0 spare held n 3 cs = some x) : ∃ y, cs = [.int .i64 y] ∧ rng y := by
  obtain ⟨y, rfl, _, hw⟩ := DataW.trod_int Tryd.underlying3 h
  exact ⟨y, rfl, bounds_i64 hw⟩

theorem tr_string {n : Nat} {cs : List Value} {x : DataW H × List MemPlace} (h : DataW.trod enc Tryd.prog w 0 spare held n 9 cs = some x) : ∃ s : List UInt8, cs = [.string ⟨s.toArray⟩] ∧ s.length ≤ 9223372036854775807 := by
  obtain ⟨s, rfl, _, hw⟩ := DataW.trod_string Tryd.underlying9 h
  refine ⟨s.data.toList, ?_, ?_⟩
  · simp
  · have : s.size ≤ 9223372036854775807 := hw
    simpa using this

theorem tr_ints {n : Nat} {cs : List Value} {x : DataW H × List MemPlace} (h : DataW.trod enc Tryd.prog w 0 spare held n 22 cs = some x) :
    ∃ v l, cs = [v] ∧ Ints w v l ∧ ∀ B, Wt Tryd.prog B 22 x.1 → l.length * 8 ≤ B := by
  obtain ⟨v, ys, rfl, hc, hB, hok⟩ := tr_slice (α := Int) Tryd.underlying22 cells_int (by decide) (fun y => [.int .i64 y]) (fun y _ => rng y) (fun _ => rfl)
    (fun n cs' x' h' => tr_int h') h block_lt
  refine ⟨v, ys, rfl, ⟨?_, fun y hy => (hok y hy).choose_spec⟩, fun B hb => ?_⟩
  · rw [flat1] at hc
    exact hc
  · have := (hB B hb).1
    rw [bytes_int] at this
    exact this

theorem tr_lats {n : Nat} {cs : List Value} {x : DataW H × List MemPlace} (h : DataW.trod enc Tryd.prog w 0 spare held n 23 cs = some x) : ∃ v l, cs = [v] ∧ Lats w v l := by
  obtain ⟨v, ys, rfl, hc, hB, hok⟩ := tr_slice (α := PC.Lat) Tryd.underlying23 cells_lat (by decide) latCells (fun y _ => rng y.lit ∧ rng y.next ∧ rng y.reset) (fun _ => rfl)
    (fun n cs' x' h' => by
      obtain ⟨y0, y1, y2, m, _, hl, h0, h1, h2⟩ := Go.Deep.trod_struct3 Tryd.underlying64 h'
      rw [cells_lat] at hl
      rw [cells_int] at h0 h1 h2
      match cs', hl with
      | [a, b, d], _ =>
        obtain ⟨z0, e0, r0⟩ := tr_int h0
        obtain ⟨z1, e1, r1⟩ := tr_int h1
        obtain ⟨z2, e2, r2⟩ := tr_int h2
        simp at e0 e1 e2
        subst e0; subst e1; subst e2
        exact ⟨⟨z0, z1, z2⟩, rfl, r0, r1, r2⟩) h block_lt
  exact ⟨v, ys, rfl, hc, fun y hy => (hok y hy).choose_spec⟩

theorem tr_gats {n : Nat} {cs : List Value} {x : DataW H × List MemPlace} (h : DataW.trod enc Tryd.prog w 0 spare held n 24 cs = some x) :
    ∃ v l, cs = [v] ∧ Gats w v l ∧ ∀ B, Wt Tryd.prog B 24 x.1 → l.length * 24 ≤ B := by
  obtain ⟨v, ys, rfl, hc, hB, hok⟩ := tr_slice (α := PC.Gat) Tryd.underlying24 cells_gat (by decide) gatCells (fun y _ => rng y.lit ∧ rng y.left ∧ rng y.right) (fun _ => rfl)
    (fun n cs' x' h' => by
      obtain ⟨y0, y1, y2, m, _, hl, h0, h1, h2⟩ := Go.Deep.trod_struct3 Tryd.underlying66 h'
      rw [cells_gat] at hl
      rw [cells_int] at h0 h1 h2
      match cs', hl with
      | [a, b, d], _ =>
        obtain ⟨z0, e0, r0⟩ := tr_int h0
        obtain ⟨z1, e1, r1⟩ := tr_int h1
        obtain ⟨z2, e2, r2⟩ := tr_int h2
        simp at e0 e1 e2
        subst e0; subst e1; subst e2
        exact ⟨⟨z0, z1, z2⟩, rfl, r0, r1, r2⟩) h block_lt
  refine ⟨v, ys, rfl, ⟨hc, fun y hy => (hok y hy).choose_spec⟩, fun B hb => ?_⟩
  have := (hB B hb).1
  rw [bytes_gat] at this
  exact this

theorem tr_nams {n : Nat} {cs : List Value} {x : DataW H × List MemPlace} (h : DataW.trod enc Tryd.prog w 0 spare held n 25 cs = some x) : ∃ v l, cs = [v] ∧ Nams w v l := by
  obtain ⟨v, ys, rfl, hc, hB, hok⟩ := tr_slice (α := PC.Nam) Tryd.underlying25 cells_nam (by decide) namCells (fun y _ => rng y.at_ ∧ y.kind.length ≤ 9223372036854775807 ∧ y.text.length ≤ 9223372036854775807) (fun _ => rfl)
    (fun n cs' x' h' => by
      obtain ⟨y0, y1, y2, m, _, hl, h0, h1, h2⟩ := Go.Deep.trod_struct3 Tryd.underlying68 h'
      rw [cells_nam] at hl
      simp only [cells_int, cells_string] at h0 h1 h2
      match cs', hl with
      | [a, b, d], _ =>
        obtain ⟨z0, e0, r0⟩ := tr_string h0
        obtain ⟨z1, e1, r1⟩ := tr_int h1
        obtain ⟨z2, e2, r2⟩ := tr_string h2
        simp at e0 e1 e2
        subst e0; subst e1; subst e2
        exact ⟨⟨z0, z1, z2⟩, rfl, r1, r0, r2⟩) h block_lt
  exact ⟨v, ys, rfl, hc, fun y hy => (hok y hy).choose_spec⟩

set_option maxRecDepth 10000 in
/-- a circuit among the arguments -/
theorem tr_circ {n : Nat} {cs : List Value} {x : DataW H × List MemPlace} (h : DataW.trod enc Tryd.prog w 0 spare held n 27 cs = some x) :
    ∃ c : PC.Circ, IsCirc w (.agg cs.toArray) c ∧ ∀ B, Wt Tryd.prog B 27 x.1 → c.ands.length * 24 ≤ B ∧ c.inputs.length * 8 ≤ B := by
  obtain ⟨xs, m, _, rfl, hl, hlen, hf⟩ := DataW.trod_struct Tryd.underlying27 h
  rw [cells_circ] at hl
  match xs, hlen with
  | [y0, y1, y2, y3, y4, y5, y6, y7], _ =>
    match cs, hl with
    | [c0, c1, c2, c3, c4, c5, c6, c7], _ =>
      have f0 := hf 0 _ rfl
      have f1 := hf 1 _ rfl
      have f2 := hf 2 _ rfl
      have f3 := hf 3 _ rfl
      have f4 := hf 4 _ rfl
      have f5 := hf 5 _ rfl
      have f6 := hf 6 _ rfl
      have f7 := hf 7 _ rfl
      simp [cells_int, cells_ints, cells_lats, cells_gats, cells_nams] at f0 f1 f2 f3 f4 f5 f6 f7
      obtain ⟨mx, e0, r0⟩ := tr_int f0
      obtain ⟨v1, l1, e1, r1, s1⟩ := tr_ints f1
      obtain ⟨v2, l2, e2, r2⟩ := tr_lats f2
      obtain ⟨v3, l3, e3, r3, _⟩ := tr_ints f3
      obtain ⟨v4, l4, e4, r4, _⟩ := tr_ints f4
      obtain ⟨v5, l5, e5, r5, _⟩ := tr_ints f5
      obtain ⟨v6, l6, e6, r6, s6⟩ := tr_gats f6
      obtain ⟨v7, l7, e7, r7⟩ := tr_nams f7
      simp at e0 e1 e2 e3 e4 e5 e6 e7
      subst e0; subst e1; subst e2; subst e3; subst e4; subst e5; subst e6; subst e7
      refine ⟨⟨mx, l1, l2, l3, l4, l5, l6, l7⟩, ⟨_, _, _, _, _, _, _, rfl, ⟨r1, r2, r3, r4, r5, r6, r7⟩, r0⟩, fun B hb => ⟨s6 B fun q hq => hb q ?_, s1 B fun q hq => hb q ?_⟩⟩
      · simp only [DataW.weights, Tryd.underlying27, List.map_cons, List.map_nil, DataW.weightsEach, List.mem_append]
        simp [hq]
      · simp only [DataW.weights, Tryd.underlying27, List.map_cons, List.map_nil, DataW.weightsEach, List.mem_append]
        simp [hq]

end
end Go.Proofs.YtjcaejdokillgaaDoor

namespace Go.Proofs.YtjcaejdokillgaaDoor
open Go.ChangeShapes Go.WideShapes Go.ChangeAt Go.RowKit

section
variable {H : Type} {enc : TypeId × Value → H} {P : Program}

theorem trodAll_below (hl : laidOutB P = true) {W W' : World} (hb : Below W.heap.size W W') :
    ∀ (ts : List TypeId) (vs : List Value) (ds : List (DataW H)) (ps : List MemPlace), (∀ t ∈ ts, P.readableRec t = true ∧ t < P.types.size) →
      DataW.TrodAll enc P W 0 (fun _ => true) true ts vs ds ps → (∀ x ∈ ps, x.block < W.heap.size) →
      DataW.TrodAll enc P W' 0 (fun b => decide (b < W.heap.size)) true ts vs ds ps := by
  intro ts
  induction ts with
  | nil =>
    intro vs ds ps _ h _
    cases vs <;> cases ds <;> simp_all [DataW.TrodAll]
  | cons t ts ih =>
    intro vs ds ps ht h hlt
    obtain ⟨v, vs', d, ds', p, q, rfl, rfl, rfl, h1, h2⟩ := trodAll_cons h
    have hp := ht t (by simp)
    exact ⟨p, q, Below.trod hl hp.1 hp.2 h1 hb (fun x hx => hlt x (by simp [hx])), ih _ _ _ (fun t' h' => ht t' (by simp [h'])) h2 (fun x hx => hlt x (by simp [hx])), rfl⟩

theorem post_law {f : Func} {s : ChangeSpec} {ap : Bool} {W W' : World} {args : Array Value} {ds gs : List (DataW H)} {before : List MemPlace} (hl : laidOutB P = true)
    (hp : ∀ t ∈ f.params.toList, P.readableRec t = true ∧ t < P.types.size) (hv : s.vars = [])
    (hW : DataW.Whole enc P f.params.toList s.vars ap W args.toList ds gs before) (hb : Below W.heap.size W W')
    (hres : DataW.TrodAll enc P W' W.heap.size (fun _ => false) false f.resultTypes.toList (Value.resultList f.resultTypes.size (.bool true)) (s.fn H (ds ++ gs)).results [])
    (ha : (s.fn H (ds ++ gs)).args = ds) (hvv : (s.fn H (ds ++ gs)).vars = []) :
    s.post enc P f ap true false false W args (.bool true) W' := by
  have hlt : ∀ p ∈ before, p.block < W.heap.size := fun p hp => hW.lt p hp
  have hW' := hW
  obtain ⟨p, q, hA, hV, rfl, _, _⟩ := hW
  have hq : q = [] := by
    rw [hv] at hV
    cases gs with
    | nil => exact hV
    | cons g gs => exact hV.elim
  subst hq
  refine ⟨ds, gs, _, [], p, [], hW', hres, ?_, ?_, hb.frame _, fun h => by cases h⟩
  · rw [ha]
    exact trodAll_below hl hb _ _ _ _ hp hA (fun x hx => hlt x (by simp [hx]))
  · rw [hv, hvv]
    exact rfl
end

end Go.Proofs.YtjcaejdokillgaaDoor
