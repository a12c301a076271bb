/- What a question among the arguments reads as, and what its bulk says. -/
import Derived.Test.YtbjioniefalgpaaFrameC2
import Derived.Test.YtbjioniefalgpaaWalkH3
import Derived.Test.YtbjioniefalgpaaRows
namespace Go.Proofs.Ytbjioniefalgpaa
open Go.ChangeShapes Go.WideShapes Go.RowKit

section
theorem bulk_pos {H : Type} (d : DataW H) : 1 ≤ Rows.uptoBulk d := by
  cases d with
  | lit l => cases l <;> simp [Rows.uptoBulk]
  | nil => simp [Rows.uptoBulk]
  | ptr d => simp [Rows.uptoBulk]
  | slice elems spare => simp [Rows.uptoBulk]
  | agg parts => simp [Rows.uptoBulk]
  | iface t d => simp [Rows.uptoBulk]
  | map entries => simp [Rows.uptoBulk]
  | held h => simp [Rows.uptoBulk]

theorem bulk_part {H : Type} {d : DataW H} {l : List (DataW H)} (h : d ∈ l) : Rows.uptoBulk d ≤ Rows.uptoBulkAll l := by
  induction l with
  | nil => cases h
  | cons x r ih =>
    simp only [Rows.uptoBulkAll]
    cases List.mem_cons.1 h with
    | inl e => subst e; omega
    | inr e => have := ih e; omega

theorem bulk_length {H : Type} (l : List (DataW H)) : l.length ≤ Rows.uptoBulkAll l := by
  induction l with
  | nil => simp [Rows.uptoBulkAll]
  | cons x r ih => have := bulk_pos x; simp only [Rows.uptoBulkAll, List.length_cons]; omega

variable {H : Type} {enc : TypeId × Value → H} {P : Program} {w : World} {spare : Nat → Bool} {held : Bool}

/-- a slice, element by element -/
theorem tr_slice2 {α : Type} [Inhabited α] {t e : TypeId} {k fuel : Nat} {cs : List Value} {x : DataW H × List MemPlace} (ht : P.underlying t = some (.slice e)) (hk : P.cellsOf e = k) (hk0 : 0 < k)
    (f : α → List Value) (ok : α → DataW H → Prop) (hf : ∀ y, (f y).length = k)
    (elem : ∀ (n : Nat) (cs' : List Value) (x' : DataW H × List MemPlace), DataW.trod enc P w 0 spare held n e cs' = some x' → ∃ y, cs' = f y ∧ ok y x'.1)
    (h : DataW.trod enc P w 0 spare held fuel t cs = some x) (hw : ∀ b o, w.cell? b = some o → b.block < w.heap.size) :
    ∃ (v : Value) (ys : List α), cs = [v] ∧ Cells w k v ys.length (ys.flatMap f) ∧ (∀ B, Wt P B t x.1 → ys.length * P.bytesOf e ≤ B ∧ ∀ y ∈ ys, ∃ d, ok y d ∧ Wt P B e d) ∧ (∀ y ∈ ys, ∃ d, ok y d) ∧ (x.1 = .nil ∧ ys = [] ∨ ∃ es sp, x.1 = .slice es sp ∧ es.length = ys.length ∧ ∀ y ∈ ys, ∃ d ∈ es, ok y d) := by
  subst hk
  rcases Go.Deep.open_slice ht h with ⟨rfl, rfl⟩ | ⟨a, len, cap, m, n, D, Pl, rfl, hb, hl, hm, hmm, rfl, hx⟩
  · exact ⟨_, [], rfl, Cells.nil _ _, fun B _ => ⟨by simp, fun y hy => by simp at hy⟩, (fun y hy => by simp at hy), .inl ⟨rfl, rfl⟩⟩
  · have hlm : len ≤ m := by rw [hmm]; split <;> omega
    obtain ⟨Y, hY⟩ := Go.Deep.choose_lt (α := α) (n := len) (p := fun i y => w.cells? 0 (a.add (i * P.cellsOf e)) (P.cellsOf e) = some (f y) ∧ ok y (D i)) (fun i hi => by
      obtain ⟨cs', h1, h2⟩ := hx i (by omega)
      obtain ⟨y, e1, e2⟩ := elem _ _ _ h2
      exact ⟨y, by rw [h1, e1], e2⟩)
    refine ⟨_, (List.range len).map Y, rfl, ?_, ?_, ?_, .inr ⟨_, _, rfl, by simp, fun y hy => ?_⟩⟩
    · refine ⟨some a, cap, by simp, by simpa using hl, hm, fun hh => by (cases hh), ?_, ?_⟩
      · rw [List.flatMap_map]
        have : ∀ l : List Nat, (l.flatMap fun i => f (Y i)).length = l.length * P.cellsOf e := by
          intro l
          induction l with
          | nil => simp
          | cons i r ih => rw [List.flatMap_cons, List.length_append, ih, hf, List.length_cons, Nat.succ_mul, Nat.add_comm]
        rw [this, List.length_range, List.length_map, List.length_range]
      · intro j hj
        have hj0 := hj
        rw [List.flatMap_map] at hj
        have hlen : ∀ l : List Nat, (l.flatMap fun i => f (Y i)).length = l.length * P.cellsOf e := by
          intro l
          induction l with
          | nil => simp
          | cons i r ih => rw [List.flatMap_cons, List.length_append, ih, hf, List.length_cons, Nat.succ_mul, Nat.add_comm]
        have hjl : j < len * P.cellsOf e := by rw [hlen, List.length_range] at hj; exact hj
        have hi : j / P.cellsOf e < len := by rw [Nat.div_lt_iff_lt_mul hk0]; exact hjl
        obtain ⟨hc, _⟩ := hY _ hi
        obtain ⟨_, hfl, hcc⟩ := World.cells?_some hc
        have hr := Nat.mod_lt j hk0
        have hcell := hcc _ hr
        rw [Go.Deep.add_add] at hcell
        have hdm : j / P.cellsOf e * P.cellsOf e + j % P.cellsOf e = j := by rw [Nat.mul_comm]; exact Nat.div_add_mod j _
        rw [hdm] at hcell
        have hget : ∀ (l : List Nat) (i r : Nat), i < l.length → r < P.cellsOf e → (l.flatMap fun i => f (Y i))[i * P.cellsOf e + r]? = (f (Y (l.getD i 0)))[r]? := by
          intro l
          induction l with
          | nil => intro i r hi; simp at hi
          | cons q l ih =>
            intro i r hi hr
            rw [List.flatMap_cons]
            cases i with
            | zero =>
              rw [Nat.zero_mul, Nat.zero_add, List.getElem?_append_left (by rw [hf]; exact hr)]
              rfl
            | succ i =>
              rw [List.getElem?_append_right (by rw [hf, Nat.succ_mul]; omega), hf, show (i + 1) * P.cellsOf e + r - P.cellsOf e = i * P.cellsOf e + r by rw [Nat.succ_mul]; omega]
              exact ih i r (by simpa using hi) hr
        have hg := hget (List.range len) (j / P.cellsOf e) (j % P.cellsOf e) (by simpa using hi) hr
        have hgd : (List.range len).getD (j / P.cellsOf e) 0 = j / P.cellsOf e := by simp [List.getD, hi]
        rw [hgd, hdm] at hg
        rw [← hg, ← List.flatMap_map, List.getElem?_eq_getElem hj0] at hcell
        have hspot : a.spot = none := by
          obtain ⟨_, _, h0⟩ := World.cells?_some (hY 0 (by omega)).1
          have h00 := h0 0 hk0
          rw [Nat.zero_mul] at h00
          have e0 : (a.add 0).add 0 = a := by simp [Addr.add]
          rw [e0] at h00
          obtain ⟨u, hu⟩ : ∃ u, w.cell? a = some u := by
            rw [h00]
            exact ⟨_, List.getElem?_eq_getElem (by rw [hf]; exact hk0)⟩
          cases hs : a.spot with
          | none => rfl
          | some s =>
            unfold World.cell? at hu
            split at hu
            · rw [hs] at hu; simp at hu
            · cases hu
        obtain ⟨b, off, sp⟩ := a
        simp only at hspot
        subst hspot
        rw [add_plain] at hcell
        exact ⟨b, off, rfl, hw _ _ hcell, hcell⟩
    · intro B hB
      have hB' : ∀ q ∈ (DataW.slice ((List.range len).map D) ((List.range (m - len)).map fun j => D (len + j)) : DataW H).weights P t, q ≤ B := hB
      simp only [DataW.weights, ht, List.mem_cons, List.mem_append] at hB'
      refine ⟨?_, fun y hy => ?_⟩
      · have := hB' _ (Or.inl rfl)
        simp only [List.length_map, List.length_range] at this ⊢
        exact Nat.le_trans (Nat.mul_le_mul_right _ (Nat.le_add_right _ _)) this
      · obtain ⟨i, hi, rfl⟩ := List.mem_map.1 hy
        have hi' := List.mem_range.1 hi
        exact ⟨D i, (hY i hi').2, fun q hq => hB' q (Or.inr (Or.inl (weightsAll_mem (List.mem_map.2 ⟨i, hi, rfl⟩) q hq)))⟩
    · intro y hy
      obtain ⟨i, hi, rfl⟩ := List.mem_map.1 hy
      exact ⟨D i, (hY i (List.mem_range.1 hi)).2⟩
    · obtain ⟨i, hi, rfl⟩ := List.mem_map.1 hy
      exact ⟨D i, List.mem_map.2 ⟨i, hi, rfl⟩, (hY i (List.mem_range.1 hi)).2⟩

theorem tr_ints2 {n : Nat} {cs : List Value} {x : DataW H × List MemPlace} (h : DataW.trod enc Try.prog w 0 spare held n 22 cs = some x) :
    ∃ v l, cs = [v] ∧ Ints w v l ∧ l.length ≤ Rows.uptoBulk x.1 := by
  obtain ⟨v, ys, rfl, hc, _, hok, hx⟩ := tr_slice2 (α := Int) Try.underlying22 cells_int (by decide) (fun y => [.int .i64 y]) (fun y _ => rng y) (fun _ => rfl)
    (fun n cs' x' h' => tr_int h') h block_lt
  refine ⟨v, ys, rfl, ⟨?_, fun y hy => (hok y hy).choose_spec⟩, ?_⟩
  · rw [flat1] at hc
    exact hc
  · rcases hx with ⟨_, rfl⟩ | ⟨es, sp, e, he, _⟩
    · simp
    · rw [e]
      have := bulk_length es
      simp only [Rows.uptoBulk]
      omega

theorem tr_lists2 {n : Nat} {cs : List Value} {x : DataW H × List MemPlace} (h : DataW.trod enc Try.prog w 0 spare held n 28 cs = some x) :
    ∃ v l, cs = [v] ∧ Lists w v l ∧ l.length ≤ Rows.uptoBulk x.1 ∧ ∀ a ∈ l, a.length ≤ Rows.uptoBulk x.1 := by
  obtain ⟨v, ys, rfl, hc, _, hok, hx⟩ := tr_slice2 (α := Value × List Int) (enc := enc) Try.underlying28 cells_ints (by decide) (fun y => [y.1]) (fun y d => Ints w y.1 y.2 ∧ y.2.length ≤ Rows.uptoBulk d) (fun _ => rfl)
    (fun n cs' x' h' => by
      obtain ⟨v, l, rfl, h1, h2⟩ := tr_ints2 h'
      exact ⟨(v, l), rfl, h1, h2⟩) h block_lt
  rw [flat1] at hc
  refine ⟨v, ys.map (·.2), rfl, ⟨ys.map (·.1), by simp, ?_, fun i h1 h2 => ?_⟩, ?_, ?_⟩
  · rw [List.length_map]; exact hc
  · simp only [List.getElem_map]
    obtain ⟨d, hd, _⟩ := hok (ys[i]'(by simpa using h1)) (List.getElem_mem _)
    exact hd
  · rw [List.length_map]
    rcases hx with ⟨_, rfl⟩ | ⟨es, sp, e, he, _⟩
    · simp
    · rw [e]
      have := bulk_length es
      simp only [Rows.uptoBulk]
      omega
  · intro a ha
    obtain ⟨y, hy, rfl⟩ := List.mem_map.1 ha
    rcases hx with ⟨_, rfl⟩ | ⟨es, sp, e, he, hm⟩
    · simp at hy
    · obtain ⟨d, hd, _, hl⟩ := hm y hy
      rw [e]
      have := bulk_part hd
      simp only [Rows.uptoBulk]
      omega

theorem cells_lists : Try.prog.cellsOf 28 = 1 := by kernel_rfl
theorem cells_quest : Try.prog.cellsOf 54 = 14 := by kernel_rfl

set_option maxRecDepth 10000 in
/-- a question among the arguments -/
theorem tr_question {n : Nat} {cs : List Value} {x : DataW H × List MemPlace} (h : DataW.trod enc Try.prog w 0 spare held n 54 cs = some x) (hb : Rows.uptoBulk x.1 ≤ 1048576) :
    ∃ q : Qst, IsQ w (.agg cs.toArray) q ∧ FitsQ q ∧ ∀ B, Wt Try.prog B 54 x.1 → q.c.ands.length * 24 ≤ B ∧ q.c.inputs.length * 8 ≤ B := by
  obtain ⟨xs, m, _, rfl, hl, hlen, hf⟩ := DataW.trod_struct Try.underlying54 h
  rw [cells_quest] at hl
  match xs, hlen with
  | [y0, y1, y2, y3, y4, y5, y6], _ =>
    match cs, hl with
    | [c0, c1, c2, c3, c4, c5, c6, c7, c8, c9, c10, c11, c12, c13], _ =>
      have f0 := hf 0 _ rfl
      have f1 := hf 1 _ rfl
      have f2 := hf 2 _ rfl
      have f3 := hf 3 _ rfl
      have f4 := hf 4 _ rfl
      have f5 := hf 5 _ rfl
      have f6 := hf 6 _ rfl
      simp [cells_int, cells_lists, cells_circ] at f0 f1 f2 f3 f4 f5 f6
      obtain ⟨c, e0, s0⟩ := tr_circ f0
      obtain ⟨v1, l1, e1, r1, s1, t1⟩ := tr_lists2 f1
      obtain ⟨v2, l2, e2, r2, s2, t2⟩ := tr_lists2 f2
      obtain ⟨v3, l3, e3, r3, s3, t3⟩ := tr_lists2 f3
      obtain ⟨bd, e4, r4⟩ := tr_int f4
      obtain ⟨dp, e5, r5⟩ := tr_int f5
      obtain ⟨bg, e6, r6⟩ := tr_int f6
      simp at e1 e2 e3 e4 e5 e6
      subst e1; subst e2; subst e3; subst e4; subst e5; subst e6
      simp only [List.map_cons, List.map_nil, Rows.uptoBulk, Rows.uptoBulkAll] at hb
      obtain ⟨vi, vl, vo, vb, vv, va, vn, ev, hp⟩ := e0
      simp at ev
      obtain ⟨rfl, rfl, rfl, rfl, rfl, rfl, rfl, rfl⟩ := ev
      refine ⟨⟨c, l1, l2, l3, bd, dp, bg⟩, ⟨_, _, _, _, _, _, _, _, _, _, rfl, ⟨_, _, _, _, _, _, _, rfl, hp⟩, r1, r2, r3, r4, r5, r6⟩, ⟨?_, ?_, ?_, ?_, ?_, ?_⟩, fun B hB => ?_⟩
      · show l1.length ≤ _; omega
      · show l2.length ≤ _; omega
      · show l3.length ≤ _; omega
      · intro a ha; have := t1 a ha; omega
      · intro a ha; have := t2 a ha; omega
      · intro a ha; have := t3 a ha; omega
      · refine s0 B fun q hq => hB q ?_
        simp only [DataW.weights, Try.underlying54, List.map_cons, List.map_nil, DataW.weightsEach, List.mem_append]
        simp [hq]

end
end Go.Proofs.Ytbjioniefalgpaa
