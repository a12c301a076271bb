/- Clauses that the call makes; contracts: Clause, right. -/
import Derived.Test.YtbjioniefalgpaaWalkT1
import Derived.Test.YtbjioniefalgpaaWalkC8
import Derived.Test.YtbjioniefalgpaaWalkR5
namespace Go.Proofs.Ytbjioniefalgpaa
open Go.RowKit Go.Shelf

theorem info24 : (Try.prog.info? 22).map (fun i => (i.zero, i.size, i.bytes)) = some (some (.slice none 0 0), 1, 24) := by kernel_rfl

/-- a slice of numbers in a block of its own -/
def RowI (w : World) (v : Value) (l : List Int) : Prop := w.ownsRow 0 3 1 v l.length (l.map (Value.int .i64)) ∧ ∀ x ∈ l, rng x

theorem RowI.mono {w w' : World} {v : Value} {l : List Int} (h : RowI w v l) (hb : Below w.heap.size w w') : RowI w' v l :=
  ⟨h.1.kept ⟨hb.os, hb.tape, hb.output, hb.size, fun b hb' _ => hb.block b hb'⟩ (row := none) (by cases v.ownBlock <;> simp), h.2⟩

theorem RowI.ints {w : World} {v : Value} {l : List Int} (h : RowI w v l) : Ints w v l := ⟨Cells.of_owns h.1, h.2⟩

/-- a block of numbers is no block of slices -/
theorem RowI.kept {w w' : World} {v : Value} {l : List Int} {B n : Nat} {vo : Value} {xs : List Value} (h : RowI w v l) (ho : w.ownsRow B 22 1 vo n xs) (hg : w.grownBy w' vo.ownBlock) : RowI w' v l := by
  refine ⟨h.1.kept hg ?_, h.2⟩
  rcases h.1.2 with ⟨rfl, _⟩ | ⟨g, cap, cur, rfl, _, hgg, _⟩
  · exact Or.inl rfl
  · right
    rcases ho.2 with ⟨rfl, _⟩ | ⟨g', cap', cur', rfl, _, hgg', _⟩
    · simp [Value.ownBlock]
    · simp only [Value.ownBlock, ne_eq, Option.some.injEq]
      intro e
      subst e
      rw [hgg] at hgg'
      injection hgg' with e1
      injection e1 with e2 e3
      exact absurd e3 (by decide)

/-- []int{..}, as it is made -/
theorem RowI.new (w : World) (l : List Int) (h : ∀ x ∈ l, rng x) (hl : l.length ≤ 9223372036854775807) :
    RowI (w.alloc (.cells (l.map (Value.int .i64)).toArray 3)) (.slice (some ⟨w.heap.size, 0, none⟩) l.length l.length) l := by
  refine ⟨⟨by simp, .inr ⟨w.heap.size, l.length, _, rfl, Nat.zero_le _, heap_new w _, Nat.le_refl _, hl, by simp, ?_⟩⟩, h⟩
  simp [List.take_of_length_le]

/-- slices of numbers, each in a block of its own -/
def RowsI (w : World) (vs : List Value) (ls : List (List Int)) : Prop := vs.length = ls.length ∧ ∀ j (h : j < vs.length) (h' : j < ls.length), RowI w vs[j] ls[j]

theorem RowsI.nil (w : World) : RowsI w [] [] := ⟨rfl, fun j h => by simp at h⟩
theorem RowsI.mono {w w' : World} {vs : List Value} {ls : List (List Int)} (h : RowsI w vs ls) (hb : Below w.heap.size w w') : RowsI w' vs ls :=
  ⟨h.1, fun j h1 h2 => (h.2 j h1 h2).mono hb⟩
theorem RowsI.kept {w w' : World} {vs : List Value} {ls : List (List Int)} {B n : Nat} {vo : Value} {xs : List Value} (h : RowsI w vs ls) (ho : w.ownsRow B 22 1 vo n xs) (hg : w.grownBy w' vo.ownBlock) : RowsI w' vs ls :=
  ⟨h.1, fun j h1 h2 => (h.2 j h1 h2).kept ho hg⟩
theorem RowsI.push {w : World} {vs : List Value} {ls : List (List Int)} {v : Value} {l : List Int} (h : RowsI w vs ls) (hv : RowI w v l) : RowsI w (vs ++ [v]) (ls ++ [l]) := by
  refine ⟨by simp [h.1], fun j h1 h2 => ?_⟩
  simp only [List.length_append, List.length_singleton] at h1 h2
  by_cases e : j < vs.length
  · rw [List.getElem_append_left e, List.getElem_append_left (by rw [← h.1]; exact e)]
    exact h.2 j e _
  · have e1 : j = vs.length := by omega
    subst e1
    rw [List.getElem_append_right (Nat.le_refl _), List.getElem_append_right (by rw [h.1]; exact Nat.le_refl _)]
    simp only [Nat.sub_self, List.getElem_cons_zero]
    simpa [h.1] using hv

/-- a [][]int that the call made -/
def OutI (w : World) (B : Nat) (v : Value) (ls : List (List Int)) : Prop := ∃ vs, w.ownsRow B 22 1 v ls.length vs ∧ RowsI w vs ls

theorem OutI.nil (w : World) (B : Nat) : OutI w B (.slice none 0 0) [] := ⟨[], World.ownsRow_nil _ _ _ _, RowsI.nil _⟩
theorem OutI.weaken {w : World} {B B' : Nat} {v : Value} {ls : List (List Int)} (h : OutI w B v ls) (hB : B' ≤ B) : OutI w B' v ls := by
  obtain ⟨vs, h1, h2⟩ := h
  refine ⟨vs, ⟨h1.1, ?_⟩, h2⟩
  rcases h1.2 with e | ⟨g, cap, cur, e1, e2, e3⟩
  · exact .inl e
  · exact .inr ⟨g, cap, cur, e1, Nat.le_trans hB e2, e3⟩
theorem OutI.mono {w w' : World} {B : Nat} {v : Value} {ls : List (List Int)} (h : OutI w B v ls) (hb : Below w.heap.size w w') : OutI w' B v ls := by
  obtain ⟨vs, h1, h2⟩ := h
  exact ⟨vs, h1.kept ⟨hb.os, hb.tape, hb.output, hb.size, fun b hb' _ => hb.block b hb'⟩ (row := none) (by cases v.ownBlock <;> simp), h2.mono hb⟩

theorem OutI.lists {w : World} {B : Nat} {v : Value} {ls : List (List Int)} (h : OutI w B v ls) : Lists w v ls := by
  obtain ⟨vs, h1, h2⟩ := h
  exact ⟨vs, h2.1, Cells.of_owns h1, fun j hj hj' => (h2.2 j (by omega) hj).ints⟩

theorem RowsI.append {w : World} {vs us : List Value} {ls ms : List (List Int)} (h : RowsI w vs ls) (k : RowsI w us ms) : RowsI w (vs ++ us) (ls ++ ms) := by
  refine ⟨by simp [h.1, k.1], fun j h1 h2 => ?_⟩
  have hl := h.1
  by_cases e : j < vs.length
  · rw [List.getElem_append_left e, List.getElem_append_left (by rw [← hl]; exact e)]
    exact h.2 j e _
  · rw [List.getElem_append_right (by omega), List.getElem_append_right (by omega)]
    have := k.2 (j - vs.length) (by simp at h1; omega) (by simp at h2; omega)
    simpa [hl] using this

theorem RowI.one_cell {w : World} {v : Value} {l : List Int} (h : RowI w v l) : v.oneCell' = true := by
  rcases h.1.2 with ⟨rfl, _⟩ | ⟨g, cap, cur, rfl, _⟩ <;> rfl

theorem RowI.slice {w : World} {v : Value} {l : List Int} (h : RowI w v l) : ∃ ao n c, v = .slice ao n c := by
  rcases h.1.2 with ⟨rfl, _⟩ | ⟨g, cap, cur, rfl, _⟩ <;> exact ⟨_, _, _, rfl⟩

theorem RowsI.one_cell {w : World} {vs : List Value} {ls : List (List Int)} (h : RowsI w vs ls) : ∀ u ∈ vs, u.oneCell' = true := by
  intro u hu
  obtain ⟨j, hj, rfl⟩ := List.getElem_of_mem hu
  exact (h.2 j hj (by rw [← h.1]; exact hj)).one_cell

/-- 'append(out, []int{..}, ..)' -/
theorem app_rows {ops : Array Oper} {rest : List Oper} {o : Oper} {a : Act} {Q : Exit → Act → World → Prop} {w : World} (hgd : o.guard = none) (s x : Operand)
    (ho : o.op = .call { callee := .builtin .append, args := #[s, x], argTypes := #[28, 28] })
    {B0 : Nat} {w0 : World} {B : Nat} {v : Value} {ls ms : List (List Int)} {us : Array Value} (hs : a.eval s = v) (hout : OutI w B v ls) (hrow : RowsI w us.toList ms) (hb : Below B0 w0 w) (hB : B0 ≤ B) (hBw : B ≤ w.heap.size)
    (m c : Nat) (hm : us.size = m) (hx : a.eval x = .slice (some ⟨w.heap.size, 0, none⟩) m c) (hroom : (ls.length + m) * 24 ≤ 140737488355328)
    (h : ∀ v' w', OutI w' B v' (ls ++ ms) → Below B0 w0 w' → B ≤ w'.heap.size → wpList Try.prog ops Q rest (a.put o.dst v') w') : wpList Try.prog ops Q (o :: rest) a (w.alloc (.cells us 22)) := by
  obtain ⟨vs, hown, hrows⟩ := hout
  refine app_new hgd s x 28 ho 22 1 24 (.slice none 0 0) Try.underlying28 info24 rfl (by decide) hs hown hb hB hBw us m c (by omega) hrow.one_cell hx (by omega) hroom ?_
  intro v' w' hown' hb' hB' hgr
  have hba : Below w.heap.size w (w.alloc (.cells us 22)) := (Below.refl _ _).alloc (Nat.le_refl _) _
  have h1 := (hrows.mono hba).kept (hown.alloc _) hgr
  have h2 := (hrow.mono hba).kept (hown.alloc _) hgr
  have hml : m = ms.length := by rw [← hrow.1]; simpa using hm.symm
  refine h v' w' ⟨vs ++ us.toList, ?_, h1.append h2⟩ hb' hB'
  rw [List.length_append, ← hml]
  exact hown'

theorem rng_litT (b l : Int) (h0 : 0 ≤ b) (h1 : b ≤ 262144) : rng (PC.litT b l) := by
  unfold rng PC.litT
  split <;> omega

set_option maxHeartbeats 2000000 in
theorem tClause_any (b : Int) (l : List Int) (v : Value) (w : World) (h0 : 0 ≤ b) (h1 : b ≤ 262144) (hv : Ints w v l) (hl : l.length * 8 ≤ 140737488351232) :
    Calls Try.prog 35 #[.int .i64 b, v] w fun e w' => ∃ u, e = .returned u ∧ RowI w' u (l.map (PC.litT b)) ∧ Below w.heap.size w w' := by
  have hA := fun w => tat_any b w h0 h1
  obtain ⟨ao, cap, rfl, hi1, hi2, hi3⟩ := hv.open_
  have HI := Lib.hid hi3
  clear hi3 hv
  obtain ⟨i, hi, hz0, hz1, hz2⟩ := info_parts Try.info3
  go_enter Try.func35, Try.ntmps35
  go_wp2_with (first | (go_at_call 51; refine (hA _).mono ?_; rintro e w1 ⟨rfl, rfl⟩) | (at_make; refine wpList_make_own w rfl _ _ 22 rfl w.heap.size 3 i (.int .i64 0) 1 Try.underlying22 hi hz0 hz1 .i64 .i64 _ l.length rfl rfl rfl (by rw [hz2]; omega) (by show _ ≤ 9223372036854775807; omega) (Nat.le_refl _) ?_; intro w1 hown1 hgr1))
  have hb1 : Below w.heap.size w w1 := (Below.refl _ _).grown hgr1 (Nat.le_refl _) (by intro k e; cases e)
  go_loopg [6, 16] l.length (fun gg s6 s16 wr => ∃ k : Nat, k ≤ l.length ∧ l.length - k ≤ gg ∧ s16 = .int .i64 k ∧ Below w.heap.size w wr ∧ Aside (wr.ownsRow w.heap.size 3 1 s6 k (((l.take k).map (PC.litT b)).map (Value.int .i64))))
  case atStart => exact ⟨0, Nat.zero_le _, by omega, rfl, hb1, by simpa [Aside] using hown1⟩
  case round =>
    obtain ⟨k, hk, hg, rfl, hbr, hown⟩ := hrel
    by_cases hlt : k < l.length
    · obtain ⟨b', off, rfl, hbs, hry, hc⟩ := HI.out k hlt
      have hmea : ∀ g : Nat, l.length - k ≤ g → l.length - (k + 1) < g := fun g h => by omega
      have hc := (hbr.cell hbs).trans hc
      have hstep : Hid ((l.take (k + 1)).map (PC.litT b) = (l.take k).map (PC.litT b) ++ [PC.litT b l[k]]) := by
        show _ = _
        rw [List.take_succ_eq_append_getElem hlt, List.map_append]; rfl
      generalize hy : l[k] = y at *
      have hltz : (k : Int) < (l.length : Int) := by omega
      have hL := fun w => tlit_any b (min y 4097) w h0 h1 (by unfold rng at *; omega) (by omega)
      rw [litT_min] at hL
      by_cases hc4 : 4097 < y
      · have e : min y 4097 = 4097 := by omega
        rw [e] at hL
        go_wp2_with (first | (go_at_call 34; refine (hL _).mono ?_; rintro e w2 ⟨rfl, rfl⟩) | (at_builtin; refine app_new rfl _ _ 22 rfl 3 1 8 _ Try.underlying22 Try.info3 rfl (by decide) (w0 := w) (B0 := w.heap.size) rfl hown.out hbr (Nat.le_refl _) hbr.size _ 1 1 rfl (by intro u hu; simp at hu; subst hu; rfl) rfl (by omega) (by omega) ?_; intro v3 w3 hown3 hb3 hbs3 hgr3))
        go_roundg (l.length - (k + 1))
        case measure => exact hmea _ hg
        case rel =>
          refine ⟨k + 1, by omega, by omega, by go_num, hb3, ?_⟩
          rw [hstep.out, List.map_append]
          exact hown3
      · have e : min y 4097 = y := by omega
        rw [e] at hL
        go_wp2_with (first | (go_at_call 34; refine (hL _).mono ?_; rintro e w2 ⟨rfl, rfl⟩) | (at_builtin; refine app_new rfl _ _ 22 rfl 3 1 8 _ Try.underlying22 Try.info3 rfl (by decide) (w0 := w) (B0 := w.heap.size) rfl hown.out hbr (Nat.le_refl _) hbr.size _ 1 1 rfl (by intro u hu; simp at hu; subst hu; rfl) rfl (by omega) (by omega) ?_; intro v3 w3 hown3 hb3 hbs3 hgr3))
        go_roundg (l.length - (k + 1))
        case measure => exact hmea _ hg
        case rel =>
          refine ⟨k + 1, by omega, by omega, by go_num, hb3, ?_⟩
          rw [hstep.out, List.map_append]
          exact hown3
    · have hltz : ¬ (k : Int) < (l.length : Int) := by omega
      obtain rfl : k = l.length := by omega
      go_wp2
      go_ret
      refine ⟨_, rfl, ⟨?_, ?_⟩, hbr⟩
      · have := hown.out
        rw [List.take_length] at this
        rw [List.length_map]
        exact ⟨this.1, by
          rcases this.2 with h | ⟨g, cap', cur, h1, h2, h3⟩
          · exact .inl h
          · exact .inr ⟨g, cap', cur, h1, Nat.zero_le _, h3⟩⟩
      · intro x hx
        obtain ⟨y, _, rfl⟩ := List.mem_map.1 hx
        exact rng_litT b y h0 h1

end Go.Proofs.Ytbjioniefalgpaa
