/- Contract: two frames' states are unlike. -/
import Derived.Test.YtbjioniefalgpaaWalkU3
namespace Go.Proofs.Ytbjioniefalgpaa
open Go.RowKit Go.Shelf
attribute [local simp] mk_get

/-- blocks of two kinds are two -/
theorem owns_apart {w : World} {B B' : Nat} {e e' : TypeId} {k k' : Nat} {v vo : Value} {n n' : Nat} {xs xs' : List Value} (h : w.ownsRow B e k v n xs) (ho : w.ownsRow B' e' k' vo n' xs') (hne : e ≠ e') :
    v.ownBlock = none ∨ v.ownBlock ≠ vo.ownBlock := by
  rcases h.2 with ⟨rfl, _⟩ | ⟨g, cap, cur, rfl, _, hgg, _⟩
  · exact Or.inl rfl
  · right
    rcases ho.2 with ⟨rfl, _⟩ | ⟨g', cap', cur', rfl, _, hgg', _⟩
    · simp [Value.ownBlock]
    · simp only [Value.ownBlock, ne_eq, Option.some.injEq]
      intro e
      subst e
      rw [hgg] at hgg'
      injection hgg' with e1
      injection e1 with e2 e3
      exact hne e3

/-- blocks of one kind with unlike heads are two -/
theorem owns_heads {w : World} {B B' : Nat} {e : TypeId} {v vo : Value} {n n' : Nat} {x y : Value} {xs xs' : List Value} (h : w.ownsRow B e 1 v n (x :: xs)) (ho : w.ownsRow B' e 1 vo n' (y :: xs')) (hne : x ≠ y) :
    v.ownBlock ≠ vo.ownBlock := by
  rcases h.2 with ⟨_, h0⟩ | ⟨g, cap, cur, rfl, _, hgg, _, _, _, ht⟩
  · have := h.1; simp [h0] at this
  · rcases ho.2 with ⟨_, h0⟩ | ⟨g', cap', cur', rfl, _, hgg', _, _, _, ht'⟩
    · have := ho.1; simp [h0] at this
    · simp only [Value.ownBlock, ne_eq, Option.some.injEq]
      intro e
      subst e
      rw [hgg] at hgg'
      injection hgg' with e1
      injection e1 with e2 e3
      subst e2
      have g1 : (cur.toList.take (n * 1))[0]? = some x := by rw [ht]; rfl
      have g2 : (cur.toList.take (n' * 1))[0]? = some y := by rw [ht']; rfl
      rw [List.getElem?_take] at g1 g2
      split at g1
      · split at g2
        · rw [g1] at g2; injection g2 with g2; exact hne g2
        · cases g2
      · cases g1

/-- the clauses lie beside the list of new variables -/
theorem OutI.beside {w w' : World} {B B' n : Nat} {v va : Value} {ls : List (List Int)} {xs : List Value} (h : OutI w B v ls) (ha : w.ownsRow B' 3 1 va n xs) (hg : w.grownBy w' va.ownBlock)
    (hneg : ∀ l ∈ ls, ∃ x r, l = x :: r ∧ x < 0) (hpos : va = .slice none 0 0 ∨ ∃ (y : Int) (r : List Value), xs = .int .i64 y :: r ∧ 0 < y) : OutI w' B v ls := by
  obtain ⟨vs, h1, h2⟩ := h
  refine ⟨vs, h1.kept hg (owns_apart h1 ha (by decide)), h2.1, fun j hj hj' => ?_⟩
  have hr := h2.2 j hj hj'
  refine ⟨hr.1.kept hg ?_, hr.2⟩
  rcases hpos with rfl | ⟨y, r, rfl, hy⟩
  · cases vs[j].ownBlock <;> simp [Value.ownBlock]
  · obtain ⟨x, r', e, hx⟩ := hneg _ (List.getElem_mem hj')
    right
    have h3 := hr.1
    rw [e] at h3
    exact owns_heads h3 ha (by intro e; injection e with _ e; omega)

/-- 'append(out, []int{..}, ..)', what has grown told -/
theorem app_rows_g {ops : Array Oper} {rest : List Oper} {o : Oper} {a : Act} {Q : Exit → Act → World → Prop} {w : World} (hgd : o.guard = none) (s x : Operand)
    (ho : o.op = .call { callee := .builtin .append, args := #[s, x], argTypes := #[28, 28] })
    {B0 : Nat} {w0 : World} {B : Nat} {v : Value} {ls ms : List (List Int)} {us : Array Value} (hs : a.eval s = v) (hout : OutI w B v ls) (hrow : RowsI w us.toList ms) (hb : Below B0 w0 w) (hB : B0 ≤ B) (hBw : B ≤ w.heap.size)
    (m c : Nat) (hm : us.size = m) (hx : a.eval x = .slice (some ⟨w.heap.size, 0, none⟩) m c) (hroom : (ls.length + m) * 24 ≤ 140737488355328)
    {B' n' : Nat} {va : Value} {xa : List Value} (hall : w.ownsRow B' 3 1 va n' xa)
    (h : ∀ v' w', OutI w' B v' (ls ++ ms) → Below B0 w0 w' → w'.ownsRow B' 3 1 va n' xa → wpList Try.prog ops Q rest (a.put o.dst v') w') : wpList Try.prog ops Q (o :: rest) a (w.alloc (.cells us 22)) := by
  obtain ⟨vs, hown, hrows⟩ := hout
  refine app_new hgd s x 28 ho 22 1 24 (.slice none 0 0) Try.underlying28 info24 rfl (by decide) hs hown hb hB hBw us m c (by omega) hrow.one_cell hx (by omega) hroom ?_
  intro v' w' hown' hb' hB' hgr
  have hba : Below w.heap.size w (w.alloc (.cells us 22)) := (Below.refl _ _).alloc (Nat.le_refl _) _
  have h1 := (hrows.mono hba).kept (hown.alloc _) hgr
  have h2 := (hrow.mono hba).kept (hown.alloc _) hgr
  have hml : m = ms.length := by rw [← hrow.1]; simpa using hm.symm
  refine h v' w' ⟨vs ++ us.toList, ?_, h1.append h2⟩ hb' ((hall.alloc (.cells us 22)).kept hgr (owns_apart (hall.alloc (.cells us 22)) (hown.alloc (.cells us 22)) (by decide)))
  rw [List.length_append, ← hml]
  exact hown'

namespace PC
def apRow (c : Circ) (a b aux : Int) (i : Nat) : List (List Int) := [[-(aux + i + 1), latL c a i, latL c b i], [-(aux + i + 1), -latL c a i, -latL c b i]]
def apRows (c : Circ) (a b aux : Int) (k : Nat) : List (List Int) := (List.range k).flatMap (apRow c a b aux)
def apAll (aux : Int) (k : Nat) : List Int := (List.range k).map fun (i : Nat) => aux + i + 1
theorem apRows_succ (c : Circ) (a b aux : Int) (k : Nat) : apRows c a b aux (k + 1) = apRows c a b aux k ++ apRow c a b aux k := by
  unfold apRows
  rw [List.range_succ, List.flatMap_append]; simp
theorem apRows_len (c : Circ) (a b aux : Int) (k : Nat) : (apRows c a b aux k).length = 2 * k := by
  induction k with
  | zero => rfl
  | succ k ih => rw [apRows_succ, List.length_append, ih]; simp [apRow]; omega
theorem apAll_succ (aux : Int) (k : Nat) : apAll aux (k + 1) = apAll aux k ++ [aux + k + 1] := by
  unfold apAll
  rw [List.range_succ, List.map_append]; rfl
theorem apartT_eq (c : Circ) (a b aux : Int) : apartT c a b aux = apRows c a b aux c.latches.length ++ [apAll aux c.latches.length] := rfl
theorem apRows_neg (c : Circ) (a b aux : Int) (h : 0 ≤ aux) (k : Nat) : ∀ l ∈ apRows c a b aux k, ∃ x r, l = x :: r ∧ x < 0 := by
  intro l hl
  unfold apRows at hl
  rw [List.mem_flatMap] at hl
  obtain ⟨i, _, hl⟩ := hl
  simp only [apRow, List.mem_cons, List.mem_nil_iff, or_false] at hl
  rcases hl with rfl | rfl
  · exact ⟨_, _, rfl, by omega⟩
  · exact ⟨_, _, rfl, by omega⟩
theorem apAll_pos (aux : Int) (h : 0 ≤ aux) (k : Nat) (hk : 0 < k) : ∃ (y : Int) (r : List Value), (apAll aux k).map (Value.int .i64) = .int .i64 y :: r ∧ 0 < y := by
  obtain ⟨j, rfl⟩ : ∃ j, k = j + 1 := ⟨k - 1, by omega⟩
  unfold apAll
  rw [List.range_succ_eq_map]
  exact ⟨_, _, rfl, by simp; omega⟩
end PC

theorem latL_small (c : PC.Circ) (fr : Int) (j : Nat) (h0 : 0 ≤ c.max) (h1 : c.max ≤ 2048) (g0 : 0 ≤ fr) (g1 : fr ≤ 81) : -264194 ≤ latL c fr j ∧ latL c fr j ≤ 264194 := by
  have := base_bounds fr c.max h0 h1 g0 g1
  exact PC.litT_small _ _ this.1 (by omega)

set_option maxRecDepth 100000 in
theorem uApart_bad (c : PC.Circ) (vc : Value) (a b aux : Int) (w : World) (h : IsCirc w vc c) (hck : PC.chk c = false) (ha : 0 ≤ a ∧ a ≤ 80) :
    Calls Try.prog 17 #[vc, .int .i64 a, .int .i64 b, .int .i64 aux] w fun e w' => e = .returned (.slice none 0 0) ∧ Below w.heap.size w w' := by
  have hR := fun w1 (hb : Below w.heap.size w w1) => uright_any c vc a w1 (h.mono hb)
  rw [hck, show (decide ((0 : Int) ≤ a) && decide (a ≤ 80) && false) = false from by simp] at hR
  obtain ⟨vi, vl, vo, vb, vv, va, vn, rfl, hp, hm⟩ := h
  clear hp
  have hb0 : Below w.heap.size w (w.alloc (.cells #[.int .i64 c.max, vi, vl, vo, vb, vv, va, vn] 27)) := (Below.refl _ _).alloc (Nat.le_refl _) _
  go_enter Try.func17, Try.ntmps17
  go_wp2_with (go_at_call 42; refine (hR _ (by exact hb0)).mono ?_; rintro e w1 ⟨rfl, hb1⟩)
  go_ret
  exact ⟨rfl, Below.of hb0 hb1⟩

set_option maxRecDepth 100000 in
set_option maxHeartbeats 8000000 in
theorem uApart_good (c : PC.Circ) (vc : Value) (a b aux : Int) (w : World) (h : IsCirc w vc c) (hck : PC.chk c = true) (ha : 0 ≤ a ∧ a ≤ 80) (hb : 0 ≤ b ∧ b ≤ 80) (hx : 0 ≤ aux ∧ aux ≤ 262144) :
    Calls Try.prog 17 #[vc, .int .i64 a, .int .i64 b, .int .i64 aux] w fun e w' => ∃ u, e = .returned u ∧ OutI w' w.heap.size u (PC.apartT c a b aux) ∧ Below w.heap.size w w' := by
  have hRt := Lib.hid (PC.right_of c hck)
  have hRa := fun w1 (hb : Below w.heap.size w w1) => uright_any c vc a w1 (h.mono hb)
  have hRb := fun w1 (hb : Below w.heap.size w w1) => uright_any c vc b w1 (h.mono hb)
  rw [hck, decide_eq_true ha.1, decide_eq_true ha.2] at hRa
  rw [hck, decide_eq_true hb.1, decide_eq_true hb.2] at hRb
  have hLa := Lib.hid fun j hj w1 (hbw : Below w.heap.size w w1) => ulatch_pos c vc a j w1 (h.mono hbw) hRt.out.max0 hRt.out.max1 ha.1 (by omega) hj
  have hLb := Lib.hid fun j hj w1 (hbw : Below w.heap.size w w1) => ulatch_pos c vc b j w1 (h.mono hbw) hRt.out.max0 hRt.out.max1 hb.1 (by omega) hj
  have hSa := Lib.hid fun j => latL_small c a j hRt.out.max0 hRt.out.max1 ha.1 (by omega)
  have hSb := Lib.hid fun j => latL_small c b j hRt.out.max0 hRt.out.max1 hb.1 (by omega)
  have hneg := Lib.hid fun k => PC.apRows_neg c a b aux hx.1 k
  have hpos := Lib.hid fun k hk => PC.apAll_pos aux hx.1 k hk
  obtain ⟨vi, vl, vo, vb, vv, va, vn, rfl, hp, hm⟩ := h
  obtain ⟨al, capl, rfl, hl1, hl2, hl3⟩ := hp.latches.open_
  clear hp hl3
  have hll : c.latches.length ≤ 64 := hRt.out.lats
  obtain ⟨hx0, hx1⟩ := hx
  have hn1 : ¬ aux < 0 := by omega
  have hn2 : ¬ 262144 < aux := by omega
  have hb0 : Below w.heap.size w (w.alloc (.cells #[.int .i64 c.max, vi, .slice al c.latches.length capl, vo, vb, vv, va, vn] 27)) := (Below.refl _ _).alloc (Nat.le_refl _) _
  have hbx := Lib.hid (Box8.new w (.int .i64 c.max) vi (.slice al c.latches.length capl) vo vb vv va vn 27)
  clear ha hb
  go_enter Try.func17, Try.ntmps17
  go_wp2_with (first | (go_at_call 42; have _ := hdone; refine (hRb _ (by exact hb01)).mono ?_; rintro e w2 ⟨rfl, hb2⟩; clear q0 q1 q2 q3 q4 q5 q6 q7; obtain ⟨q0, q1, q2, q3, q4, q5, q6, q7⟩ := (hbx.out.mono hb1).mono hb2) | (go_at_call 42; refine (hRa _ (by exact hb0)).mono ?_; rintro e w1 ⟨rfl, hb1⟩; have hdone : True := trivial; have hb01 := Below.of hb0 hb1; obtain ⟨q0, q1, q2, q3, q4, q5, q6, q7⟩ := hbx.out.mono hb1))
  have hbw2 := Below.of hb01 hb2
  have hbx2 := Lib.hid ((hbx.out.mono hb1).mono hb2)
  clear hRa hRb hb0 hbx hb1 hb2 hb01 q0 q1 q2 q3 q4 q5 q6 q7 hdone
  go_loopg [9, 10, 36] c.latches.length (fun gg s9 s10 s36 wr => ∃ k : Nat, k ≤ c.latches.length ∧ c.latches.length - k ≤ gg ∧ s36 = .int .i64 k ∧ Below w2.heap.size w2 wr ∧ Aside (OutI wr w2.heap.size s9 (PC.apRows c a b aux k)) ∧
    Aside (wr.ownsRow w2.heap.size 3 1 s10 k ((PC.apAll aux k).map (Value.int .i64))) ∧ Aside (k = 0 → s10 = .slice none 0 0))
  case atStart => exact ⟨0, Nat.zero_le _, by omega, rfl, Below.refl _ _, OutI.nil _ _, World.ownsRow_nil _ _ _ _, fun _ => rfl⟩
  case round =>
    obtain ⟨k, hk, hg, rfl, hbr, hout, hall, hnil⟩ := hrel
    by_cases hlt : k < c.latches.length
    · have hmea : ∀ g : Nat, c.latches.length - k ≤ g → c.latches.length - (k + 1) < g := fun g h => by omega
      have hs1 := Lib.hid (PC.apRows_succ c a b aux k)
      have hs2 := Lib.hid (PC.apAll_succ aux k)
      have hrl := PC.apRows_len c a b aux k
      have hLak := fun w1 hb => hLa.out k hlt w1 hb
      have hLbk := fun w1 hb => hLb.out k hlt w1 hb
      have hsa := hSa.out k
      have hsb := hSb.out k
      have hRow : Hid (PC.apRow c a b aux k = [[-(aux + k + 1), latL c a k, latL c b k], [-(aux + k + 1), -latL c a k, -latL c b k]]) := rfl
      generalize latL c a k = X at *
      generalize latL c b k = Y at *
      have hbwr := Lib.hid (Below.of hbw2 hbr)
      have hA : ∀ x1 : Later wr, _ := fun x1 => hLak x1.at_ (Below.of hbwr.out x1.below)
      have hB : ∀ x1 : Later wr, _ := fun x1 => hLbk x1.at_ (Below.of hbwr.out x1.below)
      clear hLak hLbk
      have hltz : (k : Int) < (c.latches.length : Int) := by omega
      obtain ⟨d, hd⟩ : ∃ d, d = aux + (k : Int) + 1 := ⟨_, rfl⟩
      rw [← hd] at hRow hs2
      have e1 : IntKind.i64.wrap (aux + (k : Int)) = aux + (k : Int) := IntWalk.i64_in _ (by omega)
      have e2 : IntKind.i64.wrap (aux + (k : Int) + 1) = aux + (k : Int) + 1 := IntWalk.i64_in _ (by omega)
      have hdb : 0 < d ∧ d ≤ 300000 := by omega
      go_wp2_with fail
      rw [← hd]
      have HD := Lib.hid hd
      clear e1 e2 hd
      obtain ⟨q0, q1, q2, q3, q4, q5, q6, q7⟩ := (hbx2.out.mono hbr).later
      refine wp_region_later (by kernel_rfl) (by kernel_rfl) ?_; (repeat (go_big_quiet_step (first | (go_at_call 43; with_reducible exact Calls.later (hA _)) | (go_at_call 43; with_reducible exact Calls.later (hB _))))); refine wpQuiet_nil ?_; rintro w3 ⟨⟨_, hb3⟩, rfl⟩
      obtain ⟨V, hV⟩ : ∃ V, V = w3 := ⟨_, rfl⟩
      subst hV
      clear q0 q1 q2 q3 q4 q5 q6 q7 hA hB
      have hbV := Below.of hbr hb3
      have hx1 : IntKind.i64.wrap (-X) = -X := IntWalk.i64_in _ (by omega)
      have hy1 : IntKind.i64.wrap (-Y) = -Y := IntWalk.i64_in _ (by omega)
      have hd1 : IntKind.i64.wrap (-d) = -d := IntWalk.i64_in _ (by omega)
      have hba1 : Below V.heap.size V (V.alloc (.cells #[.int .i64 (-d), .int .i64 X, .int .i64 Y] 3)) := (Below.refl _ _).alloc (Nat.le_refl _) _
      have hr1 := RowI.new V [-d, X, Y] (by intro x hx; simp at hx; unfold rng; rcases hx with rfl | rfl | rfl <;> omega) (by simp)
      have hr2 := RowI.new (V.alloc (.cells #[.int .i64 (-d), .int .i64 X, .int .i64 Y] 3)) [-d, -X, -Y] (by intro x hx; simp at hx; unfold rng; rcases hx with rfl | rfl | rfl <;> omega) (by simp)
      obtain ⟨V2, hV2⟩ : ∃ V2, V2 = (V.alloc (.cells #[.int .i64 (-d), .int .i64 X, .int .i64 Y] 3)).alloc (.cells #[.int .i64 (-d), .int .i64 (-X), .int .i64 (-Y)] 3) := ⟨_, rfl⟩
      have hba2 : Below (V.alloc (.cells #[.int .i64 (-d), .int .i64 X, .int .i64 Y] 3)).heap.size (V.alloc (.cells #[.int .i64 (-d), .int .i64 X, .int .i64 Y] 3)) V2 := by rw [hV2]; exact (Below.refl _ _).alloc (Nat.le_refl _) _
      have hbV2 := Lib.hid (Below.of (Below.of hbV hba1) hba2)
      have hr2 : RowI V2 (.slice (some ⟨(V.alloc (.cells #[.int .i64 (-d), .int .i64 X, .int .i64 Y] 3)).heap.size, 0, none⟩) 3 3) [-d, -X, -Y] := by rw [hV2]; exact hr2
      rw [World.size_alloc] at hr2
      have hrows := Lib.hid (((RowsI.nil V2).push (hr1.mono hba2)).push hr2)
      have hout2 := Lib.hid (((hout.out.mono hb3).mono hba1).mono hba2)
      have hall2 : Hid (V2.ownsRow w2.heap.size 3 1 u10 k ((PC.apAll aux k).map (Value.int .i64))) := by
        have h0 := hall.out.kept ⟨hb3.os, hb3.tape, hb3.output, hb3.size, fun b hb' _ => hb3.block b hb'⟩ (row := none) (by rcases hall.out.2 with ⟨rfl, _⟩ | ⟨_, _, _, rfl, _⟩ <;> simp [Value.ownBlock])
        rw [hV2]
        exact (h0.alloc _).alloc _
      have hV2s : V2.heap.size = V.heap.size + 1 + 1 := by rw [hV2]; simp
      have hng := Lib.hid (show ∀ l ∈ PC.apRows c a b aux k ++ [[-d, X, Y], [-d, -X, -Y]], ∃ x r, l = x :: r ∧ x < 0 from by
        have := hneg.out (k + 1)
        rw [hs1.out, hRow.out] at this
        exact this)
      have hps := Lib.hid (show u10 = .slice none 0 0 ∨ ∃ (y : Int) (r : List Value), (PC.apAll aux k).map (Value.int .i64) = .int .i64 y :: r ∧ 0 < y from by
        by_cases h0 : k = 0
        · exact Or.inl (hnil.out h0)
        · exact Or.inr (hpos.out k (by omega)))
      go_wp2_with (first | (at_builtin; rw [← hV2]; refine app_rows_g rfl _ _ rfl (w0 := w2) (B0 := w2.heap.size) rfl hout2.out (us := #[.slice (some ⟨V.heap.size, 0, none⟩) 3 3, .slice (some ⟨V.heap.size + 1, 0, none⟩) 3 3]) (ms := [[-d, X, Y], [-d, -X, -Y]]) (by exact hrows.out) hbV2.out (Nat.le_refl _) hbV2.out.size 2 2 rfl (by rw [hV2s]; rfl) (by rw [hrl]; omega) hall2.out ?_; intro v5 w5 hout5 hb5 hall5; have hout5a := Lib.hid (hout5.mono ((Below.refl _ _).alloc (Nat.le_refl _) (.cells #[.int .i64 d] 3))); have hall5a := Lib.hid (hall5.alloc (.cells #[.int .i64 d] 3)); have hall5 := Lib.hid hall5) | (at_builtin; refine app_new rfl _ _ 22 rfl 3 1 8 _ Try.underlying22 Try.info3 rfl (by decide) (w0 := w2) (B0 := w2.heap.size) rfl hall5.out hb5 (Nat.le_refl _) hb5.size _ 1 1 rfl (by intro u hu; simp at hu; subst hu; rfl) rfl (by omega) (by omega) ?_; intro v6 w6 hown6 hb6 hbs6 hgr6; have hout6 := Lib.hid (hout5a.out.beside hall5a.out hgr6 hng.out hps.out); have hown6 := Lib.hid hown6; clear hgr6))
      go_roundg (c.latches.length - (k + 1))
      case measure => exact hmea _ hg
      case rel =>
        refine ⟨k + 1, by omega, by omega, by go_num, hb6, ?_, ?_, fun h => by omega⟩
        · rw [hs1.out, hRow.out]; exact hout6.out
        · rw [hs2.out, List.map_append]; exact hown6.out
    · have hltz : ¬ (k : Int) < (c.latches.length : Int) := by omega
      obtain rfl : k = c.latches.length := by omega
      have hrl := PC.apRows_len c a b aux c.latches.length
      have hallR : Hid (RowI wr u10 (PC.apAll aux c.latches.length)) := by
        refine ⟨⟨by simp [PC.apAll], ?_⟩, fun x hx => ?_⟩
        · have hl : (PC.apAll aux c.latches.length).length = c.latches.length := by simp [PC.apAll]
          rw [hl]
          rcases hall.out.2 with h | ⟨g, cap', cur, h1, h2, h3⟩
          · exact .inl h
          · exact .inr ⟨g, cap', cur, h1, Nat.zero_le _, h3⟩
        · unfold PC.apAll at hx
          obtain ⟨i, hi, rfl⟩ := List.mem_map.1 hx
          have := List.mem_range.1 hi
          unfold rng; omega
      have hrows := Lib.hid ((RowsI.nil _).push hallR.out)
      obtain ⟨ao, n2, c2, hu10⟩ := hallR.out.slice
      subst hu10
      go_wp2_with (at_builtin; refine app_rows rfl _ _ rfl (w0 := w2) (B0 := w2.heap.size) rfl hout.out (us := #[.slice ao n2 c2]) (ms := [PC.apAll aux c.latches.length]) (by exact hrows.out) hbr (Nat.le_refl _) hbr.size 1 1 rfl rfl (by rw [hrl]; omega) ?_; intro v5 w5 hout5 hb5 hbs5)
      go_ret
      exact ⟨_, rfl, by rw [PC.apartT_eq]; exact hout5.weaken hbw2.size, Below.of hbw2 hb5⟩

end Go.Proofs.Ytbjioniefalgpaa
