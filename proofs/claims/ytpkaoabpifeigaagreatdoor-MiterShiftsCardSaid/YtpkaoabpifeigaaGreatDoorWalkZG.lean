/- Contracts: are lists of ints one; a literal, moved as the page says. -/
import Derived.Test.YtpkaoabpifeigaaGreatDoorWalkZB
import Derived.Test.YtpkaoabpifeigaaGreatDoorLibH
import Derived.Test.YtpkaoabpifeigaaGreatDoorWalkV2
namespace Go.Proofs.YtpkaoabpifeigaaGreatDoor
open Go.RowKit Go.Shelf

set_option maxHeartbeats 2000000 in
theorem plainInts_any (l m : List Int) (vl vm : Value) (w : World) (hl : Ints w vl l) (hm : Ints w vm m) :
    Calls Tryz.prog 10 #[vl, vm] w fun e w' => e = .returned (.bool (l == m)) ∧ Below w.heap.size w w' := by
  obtain ⟨a, ca, rfl, h1, h2, h3⟩ := hl.open_
  obtain ⟨b, cb, rfl, g1, g2, g3⟩ := hm.open_
  have H3 := Lib.hid h3
  have G3 := Lib.hid g3
  clear h3 g3 hl hm
  by_cases hlen : l.length = m.length
  · have hlb : (((l.length : Nat) : Int) != ((m.length : Nat) : Int)) = false := by rw [bne_eq_false_iff_eq]; omega
    have HL := Lib.hid hlen
    clear hlen
    go_enter Tryz.func10, Tryz.ntmps10
    go_wp2_with fail
    go_loopg [5] l.length (fun gg s5 wr => ∃ k : Nat, k ≤ l.length ∧ l.length - k ≤ gg ∧ s5 = .int .i64 k ∧ Hid (Below w.heap.size w wr) ∧ Aside (∀ j (_ : j < k) (h : j < l.length) (h' : j < m.length), l[j] = m[j]))
    case atStart => exact ⟨0, Nat.zero_le _, by omega, rfl, Below.refl _ _, fun j hj => absurd hj (Nat.not_lt_zero _)⟩
    case round =>
      obtain ⟨k, hk, hg, rfl, hbr, hA⟩ := hrel
      by_cases hlt : k < l.length
      · have hmea : ∀ g : Nat, l.length - k ≤ g → l.length - (k + 1) < g := fun g h => by omega
        have hlm : k < m.length := by rw [← HL.out]; exact hlt
        obtain ⟨b1, o1, rfl, e1, _, c1⟩ := H3.out k hlt
        obtain ⟨b2, o2, rfl, e2, _, c2⟩ := G3.out k hlm
        have c1 : ∀ x : Later wr, x.at_.cell? ⟨b1, o1 + k, none⟩ = some (.int .i64 l[k]) := fun x => ((Below.of hbr.out x.below).cell e1).trans c1
        have c2 : ∀ x : Later wr, x.at_.cell? ⟨b2, o2 + k, none⟩ = some (.int .i64 m[k]) := fun x => ((Below.of hbr.out x.below).cell e2).trans c2
        have hx := Lib.hid (rfl : l[k] = l[k])
        obtain ⟨x, hx⟩ : ∃ x, x = l[k] := ⟨_, rfl⟩
        obtain ⟨y, hy⟩ : ∃ y, y = m[k] := ⟨_, rfl⟩
        rw [← hx] at c1
        rw [← hy] at c2
        have HX := Lib.hid hx
        have HY := Lib.hid hy
        clear hx hy
        have hltz : (k : Int) < (l.length : Int) := by omega
        have hlmz : (k : Int) < (m.length : Int) := by omega
        by_cases hq : x = y
        · have hqb : (x != y) = false := by simpa using hq
          go_wp2_with fail
          refine wp_region_later (by kernel_rfl) (by kernel_rfl) ?_; (repeat (go_big_quiet_step (fail))); refine wpQuiet_nil ?_; rintro w3 ⟨⟨_, hb3⟩, rfl⟩
          have HB := Lib.hid (Below.of hbr.out hb3)
          go_wp2_with fail
          go_roundg (l.length - (k + 1))
          case measure => exact hmea _ hg
          case rel =>
            refine ⟨k + 1, by omega, by omega, by go_num, HB.out, (show Aside _ from fun j hj h h' => ?_)⟩
            by_cases e : j = k
            · subst e; rw [← HX.out, ← HY.out]; exact hq
            · exact hA.out j (by omega) h h'
        · have hqb : (x != y) = true := by simpa using hq
          go_wp2_with fail
          refine wp_region_later (by kernel_rfl) (by kernel_rfl) ?_; (repeat (go_big_quiet_step (fail))); refine wpQuiet_nil ?_; rintro w3 ⟨⟨_, hb3⟩, rfl⟩
          go_wp2_with fail
          go_ret
          refine ⟨?_, Below.of hbr.out hb3⟩
          have : (l == m) = false := by
            rw [beq_eq_false_iff_ne]
            intro e
            subst e
            exact hq (HX.out.trans HY.out.symm)
          rw [this]; rfl
      · have hltz : ¬ (k : Int) < (l.length : Int) := by omega
        obtain rfl : k = l.length := by omega
        go_wp2_with fail
        go_ret
        refine ⟨?_, hbr.out⟩
        have : (l == m) = true := by
          rw [beq_iff_eq]
          exact List.ext_getElem HL.out fun j h h' => hA.out j h h h'
        rw [this]; rfl
  · have hlb : (((l.length : Nat) : Int) != ((m.length : Nat) : Int)) = true := by rw [bne_iff_ne]; omega
    have he : (l == m) = false := by
      rw [beq_eq_false_iff_ne]
      intro e
      exact hlen (by rw [e])
    have HE := Lib.hid he
    clear hlen he
    go_enter Tryz.func10, Tryz.ntmps10
    go_wp2_with fail
    go_ret
    exact ⟨by rw [HE.out]; rfl, Below.refl _ _⟩

set_option maxRecDepth 100000 in
set_option maxHeartbeats 4000000 in
theorem moved36_any (c : PC.Circ) (tv : List Int) (n l : Int) (vc vt : Value) (w : World) (h : IsCirc w vc c) (ht : Ints w vt tv) (hR : PC.Right c) (hl : tv.length = c.inputs.length) (h0 : 0 ≤ l) (h1 : l ≤ 1000000) (hn0 : 0 ≤ n) (hn1 : n ≤ 2048) (hto : Tos tv) :
    Calls Tryz.prog 11 #[vc, vt, .int .i64 n, .int .i64 l] w fun e w' => e = .returned (.int .i64 (PC.mov c.inputs tv n l)) ∧ Below w.heap.size w w' := by
  obtain ⟨xi, xj, xl, xm, xo, xp, xb, xc, xv, xw, xa, xq, xn, xr, rfl, hp⟩ := row_slices h
  obtain ⟨ao, cap, rfl, t1, t2, t3⟩ := ht.open_
  have hI : Hid (∀ j (hj : j < c.inputs.length), ∃ b off, xi = some ⟨b, off, none⟩ ∧ b < w.heap.size ∧ w.cell? ⟨b, off + j, none⟩ = some (.int .i64 c.inputs[j])) := fun j hj => by
    obtain ⟨_, _, e, _, _, h⟩ := hp.inputs.open_
    cases e
    obtain ⟨b1, o1, e1, e2, _, e3⟩ := h j hj
    exact ⟨b1, o1, e1, e2, e3⟩
  have hIr : Hid (∀ x ∈ c.inputs, 2 ≤ x ∧ x ≤ 4096) := fun x hx => by
    have := hR.defs x (PC.mem_defs_in c x hx)
    have := hR.max1
    omega
  have T3 := Lib.hid t3
  have hins := hR.ins
  have HTo := Lib.hid hto
  obtain ⟨M, hM⟩ : ∃ M, M = PC.mov c.inputs tv n l := ⟨_, rfl⟩
  rw [← hM]
  have hlow : Hid (l < 2 → M = l) := fun h => by rw [hM]; exact PC.mov_low _ _ _ _ h
  have hpage : Hid (2 ≤ l → M = match (c.inputs.zip tv).find? (fun p => p.1 / 2 == l / 2) with | some p => p.2 + l % 2 | none => l + 2 * n) := fun h => by rw [hM]; exact PC.mov_page _ _ _ _ h fun d hd => by have := (hIr.out d hd).1; omega
  have HL := Lib.hid hl
  clear h ht hp t3 hR hM hto
  have r1 := RowL.new (T := 27) w [.int .i64 c.max, .slice xi c.inputs.length xj, .slice xl c.latches.length xm, .slice xo c.outputs.length xp, .slice xb c.bads.length xc, .slice xv c.invars.length xw, .slice xa c.ands.length xq, .slice xn c.names.length xr]
  have hb0 := (Below.refl w.heap.size w).alloc (Nat.le_refl _) (.cells #[.int .i64 c.max, .slice xi c.inputs.length xj, .slice xl c.latches.length xm, .slice xo c.outputs.length xp, .slice xb c.bads.length xc, .slice xv c.invars.length xw, .slice xa c.ands.length xq, .slice xn c.names.length xr] 27)
  obtain ⟨W, hW⟩ : ∃ W, W = w.alloc (.cells #[.int .i64 c.max, .slice xi c.inputs.length xj, .slice xl c.latches.length xm, .slice xo c.outputs.length xp, .slice xb c.bads.length xc, .slice xv c.invars.length xw, .slice xa c.ands.length xq, .slice xn c.names.length xr] 27) := ⟨_, rfl⟩
  rw [← hW] at r1 hb0
  have p1 := r1.cell 1 _ rfl
  have HB0 := Lib.hid hb0
  have HW := Lib.hid hW
  clear hW r1 hb0
  by_cases h2 : l < 2
  · have e := hlow.out h2
    go_enter Tryz.func11, Tryz.ntmps11
    go_wp2_with fail
    go_ret
    rw [← HW.out]
    exact ⟨by rw [e]; rfl, HB0.out⟩
  · have hpg := Lib.hid (hpage.out (by omega))
    clear hlow hpage
    go_enter Tryz.func11, Tryz.ntmps11
    go_wp2_with fail
    rw [← HW.out]
    go_loopg [9] c.inputs.length (fun gg s9 wr => ∃ k : Nat, k ≤ c.inputs.length ∧ c.inputs.length - k ≤ gg ∧ s9 = .int .i64 k ∧ W = wr ∧ Aside (∀ j (_ : j < k) (h : j < c.inputs.length), (c.inputs[j] / 2 == l / 2) = false))
    case atStart => exact ⟨0, Nat.zero_le _, by omega, rfl, rfl, fun j hj => absurd hj (Nat.not_lt_zero _)⟩
    case round =>
      obtain ⟨k, hk, hg, rfl, rfl, hA⟩ := hrel
      by_cases hlt : k < c.inputs.length
      · have hmea : ∀ g : Nat, c.inputs.length - k ≤ g → c.inputs.length - (k + 1) < g := fun g h => by omega
        have hlt2 : k < tv.length := by rw [HL.out]; exact hlt
        obtain ⟨b1, o1, rfl, e1, c1⟩ := hI.out k hlt
        obtain ⟨b2, o2, rfl, e2, _, c2⟩ := T3.out k hlt2
        have c1 := (HB0.out.cell e1).trans c1
        have c2 := (HB0.out.cell e2).trans c2
        have hxr := hIr.out _ (List.getElem_mem hlt)
        have hyr := HTo.out _ (List.getElem_mem hlt2)
        have hfind : Hid ((c.inputs[k] / 2 == l / 2) = true → (c.inputs.zip tv).find? (fun p => p.1 / 2 == l / 2) = some (c.inputs[k], tv[k])) := fun hq => by
          rw [List.find?_eq_some_iff_getElem]
          refine ⟨hq, k, by rw [List.length_zip]; omega, by simp, fun j hj => ?_⟩
          simp only [List.getElem_zip]
          rw [hA.out j hj (by omega)]
          rfl
        have hk0 : Hid ((c.inputs[k] / 2 == l / 2) = false → ∀ j (_ : j < k + 1) (h : j < c.inputs.length), (c.inputs[j] / 2 == l / 2) = false) := fun hq j hj h => by
          by_cases e : j = k
          · subst e; exact hq
          · exact hA.out j (by omega) h
        generalize c.inputs[k] = x at *
        generalize tv[k] = y at *
        have hx0 : 0 ≤ x := by omega
        have hltz : (k : Int) < (c.inputs.length : Int) := by omega
        have hltt : (k : Int) < (tv.length : Int) := by omega
        cases hq : (x / 2 == l / 2) with
        | true =>
          have hM := hpg.out
          rw [hfind.out hq] at hM
          simp only at hM
          have ew : IntKind.i64.wrap (y + l % 2) = y + l % 2 := IntWalk.i64_in _ (by omega)
          clear hpg hfind hk0
          go_wp2_with fail
          go_ret
          exact ⟨by first | rfl | (rw [hM]; rfl), HB0.out⟩
        | false =>
          have hA2 := Lib.hid (hk0.out hq)
          clear hfind hk0
          go_wp2_with fail
          go_roundg (c.inputs.length - (k + 1))
          case measure => exact hmea _ hg
          case rel => exact ⟨k + 1, by omega, by omega, by go_num, rfl, (show Aside _ from hA2.out)⟩
      · have hltz : ¬ (k : Int) < (c.inputs.length : Int) := by omega
        have hM := hpg.out
        have hno : (c.inputs.zip tv).find? (fun p => p.1 / 2 == l / 2) = none := by
          rw [List.find?_eq_none]
          intro p hp
          obtain ⟨j, hj, rfl⟩ := List.getElem_of_mem hp
          rw [List.length_zip] at hj
          simp only [List.getElem_zip]
          rw [hA.out j (by omega) (by omega)]
          decide
        rw [hno] at hM
        simp only at hM
        have e1 : IntKind.i64.wrap (2 * n) = 2 * n := IntWalk.i64_in _ (by omega)
        have e2 : IntKind.i64.wrap (l + 2 * n) = l + 2 * n := IntWalk.i64_in _ (by omega)
        clear hpg hno
        go_wp2_with fail
        go_ret
        exact ⟨by first | rfl | (rw [hM]; rfl), HB0.out⟩

theorem RowL.put3 {T : TypeId} {y : World} {g : Nat} {c0 c1 c2 : Value} (h : RowL T y g [c0, c1, c2]) (d0 d1 d2 : Value) :
    (y.cell? ⟨g, 0, none⟩ = some c0 ∧ y.frozen? ⟨g, 0, none⟩ = false ∧ (y.setCell ⟨g, 0, none⟩ d0).cell? ⟨g, 1, none⟩ = some c1 ∧ (y.setCell ⟨g, 0, none⟩ d0).frozen? ⟨g, 1, none⟩ = false ∧
      ((y.setCell ⟨g, 0, none⟩ d0).setCell ⟨g, 1, none⟩ d1).cell? ⟨g, 2, none⟩ = some c2 ∧ ((y.setCell ⟨g, 0, none⟩ d0).setCell ⟨g, 1, none⟩ d1).frozen? ⟨g, 2, none⟩ = false) ∧
    RowL T (((y.setCell ⟨g, 0, none⟩ d0).setCell ⟨g, 1, none⟩ d1).setCell ⟨g, 2, none⟩ d2) g [d0, d1, d2] ∧ y.grownBy (((y.setCell ⟨g, 0, none⟩ d0).setCell ⟨g, 1, none⟩ d1).setCell ⟨g, 2, none⟩ d2) (some g) := by
  have h0 := h.set 0 d0
  have h1 := h0.set 1 d1
  have h2 := h1.set 2 d2
  exact ⟨⟨h.cell 0 _ rfl, h.frozen 0, h0.cell 1 _ rfl, h0.frozen 1, h1.cell 2 _ rfl, h1.frozen 2⟩, h2, (set_grown' _ _ _ _).trans ((set_grown' _ _ _ _).trans (set_grown' _ _ _ _))⟩

/-- two boxes being made: which of the four operations (make, make, fill, fill) are done -/
def Pair (T : TypeId) (X : World) (z xs ys : List Value) (bs : List Bool) (p q : Value) (y : World) : Prop :=
  Below X.heap.size X y ∧
  (bs[0]? = some true → ∃ g, p = .pointer (some ⟨g, 0, none⟩) ∧ X.heap.size ≤ g ∧ RowL T y g (if bs[2]? = some true then xs else z)) ∧
  (bs[1]? = some true → ∃ g, q = .pointer (some ⟨g, 0, none⟩) ∧ X.heap.size ≤ g ∧ RowL T y g (if bs[3]? = some true then ys else z)) ∧
  (bs[0]? = some true → bs[1]? = some true → p ≠ q)

section
variable {T : TypeId} {X : World} {z xs ys : List Value}

theorem Pair.init (p q : Value) : Pair T X z xs ys [false, false, false, false] p q X.drew :=
  ⟨(Below.refl _ _).drew, (fun h => by cases h), (fun h => by cases h), (fun h => by cases h)⟩

theorem Pair.keep {bs : List Bool} {p q : Value} {y y' : World} (h : Pair T X z xs ys bs p q y) (hb : Below y.heap.size y y') : Pair T X z xs ys bs p q y' := by
  obtain ⟨h1, h2, h3, h4⟩ := h
  refine ⟨h1.trans (hb.mono h1.size), fun e => ?_, fun e => ?_, h4⟩
  · obtain ⟨g, a, b, c⟩ := h2 e
    exact ⟨g, a, b, c.mono hb⟩
  · obtain ⟨g, a, b, c⟩ := h3 e
    exact ⟨g, a, b, c.mono hb⟩

theorem Pair.newX {b c d : Bool} {p q : Value} {y : World} (h : Pair T X z xs ys [false, b, c, d] p q y) : Pair T X z xs ys [true, b, false, d] (.pointer (some ⟨y.heap.size, 0, none⟩)) q (y.alloc (.cells z.toArray T)) := by
  obtain ⟨h1, h2, h3, h4⟩ := h
  have hb : Below y.heap.size y (y.alloc (.cells z.toArray T)) := (Below.refl _ _).alloc (Nat.le_refl _) _
  refine ⟨h1.trans (hb.mono h1.size), fun e => ⟨_, rfl, h1.size, RowL.new y z⟩, fun e => ?_, fun _ e => ?_⟩
  · obtain ⟨g, a, b, c⟩ := h3 e
    exact ⟨g, a, b, c.mono hb⟩
  · obtain ⟨g, rfl, b, c⟩ := h3 e
    intro e
    have e : y.heap.size = g := by injection e with e; injection e with e; injection e
    have := c.lt
    omega

theorem Pair.newY {b c d : Bool} {p q : Value} {y : World} (h : Pair T X z xs ys [b, false, c, d] p q y) : Pair T X z xs ys [b, true, c, false] p (.pointer (some ⟨y.heap.size, 0, none⟩)) (y.alloc (.cells z.toArray T)) := by
  obtain ⟨h1, h2, h3, h4⟩ := h
  have hb : Below y.heap.size y (y.alloc (.cells z.toArray T)) := (Below.refl _ _).alloc (Nat.le_refl _) _
  refine ⟨h1.trans (hb.mono h1.size), fun e => ?_, fun e => ⟨_, rfl, h1.size, RowL.new y z⟩, fun e _ => ?_⟩
  · obtain ⟨g, a, b, c⟩ := h2 e
    exact ⟨g, a, b, c.mono hb⟩
  · obtain ⟨g, rfl, b, c⟩ := h2 e
    intro e
    have e : g = y.heap.size := by injection e with e; injection e with e; injection e
    have := c.lt
    omega

theorem Pair.setX {b d : Bool} {p q : Value} {y y' : World} {g : Nat} (h : Pair T X z xs ys [true, b, false, d] p q y) (hp : p = .pointer (some ⟨g, 0, none⟩)) (hr : RowL T y' g xs) (hG : y.grownBy y' (some g)) : Pair T X z xs ys [true, b, true, d] p q y' := by
  obtain ⟨h1, h2, h3, h4⟩ := h
  obtain ⟨g', a, hg, c⟩ := h2 rfl
  obtain rfl : g = g' := by rw [hp] at a; injection a with a; injection a with a; injection a
  refine ⟨below_grown h1 hG h1.size hg, fun e => ⟨_, hp, hg, hr⟩, fun e => ?_, h4⟩
  obtain ⟨k, a', b', c'⟩ := h3 e
  refine ⟨k, a', b', c'.grown hG fun ek => h4 rfl e ?_⟩
  rw [hp, a', Option.some.inj ek]

theorem Pair.setY {a c : Bool} {p q : Value} {y y' : World} {g : Nat} (h : Pair T X z xs ys [a, true, c, false] p q y) (hq : q = .pointer (some ⟨g, 0, none⟩)) (hr : RowL T y' g ys) (hG : y.grownBy y' (some g)) : Pair T X z xs ys [a, true, c, true] p q y' := by
  obtain ⟨h1, h2, h3, h4⟩ := h
  obtain ⟨g', e', hg, _⟩ := h3 rfl
  obtain rfl : g = g' := by rw [hq] at e'; injection e' with a; injection a with a; injection a
  refine ⟨below_grown h1 hG h1.size hg, fun e => ?_, fun e => ⟨_, hq, hg, hr⟩, h4⟩
  obtain ⟨k, a', b', c'⟩ := h2 e
  refine ⟨k, a', b', c'.grown hG fun ek => h4 e rfl ?_⟩
  rw [hq, a', Option.some.inj ek]

theorem Pair.done {p q : Value} {y : World} (h : Pair T X z xs ys [true, true, true, true] p q y) : ∃ g k, p = .pointer (some ⟨g, 0, none⟩) ∧ q = .pointer (some ⟨k, 0, none⟩) ∧ g ≠ k ∧ Below X.heap.size X y ∧ RowL T y g xs ∧ RowL T y k ys := by
  obtain ⟨h1, h2, h3, h4⟩ := h
  obtain ⟨g, e1, _, r1⟩ := h2 rfl
  obtain ⟨k, e2, _, r2⟩ := h3 rfl
  exact ⟨g, k, e1, e2, fun e => h4 rfl rfl (by rw [e1, e2, e]), h1, r1, r2⟩
end

theorem facts_still {gs : List (Value → World → Prop)} (h : ∀ g ∈ gs, ∀ v y y', g v y → g v y') (j : Nat) (v : Value) (y y' : World) (hf : Facts gs j v y) : Facts gs j v y' := by
  unfold Facts at *
  cases e : gs[j]? with
  | none => rw [e] at hf; exact hf
  | some g => rw [e] at hf; exact h g (List.mem_of_getElem? e) _ _ _ hf

theorem moved_gat (c : PC.Circ) (hR : PC.Right c) (tv : List Int) (n : Int) (k : Nat) (hk : k < c.ands.length) (hk2 : k < (PC.shiftC c tv n).ands.length) :
    (PC.shiftC c tv n).ands[k].lit = c.ands[k].lit + 2 * n ∧ (PC.shiftC c tv n).ands[k].left = PC.mov c.inputs tv n c.ands[k].left ∧ (PC.shiftC c tv n).ands[k].right = PC.mov c.inputs tv n c.ands[k].right ∧
    (0 ≤ c.ands[k].left ∧ c.ands[k].left ≤ 1000000) ∧ (0 ≤ c.ands[k].right ∧ c.ands[k].right ≤ 1000000) ∧ (2 ≤ c.ands[k].lit ∧ c.ands[k].lit ≤ 4096) := by
  have hm := List.getElem_mem hk
  have h1 := hR.gats _ hm
  have h2 := PC.known_range c hR _ h1.2.2.1
  have h3 := PC.known_range c hR _ h1.2.2.2
  have h4 := hR.defs _ (PC.mem_defs_gat c _ hm)
  have h5 := hR.max1
  simp only [PC.shiftC, List.getElem_map, PC.movGat]
  exact ⟨PC.mov_gat hR tv n _ hm, trivial, trivial, ⟨h2.1, by omega⟩, ⟨h3.1, by omega⟩, h4.1, by omega⟩

theorem moved_lat (c : PC.Circ) (hR : PC.Right c) (tv : List Int) (n : Int) (hn : 0 ≤ n) (k : Nat) (hk : k < c.latches.length) (hk2 : k < (PC.shiftC c tv n).latches.length) :
    (PC.shiftC c tv n).latches[k].lit = c.latches[k].lit + 2 * n ∧ (PC.shiftC c tv n).latches[k].next = PC.mov c.inputs tv n c.latches[k].next ∧ ((PC.shiftC c tv n).latches[k].reset == c.latches[k].lit + 2 * n) = (c.latches[k].reset == c.latches[k].lit) ∧
    (0 ≤ c.latches[k].next ∧ c.latches[k].next ≤ 1000000) ∧ (2 ≤ c.latches[k].lit ∧ c.latches[k].lit ≤ 4096) := by
  have hm := List.getElem_mem hk
  have h2 := PC.known_range c hR _ (hR.latNext _ hm)
  have h4 := hR.defs _ (PC.mem_defs_lat c _ hm)
  have h5 := hR.max1
  have h6 := hR.latReset _ hm
  have h7 := PC.mov_lat hR tv n _ hm
  simp only [PC.shiftC, List.getElem_map, PC.movLat, PC.movReset]
  refine ⟨h7, by trivial, ?_, ⟨h2.1, by omega⟩, h4.1, by omega⟩
  generalize c.latches[k] = x at *
  by_cases e : x.reset = x.lit
  · rw [if_pos e, h7, e]; simp
  · rw [if_neg e, Bool.eq_iff_iff]
    simp only [beq_iff_eq]
    omega

attribute [local simp] mk_get

theorem lenb2 (a b : Nat) : (((a : Int) != (b : Int)) = true ↔ a ≠ b) ∧ (((a : Int) != (b : Int)) = false ↔ a = b) := by
  constructor
  · rw [bne_iff_ne]; omega
  · rw [bne_eq_false_iff_eq]; omega

set_option maxRecDepth 100000 in
set_option maxHeartbeats 16000000 in
theorem mShifts_walk (c : PC.Circ) (vc vt : Value) (tv : List Int) (n : Int) (w : World) (h : IsCirc w vc c) (fc : Fits c) (ht : Ints w vt tv) (hn : rng n) :
    Calls Tryz.prog 3 #[vc, vt, .int .i64 n] w fun e w' => e = .returned (.bool true) ∧ Below w.heap.size w w' := by
  have HI := Lib.hid h
  have HT := Lib.hid ht
  obtain ⟨xi, xj, xl, xm, xo, xp, xb, xc, xv, xw, xa, xq, xn, xr, rfl, hpa⟩ := row_slices h
  obtain ⟨ao, cap, rfl, t1, t2, t3⟩ := ht.open_
  have T3 := Lib.hid t3
  have HPA := Lib.hid hpa
  clear h ht hpa t3
  have r1 := RowL.new (T := 27) w [.int .i64 c.max, .slice xi c.inputs.length xj, .slice xl c.latches.length xm, .slice xo c.outputs.length xp, .slice xb c.bads.length xc, .slice xv c.invars.length xw, .slice xa c.ands.length xq, .slice xn c.names.length xr]
  have hb0 := (Below.refl w.heap.size w).alloc (Nat.le_refl _) (.cells #[.int .i64 c.max, .slice xi c.inputs.length xj, .slice xl c.latches.length xm, .slice xo c.outputs.length xp, .slice xb c.bads.length xc, .slice xv c.invars.length xw, .slice xa c.ands.length xq, .slice xn c.names.length xr] 27)
  have R1 := Lib.hid r1
  have HB0 := Lib.hid hb0
  clear r1 hb0
  go_enter Tryz.func3, Tryz.ntmps3
  go_wp2_with fail
  refine (alive36_any _).mono ?_
  rintro e w1 ⟨rfl, hb1⟩
  have HB1 := Lib.hid (Below.of HB0.out hb1)
  have S1 := Lib.hid (R1.out.mono hb1)
  clear hb1 R1 HB0
  have hSh := Lib.hid (mShift_any c tv n _ _ w1 (HI.out.mono HB1.out) (HT.out.mono HB1.out) hn)
  obtain ⟨E, hE⟩ : ∃ E, E = PC.shiftE c tv n := ⟨_, rfl⟩
  obtain ⟨DD, hDD⟩ : ∃ D, D = PC.shiftD c tv n := ⟨_, rfl⟩
  rw [← hE, ← hDD] at hSh
  have HE := Lib.hid hE
  have HDD := Lib.hid hDD
  clear hE hDD
  have q := S1.out
  have q0 := q.cell 0 _ rfl
  have q1 := q.cell 1 _ rfl
  have q2 := q.cell 2 _ rfl
  have q3 := q.cell 3 _ rfl
  have q4 := q.cell 4 _ rfl
  have q5 := q.cell 5 _ rfl
  have q6 := q.cell 6 _ rfl
  have q7 := q.cell 7 _ rfl
  go_wp2_with fail
  refine hSh.out.mono ?_
  rintro e w2 ⟨u, rfl, hU, hb2⟩
  clear q q0 q1 q2 q3 q4 q5 q6 q7
  obtain ⟨yi, yj, yl, ym, yo, yp, yb, yc, yv, yw, ya, yq, yn, yr, rfl, hpd⟩ := row_slices hU
  have hbq : Below w2.heap.size w2 (w2.alloc (.cells #[.int .i64 DD.max, .slice yi DD.inputs.length yj, .slice yl DD.latches.length ym, .slice yo DD.outputs.length yp, .slice yb DD.bads.length yc, .slice yv DD.invars.length yw, .slice ya DD.ands.length yq, .slice yn DD.names.length yr] 27)) := (Below.refl _ _).alloc (Nat.le_refl _) _
  have r2 := RowL.new (T := 27) w2 [.int .i64 DD.max, .slice yi DD.inputs.length yj, .slice yl DD.latches.length ym, .slice yo DD.outputs.length yp, .slice yb DD.bads.length yc, .slice yv DD.invars.length yw, .slice ya DD.ands.length yq, .slice yn DD.names.length yr]
  have r1 := (S1.out.mono hb2).mono hbq
  have hpd := hpd.mono hbq
  have hbv := Below.of HB1.out (Below.of hb2 hbq)
  obtain ⟨V, hV⟩ : ∃ V, V = w2.alloc (.cells #[.int .i64 DD.max, .slice yi DD.inputs.length yj, .slice yl DD.latches.length ym, .slice yo DD.outputs.length yp, .slice yb DD.bads.length yc, .slice yv DD.invars.length yw, .slice ya DD.ands.length yq, .slice yn DD.names.length yr] 27) := ⟨_, rfl⟩
  rw [← hV] at r1 r2 hpd hbv
  have R1 := Lib.hid r1
  have R2 := Lib.hid r2
  have HPD := Lib.hid hpd
  have HBV := Lib.hid hbv
  have HV := Lib.hid hV
  clear hV r1 r2 hpd hbv hbq hU hb2 S1 HB1 hSh
  go_wp2_with fail
  rw [← HV.out]
  clear HV
  generalize w2.heap.size = Q at *
  go_loopg [9, 10] tv.length (fun gg s9 s10 wr => ∃ k : Nat, k ≤ tv.length ∧ tv.length - k ≤ gg ∧ s10 = .int .i64 k ∧ s9 = .bool ((tv.take k).any PC.strangeL) ∧ V = wr)
  case atStart => exact ⟨0, Nat.zero_le _, by omega, rfl, rfl, rfl⟩
  case round =>
    obtain ⟨k, hk, hg, rfl, rfl, rfl⟩ := hrel
    by_cases hlt : k < tv.length
    · have hmea : ∀ g : Nat, tv.length - k ≤ g → tv.length - (k + 1) < g := fun g h => by omega
      obtain ⟨b1, o1, rfl, e1, er, c1⟩ := T3.out k hlt
      have c1 := (HBV.out.cell e1).trans c1
      have htk : (tv.take (k + 1)).any PC.strangeL = ((tv.take k).any PC.strangeL || PC.strangeL tv[k]) := by rw [List.take_succ_eq_append_getElem hlt, List.any_append]; simp
      generalize tv[k] = x at *
      have hltz : (k : Int) < (tv.length : Int) := by omega
      obtain ⟨er1, er2⟩ := er
      cases hb : (tv.take k).any PC.strangeL with
      | true =>
        rw [hb, Bool.true_or] at htk
        have HTK := Lib.hid htk
        clear htk er1 er2
        go_wp2_with fail
        go_roundg (tv.length - (k + 1))
        case measure => exact hmea _ hg
        case rel => exact ⟨k + 1, by omega, by omega, by go_num, by rw [HTK.out], rfl⟩
      | false =>
        rw [hb, Bool.false_or] at htk
        by_cases hx : x < 2
        · have HTK : Hid ((tv.take (k + 1)).any PC.strangeL = true) := by show _ = _; rw [htk]; simp [PC.strangeL, hx]
          clear htk er1 er2
          go_wp2_with fail
          go_roundg (tv.length - (k + 1))
          case measure => exact hmea _ hg
          case rel => exact ⟨k + 1, by omega, by omega, by go_num, by rw [HTK.out], rfl⟩
        · have hx0 : 0 ≤ x := by omega
          have HTK : Hid ((tv.take (k + 1)).any PC.strangeL = (x % 2 == 1)) := by
            show _ = _
            rw [htk]
            unfold PC.strangeL
            rw [show decide (x < 2) = false by simpa using hx, Bool.false_or]
            rw [Bool.eq_iff_iff]; simp
          clear htk er1
          go_wp2_with fail
          go_roundg (tv.length - (k + 1))
          case measure => exact hmea _ hg
          case rel => exact ⟨k + 1, by omega, by omega, by go_num, by rw [HTK.out], rfl⟩
    · have hltz : ¬ (k : Int) < (tv.length : Int) := by omega
      obtain rfl : k = tv.length := by omega
      rw [List.take_length]
      have hRC := Lib.hid (rCheck_any c _ V (HI.out.mono HBV.out) fc)
      have hHE := HE.out
      have hHD := HDD.out
      have q := R1.out
      have q0 := q.cell 0 _ rfl
      have q1 := q.cell 1 _ rfl
      have q2 := q.cell 2 _ rfl
      have q3 := q.cell 3 _ rfl
      have q4 := q.cell 4 _ rfl
      have q5 := q.cell 5 _ rfl
      have q6 := q.cell 6 _ rfl
      have q7 := q.cell 7 _ rfl
      have d0 := R2.out.cell 0 _ rfl
      clear hk hg hlt
      cases hck : PC.chk c with
      | false =>
        have e9 : E = 9 := by rw [hHE, PC.shiftE, if_pos hck]
        have hd : DD.max = 0 := by rw [hHD, PC.shiftD, ← hHE, e9]; rfl
        rw [hck] at hRC
        rw [hd] at d0
        clear hHE hHD hck hd HE HDD
        subst e9
        go_wp2_with fail
        refine hRC.out.mono ?_
        rintro e w3 ⟨rfl, hb3⟩
        have d1 := (hb3.cell (World.block_lt_of_cell? _ _ d0)).trans d0
        clear d0
        go_wp2_with fail
        go_ret
        exact ⟨rfl, Below.of HBV.out hb3⟩
      | true =>
        rw [hck] at hRC
        have hlb := (lenb2 tv.length c.inputs.length)
        by_cases hl : tv.length = c.inputs.length
        case neg =>
          have hlx := hlb.1.2 hl
          have e9 : E = 3 := by rw [hHE]; exact by rw [PC.shiftE, if_neg (by rw [hck]; decide), if_pos hl]
          have hd : DD.max = 0 := by rw [hHD, PC.shiftD, ← hHE, e9]; rfl
          rw [hd] at d0
          clear hHE hHD hd HE HDD
          subst e9
          go_wp2_with fail
          refine hRC.out.mono ?_
          rintro e w3 ⟨rfl, hb3⟩
          have d1 := (hb3.cell (World.block_lt_of_cell? _ _ d0)).trans d0
          have p1 := (R1.out.mono hb3).cell 1 _ rfl
          clear q q0 q1 q2 q3 q4 q5 q6 q7
          clear d0
          go_wp2_with fail
          go_ret
          exact ⟨by first | rfl | simp, Below.of HBV.out hb3⟩
        case pos =>
          have hlx := hlb.2.2 hl
          by_cases hnr : n < 0 ∨ 2048 < n
          · have hE4 := (show PC.shiftE c tv n = 4 by rw [PC.shiftE, if_neg (by rw [hck]; decide), if_neg (by simpa using hl), if_pos hnr])
            by_cases hn0 : n < 0
            · clear hnr
              have e9 : E = 4 := by rw [hHE]; exact hE4
              have hd : DD.max = 0 := by rw [hHD, PC.shiftD, ← hHE, e9]; rfl
              rw [hd] at d0
              clear hHE hHD hd HE HDD
              subst e9
              go_wp2_with fail
              refine hRC.out.mono ?_
              rintro e w3 ⟨rfl, hb3⟩
              have d1 := (hb3.cell (World.block_lt_of_cell? _ _ d0)).trans d0
              have p1 := (R1.out.mono hb3).cell 1 _ rfl
              clear q q0 q1 q2 q3 q4 q5 q6 q7
              clear d0
              go_wp2_with fail
              go_ret
              exact ⟨by first | rfl | simp, Below.of HBV.out hb3⟩
            · have hn1 : n > 2048 := by omega
              clear hnr
              have e9 : E = 4 := by rw [hHE]; exact hE4
              have hd : DD.max = 0 := by rw [hHD, PC.shiftD, ← hHE, e9]; rfl
              rw [hd] at d0
              clear hHE hHD hd HE HDD
              subst e9
              go_wp2_with fail
              refine hRC.out.mono ?_
              rintro e w3 ⟨rfl, hb3⟩
              have d1 := (hb3.cell (World.block_lt_of_cell? _ _ d0)).trans d0
              have p1 := (R1.out.mono hb3).cell 1 _ rfl
              clear q q0 q1 q2 q3 q4 q5 q6 q7
              clear d0
              go_wp2_with fail
              go_ret
              exact ⟨by first | rfl | simp, Below.of HBV.out hb3⟩
          · have hn0 : ¬ n < 0 := by omega
            have hn1 : ¬ n > 2048 := by omega
            cases hst : tv.any PC.strangeL with
            | true =>
              have e9 : E = 23 := by rw [hHE]; exact by rw [PC.shiftE, if_neg (by rw [hck]; decide), if_neg (by simpa using hl), if_neg hnr, if_pos hst]
              have hd : DD.max = 0 := by rw [hHD, PC.shiftD, ← hHE, e9]; rfl
              rw [hd] at d0
              clear hHE hHD hd HE HDD
              subst e9
              go_wp2_with fail
              refine hRC.out.mono ?_
              rintro e w3 ⟨rfl, hb3⟩
              have d1 := (hb3.cell (World.block_lt_of_cell? _ _ d0)).trans d0
              have p1 := (R1.out.mono hb3).cell 1 _ rfl
              clear q q0 q1 q2 q3 q4 q5 q6 q7
              clear d0
              go_wp2_with fail
              go_ret
              exact ⟨by first | rfl | simp, Below.of HBV.out hb3⟩
            | false =>
              have e0 : E = 0 := by rw [hHE, PC.shiftE, if_neg (by rw [hck]; decide), if_neg (by simpa using hl), if_neg hnr, if_neg (by rw [hst]; decide)]
              have hdd : DD = PC.shiftC c tv n := by rw [hHD, PC.shiftD, ← hHE, e0]; rfl
              have HRC := Lib.hid (PC.right_of c hck)
              have HSN := Lib.hid (PC.strange_no hst)
              have HLT := Lib.hid hl
              have HD2 := Lib.hid hdd
              have hNR : Hid (0 ≤ n ∧ n ≤ 2048) := ⟨by omega, by omega⟩
              have m1 := (PC.right_of c hck).max0
              have m2 := (PC.right_of c hck).max1
              have eM : IntKind.i64.wrap (c.max + n) = c.max + n := IntWalk.i64_in _ (by omega)
              have dm : DD.max = c.max + n := by rw [hdd]; rfl
              have dbm : ((c.max + n) != (c.max + n)) = false := by simp
              have dal : DD.ands.length = c.ands.length := by rw [hdd]; simp [PC.shiftC]
              have dll : DD.latches.length = c.latches.length := by rw [hdd]; simp [PC.shiftC]
              have dnl : DD.names.length = 0 := by rw [hdd]; rfl
              have din : DD.inputs = tv := by rw [hdd]; rfl
              have dab : (((c.ands.length : Nat) : Int) != ((c.ands.length : Nat) : Int)) = false := by simp
              have hPI : Hid (∀ y, Below V.heap.size V y → _) := fun y hy => plainInts_any DD.inputs tv _ _ y (HPD.out.inputs.mono hy) (HT.out.mono (Below.of HBV.out hy))
              rw [show (DD.inputs == tv) = true by rw [din]; simp] at hPI
              have HDL : Hid (DD.latches.length = c.latches.length ∧ DD.ands.length = c.ands.length) := ⟨dll, dal⟩
              have HTo : Hid (Tos tv) := fun t ht => by
                have h1 := HSN.out t ht
                have h2 := (HT.out.2 t ht).2
                omega
              clear hHE hHD hck hst hl hnr din hdd HE HDD t1 t2
              subst e0
              go_wp2_with fail
              refine hRC.out.mono ?_
              rintro e w3 ⟨rfl, hb3⟩
              have p0 := (R1.out.mono hb3).cell 0 _ rfl
              have p1 := (R1.out.mono hb3).cell 1 _ rfl
              have z0 := (R2.out.mono hb3).cell 0 _ rfl
              have z1 := (R2.out.mono hb3).cell 1 _ rfl
              rw [dm] at z0
              have hP3 := Lib.hid (hPI.out w3 hb3)
              have HB3 := Lib.hid hb3
              clear q q0 q1 q2 q3 q4 q5 q6 q7
              clear d0 hRC hPI hlb
              go_wp2_with fail
              refine hP3.out.mono ?_
              rintro e w4 ⟨rfl, hb4⟩
              have HB4 := Lib.hid (Below.of HB3.out hb4)
              have z6 := (R2.out.mono HB4.out).cell 6 _ rfl
              have z7 := (R2.out.mono HB4.out).cell 7 _ rfl
              have p6 := (R1.out.mono HB4.out).cell 6 _ rfl
              rw [dal] at z6
              rw [dnl] at z7
              clear p0 p1 z0 z1 hb4 hb3
              go_wp2_with fail
              have hpc := HPA.out.mono HBV.out
              have HAc : Hid (∀ j (hj : j < c.ands.length), ∃ b off, xa = some ⟨b, off, none⟩ ∧ b < V.heap.size ∧ (rng c.ands[j].lit ∧ rng c.ands[j].left ∧ rng c.ands[j].right) ∧ V.cell? ⟨b, off + j * 3, none⟩ = some (.int .i64 c.ands[j].lit) ∧ V.cell? ⟨b, off + j * 3 + 1, none⟩ = some (.int .i64 c.ands[j].left) ∧ V.cell? ⟨b, off + j * 3 + 2, none⟩ = some (.int .i64 c.ands[j].right)) := by
                obtain ⟨_, _, e, _, _, h⟩ := hpc.ands.open_
                cases e
                exact h
              have HAd : Hid (∀ j (hj : j < DD.ands.length), ∃ b off, ya = some ⟨b, off, none⟩ ∧ b < V.heap.size ∧ (rng DD.ands[j].lit ∧ rng DD.ands[j].left ∧ rng DD.ands[j].right) ∧ V.cell? ⟨b, off + j * 3, none⟩ = some (.int .i64 DD.ands[j].lit) ∧ V.cell? ⟨b, off + j * 3 + 1, none⟩ = some (.int .i64 DD.ands[j].left) ∧ V.cell? ⟨b, off + j * 3 + 2, none⟩ = some (.int .i64 DD.ands[j].right)) := by
                obtain ⟨_, _, e, _, _, h⟩ := HPD.out.ands.open_
                cases e
                exact h
              have HLc : Hid (∀ j (hj : j < c.latches.length), ∃ b off, xl = some ⟨b, off, none⟩ ∧ b < V.heap.size ∧ (rng c.latches[j].lit ∧ rng c.latches[j].next ∧ rng c.latches[j].reset) ∧ V.cell? ⟨b, off + j * 3, none⟩ = some (.int .i64 c.latches[j].lit) ∧ V.cell? ⟨b, off + j * 3 + 1, none⟩ = some (.int .i64 c.latches[j].next) ∧ V.cell? ⟨b, off + j * 3 + 2, none⟩ = some (.int .i64 c.latches[j].reset)) := by
                obtain ⟨_, _, e, _, _, h⟩ := hpc.latches.open_
                cases e
                exact h
              have HLd : Hid (∀ j (hj : j < DD.latches.length), ∃ b off, yl = some ⟨b, off, none⟩ ∧ b < V.heap.size ∧ (rng DD.latches[j].lit ∧ rng DD.latches[j].next ∧ rng DD.latches[j].reset) ∧ V.cell? ⟨b, off + j * 3, none⟩ = some (.int .i64 DD.latches[j].lit) ∧ V.cell? ⟨b, off + j * 3 + 1, none⟩ = some (.int .i64 DD.latches[j].next) ∧ V.cell? ⟨b, off + j * 3 + 2, none⟩ = some (.int .i64 DD.latches[j].reset)) := by
                obtain ⟨_, _, e, _, _, h⟩ := HPD.out.latches.open_
                cases e
                exact h
              clear hpc hP3 z6 z7 p6 dal dll dnl dab dm dbm eM m1 m2 hlx hn0 hn1
              have hle : Hid (c.ands.length ≤ 2048) := PC.ands_len c HRC.out
              go_loopg [11] c.ands.length (fun gg s11 wr => ∃ k : Nat, k ≤ c.ands.length ∧ c.ands.length - k ≤ gg ∧ s11 = .int .i64 k ∧ Hid (Below V.heap.size V wr))
              case atStart => exact ⟨0, Nat.zero_le _, by omega, rfl, HB4.out⟩
              case round =>
                obtain ⟨k, hk, hg, rfl, hbr⟩ := hrel
                have p6 := (R1.out.mono hbr.out).cell 6 _ rfl
                by_cases hlt : k < c.ands.length
                · have hmea : ∀ g : Nat, c.ands.length - k ≤ g → c.ands.length - (k + 1) < g := fun g h => by omega
                  have hltd : k < DD.ands.length := by rw [HDL.out.2]; exact hlt
                  have hmv := (moved_gat c HRC.out tv n k hlt (by have := hltd; rw [HD2.out] at this; exact this))
                  obtain ⟨b1, o1, rfl, e1, -, c10, c11, c12⟩ := HAc.out k hlt
                  obtain ⟨b2, o2, rfl, e2, -, c20, c21, c22⟩ := HAd.out k hltd
                  obtain ⟨DK, hDK⟩ : ∃ DK, DK = DD.ands[k] := ⟨_, rfl⟩
                  rw [← hDK] at c20 c21 c22
                  have hDK2 : DK = (PC.shiftC c tv n).ands[k]'(by have := hltd; rw [HD2.out] at this; exact this) := by rw [hDK]; simp only [HD2.out]
                  rw [← hDK2] at hmv
                  obtain ⟨m1, m2, m3, m4, m5, m6⟩ := hmv
                  clear hDK2 hDK
                  have hMvA := Lib.hid fun (y : World) (hy : Below V.heap.size V y) => moved36_any c tv n c.ands[k].left _ _ y (HI.out.mono (Below.of HBV.out hy)) (HT.out.mono (Below.of HBV.out hy)) HRC.out HLT.out m4.1 m4.2 hNR.out.1 hNR.out.2 HTo.out
                  rw [← m2] at hMvA
                  have hMvB := Lib.hid fun (y : World) (hy : Below V.heap.size V y) => moved36_any c tv n c.ands[k].right _ _ y (HI.out.mono (Below.of HBV.out hy)) (HT.out.mono (Below.of HBV.out hy)) HRC.out HLT.out m5.1 m5.2 hNR.out.1 hNR.out.2 HTo.out
                  rw [← m3] at hMvB
                  rw [m1] at c20
                  clear m1 m2 m4 m3 m5
                  generalize c.ands[k].lit = x0 at *
                  generalize c.ands[k].left = x1 at *
                  generalize c.ands[k].right = x2 at *
                  generalize DK.left = y1 at *
                  generalize DK.right = y2 at *
                  have C1 : Hid (∀ y, Below V.heap.size V y → y.cell? ⟨b1, o1 + k * 3, none⟩ = some (.int .i64 x0) ∧ y.cell? ⟨b1, o1 + k * 3 + 1, none⟩ = some (.int .i64 x1) ∧ y.cell? ⟨b1, o1 + k * 3 + 2, none⟩ = some (.int .i64 x2)) := fun y hy => ⟨(hy.cell e1).trans c10, (hy.cell e1).trans c11, (hy.cell e1).trans c12⟩
                  have C2 : Hid (∀ y, Below V.heap.size V y → y.cell? ⟨b2, o2 + k * 3, none⟩ = some (.int .i64 (x0 + 2 * n)) ∧ y.cell? ⟨b2, o2 + k * 3 + 1, none⟩ = some (.int .i64 y1) ∧ y.cell? ⟨b2, o2 + k * 3 + 2, none⟩ = some (.int .i64 y2)) := fun y hy => ⟨(hy.cell e2).trans c20, (hy.cell e2).trans c21, (hy.cell e2).trans c22⟩
                  have P1 : Hid (∀ y, Below V.heap.size V y → y.cell? ⟨w.heap.size, 6, none⟩ = some (.slice (some ⟨b1, o1, none⟩) c.ands.length xq)) := fun y hy => (R1.out.mono hy).cell 6 _ rfl
                  have P2 : Hid (∀ y, Below V.heap.size V y → y.cell? ⟨Q, 6, none⟩ = some (.slice (some ⟨b2, o2, none⟩) c.ands.length yq)) := fun y hy => by
                    have := (R2.out.mono hy).cell 6 _ rfl
                    rw [HDL.out.2] at this
                    exact this
                  have hltz : (k : Int) < (c.ands.length : Int) := by omega
                  clear c10 c11 c12 c20 c21 c22 e1 e2 hltd hlt
                  go_wp2_with fail
                  clear p6
                  obtain ⟨D, hD⟩ : ∃ D : List Bool → (Nat → Value) → World → Prop, D = fun bs vs y => Pair 35 wr [.int .i64 0, .int .i64 0, .int .i64 0] [.int .i64 x0, .int .i64 x1, .int .i64 x2] [.int .i64 (x0 + 2 * n), .int .i64 y1, .int .i64 y2] bs (vs 10) (vs 11) y := ⟨_, rfl⟩
                  have HD := Lib.hid hD
                  clear hD
                  have HG : Hid (∀ (j : Nat) (v : Value) (y y' : World), Facts [isV (.pointer (some ⟨w.heap.size, 6, none⟩)), isV (.slice (some ⟨b1, o1, none⟩) c.ands.length xq), isV (.int .i64 k), isV (.pointer (some ⟨b1, o1 + k * 3, none⟩)), isV (.agg #[.int .i64 x0, .int .i64 x1, .int .i64 x2]), isV (.pointer (some ⟨Q, 6, none⟩)), isV (.slice (some ⟨b2, o2, none⟩) c.ands.length yq), isV (.int .i64 k), isV (.pointer (some ⟨b2, o2 + k * 3, none⟩)), isV (.agg #[.int .i64 (x0 + 2 * n), .int .i64 y1, .int .i64 y2]), (fun _ _ => True), (fun _ _ => True), (fun _ _ => True), (fun _ _ => True)] j v y → Facts [isV (.pointer (some ⟨w.heap.size, 6, none⟩)), isV (.slice (some ⟨b1, o1, none⟩) c.ands.length xq), isV (.int .i64 k), isV (.pointer (some ⟨b1, o1 + k * 3, none⟩)), isV (.agg #[.int .i64 x0, .int .i64 x1, .int .i64 x2]), isV (.pointer (some ⟨Q, 6, none⟩)), isV (.slice (some ⟨b2, o2, none⟩) c.ands.length yq), isV (.int .i64 k), isV (.pointer (some ⟨b2, o2 + k * 3, none⟩)), isV (.agg #[.int .i64 (x0 + 2 * n), .int .i64 y1, .int .i64 y2]), (fun _ _ => True), (fun _ _ => True), (fun _ _ => True), (fun _ _ => True)] j v y') := facts_still (by
                    intro q hq
                    simp only [List.mem_cons, List.mem_nil_iff, or_false] at hq
                    rcases hq with rfl | rfl | rfl | rfl | rfl | rfl | rfl | rfl | rfl | rfl | rfl | rfl | rfl | rfl <;> exact fun _ _ _ h => h)
                  refine wp_region_yields 14 [10, 11, 12, 13] [isV (.pointer (some ⟨w.heap.size, 6, none⟩)), isV (.slice (some ⟨b1, o1, none⟩) c.ands.length xq), isV (.int .i64 k), isV (.pointer (some ⟨b1, o1 + k * 3, none⟩)), isV (.agg #[.int .i64 x0, .int .i64 x1, .int .i64 x2]), isV (.pointer (some ⟨Q, 6, none⟩)), isV (.slice (some ⟨b2, o2, none⟩) c.ands.length yq), isV (.int .i64 k), isV (.pointer (some ⟨b2, o2 + k * 3, none⟩)), isV (.agg #[.int .i64 (x0 + 2 * n), .int .i64 y1, .int .i64 y2]), (fun _ _ => True), (fun _ _ => True), (fun _ _ => True), (fun _ _ => True)] D
                    [some 136, some 137, some 138, some 139, some 140, some 141, some 142, some 143, some 144, some 145, some 12, some 13, none, none] (by kernel_rfl) (by kernel_rfl) rfl (by
                      intro q hq
                      simp only [List.mem_cons, List.mem_nil_iff, or_false] at hq
                      rcases hq with rfl | rfl | rfl | rfl | rfl | rfl | rfl | rfl | rfl | rfl | rfl | rfl | rfl | rfl <;> first | exact isV_keeps _ | exact fun _ _ _ _ h => h)
                    (by rw [HD.out]; exact Pair.init _ _)
                    (fun bs vs vs' y y' hv hb hy => by rw [HD.out] at hy ⊢; show Pair _ _ _ _ _ _ (vs' 10) (vs' 11) _; rw [hv 10 (by decide), hv 11 (by decide)]; exact Pair.keep hy hb)
                    (by decide) ?_ ?_
                  · refine ⟨fun s vs y hs hs1 hs2 hy hd => ?_, fun s vs y hs hs1 hs2 hy hd => ?_, fun s vs y hs hs1 hs2 hy hd => ?_, fun s vs y hs hs1 hs2 hy hd => ?_, fun s vs y hs hs1 hs2 hy hd => ?_, fun s vs y hs hs1 hs2 hy hd => ?_, fun s vs y hs hs1 hs2 hy hd => ?_, fun s vs y hs hs1 hs2 hy hd => ?_, fun s vs y hs hs1 hs2 hy hd => ?_, fun s vs y hs hs1 hs2 hy hd => ?_, fun s vs y hs hs1 hs2 hy hd => ?_, fun s vs y hs hs1 hs2 hy hd => ?_, fun s vs y hs hs1 hs2 hy hd => ?_, fun s vs y hs hs1 hs2 hy hd => ?_, trivial⟩
                    · (simp only [opens]; try simp only [Nat.reduceAdd])
                      go_wp2_with fail
                      exact ⟨_, rfl, rfl, Below.refl _ _⟩
                    · have hBy : Below V.heap.size V y := Below.of hbr.out (by rw [HD.out] at hy; exact hy.1)
                      have q := P1.out y hBy
                      have g0 : vs 0 = .pointer (some ⟨w.heap.size, 6, none⟩) := hd 0 (by decide) (by kernel_rfl)
                      (simp only [opens]; try simp only [Nat.reduceAdd])
                      rw [g0]
                      go_wp2_with fail
                      exact ⟨_, rfl, rfl, Below.refl _ _⟩
                    · (simp only [opens]; try simp only [Nat.reduceAdd])
                      go_wp2_with fail
                      exact ⟨_, rfl, rfl, Below.refl _ _⟩
                    · have g0 : vs 1 = .slice (some ⟨b1, o1, none⟩) c.ands.length xq := hd 1 (by decide) (by kernel_rfl)
                      have g1 : vs 2 = .int .i64 k := hd 2 (by decide) (by kernel_rfl)
                      (simp only [opens]; try simp only [Nat.reduceAdd])
                      rw [g0, g1]
                      go_wp2_with fail
                      exact ⟨_, rfl, rfl, Below.refl _ _⟩
                    · have hBy : Below V.heap.size V y := Below.of hbr.out (by rw [HD.out] at hy; exact hy.1)
                      obtain ⟨u0, u1, u2⟩ := C1.out y hBy
                      have g0 : vs 3 = .pointer (some ⟨b1, o1 + k * 3, none⟩) := hd 3 (by decide) (by kernel_rfl)
                      (simp only [opens]; try simp only [Nat.reduceAdd])
                      rw [g0]
                      go_wp2_with fail
                      exact ⟨_, rfl, rfl, Below.refl _ _⟩
                    · (simp only [opens]; try simp only [Nat.reduceAdd])
                      go_wp2_with fail
                      exact ⟨_, rfl, rfl, Below.refl _ _⟩
                    · have hBy : Below V.heap.size V y := Below.of hbr.out (by rw [HD.out] at hy; exact hy.1)
                      have q := P2.out y hBy
                      have g0 : vs 5 = .pointer (some ⟨Q, 6, none⟩) := hd 5 (by decide) (by kernel_rfl)
                      (simp only [opens]; try simp only [Nat.reduceAdd])
                      rw [g0]
                      go_wp2_with fail
                      exact ⟨_, rfl, rfl, Below.refl _ _⟩
                    · (simp only [opens]; try simp only [Nat.reduceAdd])
                      go_wp2_with fail
                      exact ⟨_, rfl, rfl, Below.refl _ _⟩
                    · have g0 : vs 6 = .slice (some ⟨b2, o2, none⟩) c.ands.length yq := hd 6 (by decide) (by kernel_rfl)
                      have g1 : vs 7 = .int .i64 k := hd 7 (by decide) (by kernel_rfl)
                      (simp only [opens]; try simp only [Nat.reduceAdd])
                      rw [g0, g1]
                      go_wp2_with fail
                      exact ⟨_, rfl, rfl, Below.refl _ _⟩
                    · have hBy : Below V.heap.size V y := Below.of hbr.out (by rw [HD.out] at hy; exact hy.1)
                      obtain ⟨u0, u1, u2⟩ := C2.out y hBy
                      have g0 : vs 8 = .pointer (some ⟨b2, o2 + k * 3, none⟩) := hd 8 (by decide) (by kernel_rfl)
                      (simp only [opens]; try simp only [Nat.reduceAdd])
                      rw [g0]
                      go_wp2_with fail
                      exact ⟨_, rfl, rfl, Below.refl _ _⟩
                    · rw [HD.out] at hy
                      (simp only [opens]; try simp only [Nat.reduceAdd])
                      have HY := Lib.hid hy
                      clear hy hd
                      go_wp2_with fail
                      refine ⟨_, rfl, trivial, ?_, fun j _ _ h => HG.out _ _ _ _ h⟩
                      rw [HD.out]
                      show Pair _ _ _ _ _ [true, s 11, s 12, s 13] _ _ _
                      have e : s 12 = false := hs2 12 (by decide) (by kernel_rfl)
                      rw [e]
                      have hy : Pair 35 wr [.int .i64 0, .int .i64 0, .int .i64 0] [.int .i64 x0, .int .i64 x1, .int .i64 x2] [.int .i64 (x0 + 2 * n), .int .i64 y1, .int .i64 y2] [s 10, s 11, s 12, s 13] (vs 10) (vs 11) y := HY.out
                      rw [hs] at hy
                      exact hy.newX
                    · rw [HD.out] at hy
                      (simp only [opens]; try simp only [Nat.reduceAdd])
                      have HY := Lib.hid hy
                      clear hy hd
                      go_wp2_with fail
                      refine ⟨_, rfl, trivial, ?_, fun j _ _ h => HG.out _ _ _ _ h⟩
                      rw [HD.out]
                      show Pair _ _ _ _ _ [s 10, true, s 12, s 13] _ _ _
                      have e : s 13 = false := hs2 13 (by decide) (by kernel_rfl)
                      rw [e]
                      have hy : Pair 35 wr [.int .i64 0, .int .i64 0, .int .i64 0] [.int .i64 x0, .int .i64 x1, .int .i64 x2] [.int .i64 (x0 + 2 * n), .int .i64 y1, .int .i64 y2] [s 10, s 11, s 12, s 13] (vs 10) (vs 11) y := HY.out
                      rw [hs] at hy
                      exact hy.newY
                    · have hy : Pair 35 wr [.int .i64 0, .int .i64 0, .int .i64 0] [.int .i64 x0, .int .i64 x1, .int .i64 x2] [.int .i64 (x0 + 2 * n), .int .i64 y1, .int .i64 y2] [s 10, s 11, s 12, s 13] (vs 10) (vs 11) y := by rw [HD.out] at hy; exact hy
                      have e0 : s 10 = true := hs1 10 (by kernel_rfl)
                      have e1 : s 11 = true := hs1 11 (by kernel_rfl)
                      have e3 : s 13 = false := hs2 13 (by decide) (by kernel_rfl)
                      rw [e0, e1, hs, e3] at hy
                      have gv : vs 4 = .agg #[.int .i64 x0, .int .i64 x1, .int .i64 x2] := hd 4 (by decide) (by kernel_rfl)
                      obtain ⟨g, eg, hgg, hrow⟩ := hy.2.1 rfl
                      have hrow : RowL 35 y g [.int .i64 0, .int .i64 0, .int .i64 0] := hrow
                      obtain ⟨⟨d0, f0, d1, f1, d2, f2⟩, hR3, hG3⟩ := hrow.put3 (.int .i64 x0) (.int .i64 x1) (.int .i64 x2)
                      have HH := Lib.hid (hy.setX eg hR3 hG3)
                      clear hy hrow hgg hR3 hG3 hd
                      (simp only [opens]; try simp only [Nat.reduceAdd])
                      rw [eg, gv]
                      go_wp2_with fail
                      refine ⟨rfl, undef, trivial, ?_, fun j _ _ h => HG.out _ _ _ _ h⟩
                      show D _ _ _
                      rw [HD.out]
                      show Pair 35 wr [.int .i64 0, .int .i64 0, .int .i64 0] [.int .i64 x0, .int .i64 x1, .int .i64 x2] [.int .i64 (x0 + 2 * n), .int .i64 y1, .int .i64 y2] [true, true, true, false] (vs 10) (vs 11) _
                      exact HH.out
                    · have hy : Pair 35 wr [.int .i64 0, .int .i64 0, .int .i64 0] [.int .i64 x0, .int .i64 x1, .int .i64 x2] [.int .i64 (x0 + 2 * n), .int .i64 y1, .int .i64 y2] [s 10, s 11, s 12, s 13] (vs 10) (vs 11) y := by rw [HD.out] at hy; exact hy
                      have e0 : s 10 = true := hs1 10 (by kernel_rfl)
                      have e1 : s 11 = true := hs1 11 (by kernel_rfl)
                      have e2 : s 12 = true := hs1 12 (by kernel_rfl)
                      rw [e0, e1, e2, hs] at hy
                      have gv : vs 9 = .agg #[.int .i64 (x0 + 2 * n), .int .i64 y1, .int .i64 y2] := hd 9 (by decide) (by kernel_rfl)
                      obtain ⟨g, eg, hgg, hrow⟩ := hy.2.2.1 rfl
                      have hrow : RowL 35 y g [.int .i64 0, .int .i64 0, .int .i64 0] := hrow
                      obtain ⟨⟨d0, f0, d1, f1, d2, f2⟩, hR3, hG3⟩ := hrow.put3 (.int .i64 (x0 + 2 * n)) (.int .i64 y1) (.int .i64 y2)
                      have HH := Lib.hid (hy.setY eg hR3 hG3)
                      clear hy hrow hgg hR3 hG3 hd
                      (simp only [opens]; try simp only [Nat.reduceAdd])
                      rw [eg, gv]
                      go_wp2_with fail
                      refine ⟨rfl, undef, trivial, ?_, fun j _ _ h => HG.out _ _ _ _ h⟩
                      show D _ _ _
                      rw [HD.out]
                      show Pair 35 wr [.int .i64 0, .int .i64 0, .int .i64 0] [.int .i64 x0, .int .i64 x1, .int .i64 x2] [.int .i64 (x0 + 2 * n), .int .i64 y1, .int .i64 y2] [true, true, true, true] (vs 10) (vs 11) _
                      exact HH.out
                  intro vs y hy hf
                  rw [HD.out] at hy
                  obtain ⟨g1, g2, eg1, eg2, hne, hby, hx, hyy⟩ := Pair.done hy
                  (simp only [opens]; try simp only [Nat.reduceAdd])
                  rw [eg1, eg2]
                  simp only [List.drop_succ_cons, List.drop_nil, wpList]
                  have HBy := Lib.hid (Below.of hbr.out hby)
                  clear hf hy HD HG C1 C2 P1 P2 hby eg1 eg2 D
                  go_wp2_with fail
                  have p0 : ∀ x : Later y, _ := fun x => ((R1.out.mono HBy.out).mono x.below).cell 0 _ rfl
                  have p1 : ∀ x : Later y, _ := fun x => ((R1.out.mono HBy.out).mono x.below).cell 1 _ rfl
                  have p2 : ∀ x : Later y, _ := fun x => ((R1.out.mono HBy.out).mono x.below).cell 2 _ rfl
                  have p3 : ∀ x : Later y, _ := fun x => ((R1.out.mono HBy.out).mono x.below).cell 3 _ rfl
                  have p4 : ∀ x : Later y, _ := fun x => ((R1.out.mono HBy.out).mono x.below).cell 4 _ rfl
                  have p5 : ∀ x : Later y, _ := fun x => ((R1.out.mono HBy.out).mono x.below).cell 5 _ rfl
                  have p6 : ∀ x : Later y, _ := fun x => ((R1.out.mono HBy.out).mono x.below).cell 6 _ rfl
                  have p7 : ∀ x : Later y, _ := fun x => ((R1.out.mono HBy.out).mono x.below).cell 7 _ rfl
                  have u0 : ∀ x : Later y, _ := fun x => (hx.mono x.below).cell 0 _ rfl
                  have u1 : ∀ x : Later y, _ := fun x => (hx.mono x.below).cell 1 _ rfl
                  have u2 : ∀ x : Later y, _ := fun x => (hx.mono x.below).cell 2 _ rfl
                  have z0 : ∀ x : Later y, _ := fun x => (hyy.mono x.below).cell 0 _ rfl
                  have z1 : ∀ x : Later y, _ := fun x => (hyy.mono x.below).cell 1 _ rfl
                  have z2 : ∀ x : Later y, _ := fun x => (hyy.mono x.below).cell 2 _ rfl
                  have hMA : ∀ x : Later y, _ := fun x => hMvA.out x.at_ (Below.of HBy.out x.below)
                  have hMB : ∀ x : Later y, _ := fun x => hMvB.out x.at_ (Below.of HBy.out x.below)
                  obtain ⟨n0, n1⟩ := hNR.out
                  have w1 : IntKind.i64.wrap (2 * n) = 2 * n := IntWalk.i64_in _ (by omega)
                  have w2 : IntKind.i64.wrap (x0 + 2 * n) = x0 + 2 * n := IntWalk.i64_in _ (by omega)
                  have z4 : ((x0 + 2 * n) != (x0 + 2 * n)) = false := by simp
                  have z5 : (y1 != y1) = false := by simp
                  have z6 : (y2 != y2) = false := by simp
                  have hk1 : (k : Int) + 1 ≤ 9223372036854775807 := by have := hle.out; omega
                  clear hne hx hyy n0 n1 m6
                  refine wp_region_later (by kernel_rfl) (by kernel_rfl) ?_; (repeat (go_big_quiet_step ((first | (go_at_call 11; with_reducible exact Calls.later (hMA _)) | (go_at_call 11; with_reducible exact Calls.later (hMB _)))))); refine wpQuiet_nil ?_; rintro w3 ⟨⟨_, hb3⟩, rfl⟩
                  have HB5 := Lib.hid (Below.of HBy.out hb3)
                  go_wp2_with fail
                  go_roundg (c.ands.length - (k + 1))
                  case measure => exact hmea _ hg
                  case rel => exact ⟨k + 1, by omega, by omega, by go_num, HB5.out⟩
                · have hltz : ¬ (k : Int) < (c.ands.length : Int) := by omega
                  have HB4 := hbr
                  clear hbr hk hg hlt
                  go_wp2_with fail
                  have hle : Hid (c.latches.length ≤ 2048) := (by have := HRC.out.lats; show _ ≤ _; omega)
                  go_loopg [14] c.latches.length (fun gg s14 wr => ∃ k : Nat, k ≤ c.latches.length ∧ c.latches.length - k ≤ gg ∧ s14 = .int .i64 k ∧ Hid (Below V.heap.size V wr))
                  case atStart => exact ⟨0, Nat.zero_le _, by omega, rfl, HB4.out⟩
                  case round =>
                    obtain ⟨k, hk, hg, rfl, hbr⟩ := hrel
                    have p6 := (R1.out.mono hbr.out).cell 2 _ rfl
                    by_cases hlt : k < c.latches.length
                    · have hmea : ∀ g : Nat, c.latches.length - k ≤ g → c.latches.length - (k + 1) < g := fun g h => by omega
                      have hltd : k < DD.latches.length := by rw [HDL.out.1]; exact hlt
                      have hmv := (moved_lat c HRC.out tv n hNR.out.1 k hlt (by have := hltd; rw [HD2.out] at this; exact this))
                      obtain ⟨b1, o1, rfl, e1, -, c10, c11, c12⟩ := HLc.out k hlt
                      obtain ⟨b2, o2, rfl, e2, -, c20, c21, c22⟩ := HLd.out k hltd
                      obtain ⟨DK, hDK⟩ : ∃ DK, DK = DD.latches[k] := ⟨_, rfl⟩
                      rw [← hDK] at c20 c21 c22
                      have hDK2 : DK = (PC.shiftC c tv n).latches[k]'(by have := hltd; rw [HD2.out] at this; exact this) := by rw [hDK]; simp only [HD2.out]
                      rw [← hDK2] at hmv
                      obtain ⟨m1, m2, m3, m4, m6⟩ := hmv
                      clear hDK2 hDK
                      have hMvA := Lib.hid fun (y : World) (hy : Below V.heap.size V y) => moved36_any c tv n c.latches[k].next _ _ y (HI.out.mono (Below.of HBV.out hy)) (HT.out.mono (Below.of HBV.out hy)) HRC.out HLT.out m4.1 m4.2 hNR.out.1 hNR.out.2 HTo.out
                      rw [← m2] at hMvA
                      rw [m1] at c20
                      clear m1 m2 m4
                      generalize c.latches[k].lit = x0 at *
                      generalize c.latches[k].next = x1 at *
                      generalize c.latches[k].reset = x2 at *
                      generalize DK.next = y1 at *
                      generalize DK.reset = y2 at *
                      have C1 : Hid (∀ y, Below V.heap.size V y → y.cell? ⟨b1, o1 + k * 3, none⟩ = some (.int .i64 x0) ∧ y.cell? ⟨b1, o1 + k * 3 + 1, none⟩ = some (.int .i64 x1) ∧ y.cell? ⟨b1, o1 + k * 3 + 2, none⟩ = some (.int .i64 x2)) := fun y hy => ⟨(hy.cell e1).trans c10, (hy.cell e1).trans c11, (hy.cell e1).trans c12⟩
                      have C2 : Hid (∀ y, Below V.heap.size V y → y.cell? ⟨b2, o2 + k * 3, none⟩ = some (.int .i64 (x0 + 2 * n)) ∧ y.cell? ⟨b2, o2 + k * 3 + 1, none⟩ = some (.int .i64 y1) ∧ y.cell? ⟨b2, o2 + k * 3 + 2, none⟩ = some (.int .i64 y2)) := fun y hy => ⟨(hy.cell e2).trans c20, (hy.cell e2).trans c21, (hy.cell e2).trans c22⟩
                      have P1 : Hid (∀ y, Below V.heap.size V y → y.cell? ⟨w.heap.size, 2, none⟩ = some (.slice (some ⟨b1, o1, none⟩) c.latches.length xm)) := fun y hy => (R1.out.mono hy).cell 2 _ rfl
                      have P2 : Hid (∀ y, Below V.heap.size V y → y.cell? ⟨Q, 2, none⟩ = some (.slice (some ⟨b2, o2, none⟩) c.latches.length ym)) := fun y hy => by
                        have := (R2.out.mono hy).cell 2 _ rfl
                        rw [HDL.out.1] at this
                        exact this
                      have hltz : (k : Int) < (c.latches.length : Int) := by omega
                      clear c10 c11 c12 c20 c21 c22 e1 e2 hltd hlt
                      go_wp2_with fail
                      clear p6
                      obtain ⟨D, hD⟩ : ∃ D : List Bool → (Nat → Value) → World → Prop, D = fun bs vs y => Pair 38 wr [.int .i64 0, .int .i64 0, .int .i64 0] [.int .i64 x0, .int .i64 x1, .int .i64 x2] [.int .i64 (x0 + 2 * n), .int .i64 y1, .int .i64 y2] bs (vs 10) (vs 11) y := ⟨_, rfl⟩
                      have HD := Lib.hid hD
                      clear hD
                      have HG : Hid (∀ (j : Nat) (v : Value) (y y' : World), Facts [isV (.pointer (some ⟨w.heap.size, 2, none⟩)), isV (.slice (some ⟨b1, o1, none⟩) c.latches.length xm), isV (.int .i64 k), isV (.pointer (some ⟨b1, o1 + k * 3, none⟩)), isV (.agg #[.int .i64 x0, .int .i64 x1, .int .i64 x2]), isV (.pointer (some ⟨Q, 2, none⟩)), isV (.slice (some ⟨b2, o2, none⟩) c.latches.length ym), isV (.int .i64 k), isV (.pointer (some ⟨b2, o2 + k * 3, none⟩)), isV (.agg #[.int .i64 (x0 + 2 * n), .int .i64 y1, .int .i64 y2]), (fun _ _ => True), (fun _ _ => True), (fun _ _ => True), (fun _ _ => True)] j v y → Facts [isV (.pointer (some ⟨w.heap.size, 2, none⟩)), isV (.slice (some ⟨b1, o1, none⟩) c.latches.length xm), isV (.int .i64 k), isV (.pointer (some ⟨b1, o1 + k * 3, none⟩)), isV (.agg #[.int .i64 x0, .int .i64 x1, .int .i64 x2]), isV (.pointer (some ⟨Q, 2, none⟩)), isV (.slice (some ⟨b2, o2, none⟩) c.latches.length ym), isV (.int .i64 k), isV (.pointer (some ⟨b2, o2 + k * 3, none⟩)), isV (.agg #[.int .i64 (x0 + 2 * n), .int .i64 y1, .int .i64 y2]), (fun _ _ => True), (fun _ _ => True), (fun _ _ => True), (fun _ _ => True)] j v y') := facts_still (by
                        intro q hq
                        simp only [List.mem_cons, List.mem_nil_iff, or_false] at hq
                        rcases hq with rfl | rfl | rfl | rfl | rfl | rfl | rfl | rfl | rfl | rfl | rfl | rfl | rfl | rfl <;> exact fun _ _ _ h => h)
                      refine wp_region_yields 14 [10, 11, 12, 13] [isV (.pointer (some ⟨w.heap.size, 2, none⟩)), isV (.slice (some ⟨b1, o1, none⟩) c.latches.length xm), isV (.int .i64 k), isV (.pointer (some ⟨b1, o1 + k * 3, none⟩)), isV (.agg #[.int .i64 x0, .int .i64 x1, .int .i64 x2]), isV (.pointer (some ⟨Q, 2, none⟩)), isV (.slice (some ⟨b2, o2, none⟩) c.latches.length ym), isV (.int .i64 k), isV (.pointer (some ⟨b2, o2 + k * 3, none⟩)), isV (.agg #[.int .i64 (x0 + 2 * n), .int .i64 y1, .int .i64 y2]), (fun _ _ => True), (fun _ _ => True), (fun _ _ => True), (fun _ _ => True)] D
                        [some 183, some 184, some 185, some 186, some 187, some 188, some 189, some 190, some 191, some 192, some 15, some 16, none, none] (by kernel_rfl) (by kernel_rfl) rfl (by
                          intro q hq
                          simp only [List.mem_cons, List.mem_nil_iff, or_false] at hq
                          rcases hq with rfl | rfl | rfl | rfl | rfl | rfl | rfl | rfl | rfl | rfl | rfl | rfl | rfl | rfl <;> first | exact isV_keeps _ | exact fun _ _ _ _ h => h)
                        (by rw [HD.out]; exact Pair.init _ _)
                        (fun bs vs vs' y y' hv hb hy => by rw [HD.out] at hy ⊢; show Pair _ _ _ _ _ _ (vs' 10) (vs' 11) _; rw [hv 10 (by decide), hv 11 (by decide)]; exact Pair.keep hy hb)
                        (by decide) ?_ ?_
                      · refine ⟨fun s vs y hs hs1 hs2 hy hd => ?_, fun s vs y hs hs1 hs2 hy hd => ?_, fun s vs y hs hs1 hs2 hy hd => ?_, fun s vs y hs hs1 hs2 hy hd => ?_, fun s vs y hs hs1 hs2 hy hd => ?_, fun s vs y hs hs1 hs2 hy hd => ?_, fun s vs y hs hs1 hs2 hy hd => ?_, fun s vs y hs hs1 hs2 hy hd => ?_, fun s vs y hs hs1 hs2 hy hd => ?_, fun s vs y hs hs1 hs2 hy hd => ?_, fun s vs y hs hs1 hs2 hy hd => ?_, fun s vs y hs hs1 hs2 hy hd => ?_, fun s vs y hs hs1 hs2 hy hd => ?_, fun s vs y hs hs1 hs2 hy hd => ?_, trivial⟩
                        · (simp only [opens]; try simp only [Nat.reduceAdd])
                          go_wp2_with fail
                          exact ⟨_, rfl, rfl, Below.refl _ _⟩
                        · have hBy : Below V.heap.size V y := Below.of hbr.out (by rw [HD.out] at hy; exact hy.1)
                          have q := P1.out y hBy
                          have g0 : vs 0 = .pointer (some ⟨w.heap.size, 2, none⟩) := hd 0 (by decide) (by kernel_rfl)
                          (simp only [opens]; try simp only [Nat.reduceAdd])
                          rw [g0]
                          go_wp2_with fail
                          exact ⟨_, rfl, rfl, Below.refl _ _⟩
                        · (simp only [opens]; try simp only [Nat.reduceAdd])
                          go_wp2_with fail
                          exact ⟨_, rfl, rfl, Below.refl _ _⟩
                        · have g0 : vs 1 = .slice (some ⟨b1, o1, none⟩) c.latches.length xm := hd 1 (by decide) (by kernel_rfl)
                          have g1 : vs 2 = .int .i64 k := hd 2 (by decide) (by kernel_rfl)
                          (simp only [opens]; try simp only [Nat.reduceAdd])
                          rw [g0, g1]
                          go_wp2_with fail
                          exact ⟨_, rfl, rfl, Below.refl _ _⟩
                        · have hBy : Below V.heap.size V y := Below.of hbr.out (by rw [HD.out] at hy; exact hy.1)
                          obtain ⟨u0, u1, u2⟩ := C1.out y hBy
                          have g0 : vs 3 = .pointer (some ⟨b1, o1 + k * 3, none⟩) := hd 3 (by decide) (by kernel_rfl)
                          (simp only [opens]; try simp only [Nat.reduceAdd])
                          rw [g0]
                          go_wp2_with fail
                          exact ⟨_, rfl, rfl, Below.refl _ _⟩
                        · (simp only [opens]; try simp only [Nat.reduceAdd])
                          go_wp2_with fail
                          exact ⟨_, rfl, rfl, Below.refl _ _⟩
                        · have hBy : Below V.heap.size V y := Below.of hbr.out (by rw [HD.out] at hy; exact hy.1)
                          have q := P2.out y hBy
                          have g0 : vs 5 = .pointer (some ⟨Q, 2, none⟩) := hd 5 (by decide) (by kernel_rfl)
                          (simp only [opens]; try simp only [Nat.reduceAdd])
                          rw [g0]
                          go_wp2_with fail
                          exact ⟨_, rfl, rfl, Below.refl _ _⟩
                        · (simp only [opens]; try simp only [Nat.reduceAdd])
                          go_wp2_with fail
                          exact ⟨_, rfl, rfl, Below.refl _ _⟩
                        · have g0 : vs 6 = .slice (some ⟨b2, o2, none⟩) c.latches.length ym := hd 6 (by decide) (by kernel_rfl)
                          have g1 : vs 7 = .int .i64 k := hd 7 (by decide) (by kernel_rfl)
                          (simp only [opens]; try simp only [Nat.reduceAdd])
                          rw [g0, g1]
                          go_wp2_with fail
                          exact ⟨_, rfl, rfl, Below.refl _ _⟩
                        · have hBy : Below V.heap.size V y := Below.of hbr.out (by rw [HD.out] at hy; exact hy.1)
                          obtain ⟨u0, u1, u2⟩ := C2.out y hBy
                          have g0 : vs 8 = .pointer (some ⟨b2, o2 + k * 3, none⟩) := hd 8 (by decide) (by kernel_rfl)
                          (simp only [opens]; try simp only [Nat.reduceAdd])
                          rw [g0]
                          go_wp2_with fail
                          exact ⟨_, rfl, rfl, Below.refl _ _⟩
                        · rw [HD.out] at hy
                          (simp only [opens]; try simp only [Nat.reduceAdd])
                          have HY := Lib.hid hy
                          clear hy hd
                          go_wp2_with fail
                          refine ⟨_, rfl, trivial, ?_, fun j _ _ h => HG.out _ _ _ _ h⟩
                          rw [HD.out]
                          show Pair _ _ _ _ _ [true, s 11, s 12, s 13] _ _ _
                          have e : s 12 = false := hs2 12 (by decide) (by kernel_rfl)
                          rw [e]
                          have hy : Pair 38 wr [.int .i64 0, .int .i64 0, .int .i64 0] [.int .i64 x0, .int .i64 x1, .int .i64 x2] [.int .i64 (x0 + 2 * n), .int .i64 y1, .int .i64 y2] [s 10, s 11, s 12, s 13] (vs 10) (vs 11) y := HY.out
                          rw [hs] at hy
                          exact hy.newX
                        · rw [HD.out] at hy
                          (simp only [opens]; try simp only [Nat.reduceAdd])
                          have HY := Lib.hid hy
                          clear hy hd
                          go_wp2_with fail
                          refine ⟨_, rfl, trivial, ?_, fun j _ _ h => HG.out _ _ _ _ h⟩
                          rw [HD.out]
                          show Pair _ _ _ _ _ [s 10, true, s 12, s 13] _ _ _
                          have e : s 13 = false := hs2 13 (by decide) (by kernel_rfl)
                          rw [e]
                          have hy : Pair 38 wr [.int .i64 0, .int .i64 0, .int .i64 0] [.int .i64 x0, .int .i64 x1, .int .i64 x2] [.int .i64 (x0 + 2 * n), .int .i64 y1, .int .i64 y2] [s 10, s 11, s 12, s 13] (vs 10) (vs 11) y := HY.out
                          rw [hs] at hy
                          exact hy.newY
                        · have hy : Pair 38 wr [.int .i64 0, .int .i64 0, .int .i64 0] [.int .i64 x0, .int .i64 x1, .int .i64 x2] [.int .i64 (x0 + 2 * n), .int .i64 y1, .int .i64 y2] [s 10, s 11, s 12, s 13] (vs 10) (vs 11) y := by rw [HD.out] at hy; exact hy
                          have e0 : s 10 = true := hs1 10 (by kernel_rfl)
                          have e1 : s 11 = true := hs1 11 (by kernel_rfl)
                          have e3 : s 13 = false := hs2 13 (by decide) (by kernel_rfl)
                          rw [e0, e1, hs, e3] at hy
                          have gv : vs 4 = .agg #[.int .i64 x0, .int .i64 x1, .int .i64 x2] := hd 4 (by decide) (by kernel_rfl)
                          obtain ⟨g, eg, hgg, hrow⟩ := hy.2.1 rfl
                          have hrow : RowL 38 y g [.int .i64 0, .int .i64 0, .int .i64 0] := hrow
                          obtain ⟨⟨d0, f0, d1, f1, d2, f2⟩, hR3, hG3⟩ := hrow.put3 (.int .i64 x0) (.int .i64 x1) (.int .i64 x2)
                          have HH := Lib.hid (hy.setX eg hR3 hG3)
                          clear hy hrow hgg hR3 hG3 hd
                          (simp only [opens]; try simp only [Nat.reduceAdd])
                          rw [eg, gv]
                          go_wp2_with fail
                          refine ⟨rfl, undef, trivial, ?_, fun j _ _ h => HG.out _ _ _ _ h⟩
                          show D _ _ _
                          rw [HD.out]
                          show Pair 38 wr [.int .i64 0, .int .i64 0, .int .i64 0] [.int .i64 x0, .int .i64 x1, .int .i64 x2] [.int .i64 (x0 + 2 * n), .int .i64 y1, .int .i64 y2] [true, true, true, false] (vs 10) (vs 11) _
                          exact HH.out
                        · have hy : Pair 38 wr [.int .i64 0, .int .i64 0, .int .i64 0] [.int .i64 x0, .int .i64 x1, .int .i64 x2] [.int .i64 (x0 + 2 * n), .int .i64 y1, .int .i64 y2] [s 10, s 11, s 12, s 13] (vs 10) (vs 11) y := by rw [HD.out] at hy; exact hy
                          have e0 : s 10 = true := hs1 10 (by kernel_rfl)
                          have e1 : s 11 = true := hs1 11 (by kernel_rfl)
                          have e2 : s 12 = true := hs1 12 (by kernel_rfl)
                          rw [e0, e1, e2, hs] at hy
                          have gv : vs 9 = .agg #[.int .i64 (x0 + 2 * n), .int .i64 y1, .int .i64 y2] := hd 9 (by decide) (by kernel_rfl)
                          obtain ⟨g, eg, hgg, hrow⟩ := hy.2.2.1 rfl
                          have hrow : RowL 38 y g [.int .i64 0, .int .i64 0, .int .i64 0] := hrow
                          obtain ⟨⟨d0, f0, d1, f1, d2, f2⟩, hR3, hG3⟩ := hrow.put3 (.int .i64 (x0 + 2 * n)) (.int .i64 y1) (.int .i64 y2)
                          have HH := Lib.hid (hy.setY eg hR3 hG3)
                          clear hy hrow hgg hR3 hG3 hd
                          (simp only [opens]; try simp only [Nat.reduceAdd])
                          rw [eg, gv]
                          go_wp2_with fail
                          refine ⟨rfl, undef, trivial, ?_, fun j _ _ h => HG.out _ _ _ _ h⟩
                          show D _ _ _
                          rw [HD.out]
                          show Pair 38 wr [.int .i64 0, .int .i64 0, .int .i64 0] [.int .i64 x0, .int .i64 x1, .int .i64 x2] [.int .i64 (x0 + 2 * n), .int .i64 y1, .int .i64 y2] [true, true, true, true] (vs 10) (vs 11) _
                          exact HH.out
                      intro vs y hy hf
                      rw [HD.out] at hy
                      obtain ⟨g1, g2, eg1, eg2, hne, hby, hx, hyy⟩ := Pair.done hy
                      (simp only [opens]; try simp only [Nat.reduceAdd])
                      rw [eg1, eg2]
                      simp only [List.drop_succ_cons, List.drop_nil, wpList]
                      have HBy := Lib.hid (Below.of hbr.out hby)
                      clear hf hy HD HG C1 C2 P1 P2 hby eg1 eg2 D
                      go_wp2_with fail
                      have p0 : ∀ x : Later y, _ := fun x => ((R1.out.mono HBy.out).mono x.below).cell 0 _ rfl
                      have p1 : ∀ x : Later y, _ := fun x => ((R1.out.mono HBy.out).mono x.below).cell 1 _ rfl
                      have p2 : ∀ x : Later y, _ := fun x => ((R1.out.mono HBy.out).mono x.below).cell 2 _ rfl
                      have p3 : ∀ x : Later y, _ := fun x => ((R1.out.mono HBy.out).mono x.below).cell 3 _ rfl
                      have p4 : ∀ x : Later y, _ := fun x => ((R1.out.mono HBy.out).mono x.below).cell 4 _ rfl
                      have p5 : ∀ x : Later y, _ := fun x => ((R1.out.mono HBy.out).mono x.below).cell 5 _ rfl
                      have p6 : ∀ x : Later y, _ := fun x => ((R1.out.mono HBy.out).mono x.below).cell 6 _ rfl
                      have p7 : ∀ x : Later y, _ := fun x => ((R1.out.mono HBy.out).mono x.below).cell 7 _ rfl
                      have u0 : ∀ x : Later y, _ := fun x => (hx.mono x.below).cell 0 _ rfl
                      have u1 : ∀ x : Later y, _ := fun x => (hx.mono x.below).cell 1 _ rfl
                      have u2 : ∀ x : Later y, _ := fun x => (hx.mono x.below).cell 2 _ rfl
                      have z0 : ∀ x : Later y, _ := fun x => (hyy.mono x.below).cell 0 _ rfl
                      have z1 : ∀ x : Later y, _ := fun x => (hyy.mono x.below).cell 1 _ rfl
                      have z2 : ∀ x : Later y, _ := fun x => (hyy.mono x.below).cell 2 _ rfl
                      have hMA : ∀ x : Later y, _ := fun x => hMvA.out x.at_ (Below.of HBy.out x.below)
                      obtain ⟨n0, n1⟩ := hNR.out
                      have w1 : IntKind.i64.wrap (2 * n) = 2 * n := IntWalk.i64_in _ (by omega)
                      have w2 : IntKind.i64.wrap (x0 + 2 * n) = x0 + 2 * n := IntWalk.i64_in _ (by omega)
                      have z4 : ((x0 + 2 * n) != (x0 + 2 * n)) = false := by simp
                      have z5 : (y1 != y1) = false := by simp
                      obtain ⟨B, hB⟩ : ∃ B, B = (x2 == x0) := ⟨_, rfl⟩
                      rw [← hB] at m3
                      have z6 : (!(B == B)) = false := by simp
                      have z7 : (B != B) = false := by simp
                      have hB2 := hB.symm
                      clear hB
                      have hk1 : (k : Int) + 1 ≤ 9223372036854775807 := by have := hle.out; omega
                      clear hne hx hyy n0 n1 m6
                      refine wp_region_later (by kernel_rfl) (by kernel_rfl) ?_; (repeat (go_big_quiet_step ((go_at_call 11; with_reducible exact Calls.later (hMA _))))); refine wpQuiet_nil ?_; rintro w3 ⟨⟨_, hb3⟩, rfl⟩
                      have HB5 := Lib.hid (Below.of HBy.out hb3)
                      go_wp2_with fail
                      go_roundg (c.latches.length - (k + 1))
                      case measure => exact hmea _ hg
                      case rel => exact ⟨k + 1, by omega, by omega, by go_num, HB5.out⟩
                    · have hltz : ¬ (k : Int) < (c.latches.length : Int) := by omega
                      have HB4 := hbr
                      clear hbr hk hg hlt
                      go_wp2_with fail
                      go_ret
                      exact ⟨rfl, Below.of HBV.out HB4.out⟩

end Go.Proofs.YtpkaoabpifeigaaGreatDoor
