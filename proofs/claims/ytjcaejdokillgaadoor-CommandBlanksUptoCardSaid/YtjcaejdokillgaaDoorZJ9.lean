/- Contracts: the closure that recovers, of the reader of lines. -/
import Derived.Test.YtjcaejdokillgaaDoorZWalkJ8
namespace Go.Proofs.YtjcaejdokillgaaDoor
open Go.RowKit Go.Shelf
attribute [local simp] mk_get

theorem ta_hitJ (at_ er : Int) (w : World) : (Instr.typeAssert (.iface 77 (.agg #[.int .i64 at_, .int .i64 er])) 20 77 true).run Tryd.prog w = .ok (.tuple #[.agg #[.int .i64 at_, .int .i64 er], .bool true]) w := by kernel_rfl
theorem ta_nilJ (w : World) : (Instr.typeAssert .nilIface 20 77 true).run Tryd.prog w = .ok (.tuple #[.agg #[.int .i64 0, .int .i64 0], .bool false]) w := by kernel_rfl

abbrev zero8 : List Value := [.int .i64 0, .slice none 0 0, .slice none 0 0, .slice none 0 0, .slice none 0 0, .slice none 0 0, .slice none 0 0, .slice none 0 0]

theorem frameJ (p0 p1 p2 : Value) : (#[p0, p1, p2] ++ Array.replicate (Tryd.f31.ntmps - (#[p0, p1, p2] : Array Value).size) undef : Array Value) = #[p0, p1, p2, undef, undef, undef, undef, undef, undef, undef, undef, undef, undef, undef, undef, undef] := rfl

set_option maxRecDepth 100000 in
set_option maxHeartbeats 1000000 in
theorem jCatch_idle (p0 p1 p2 : Value) (w : World) :
    CallsD Tryd.prog 31 #[p0, p1, p2] .returning w fun e u' w' => e = .returned (.tuple #[]) ∧ u' = .returning ∧ Below w.heap.size w w' := by
  have hta := ta_nilJ
  refine callsD_of_wpS Tryd.func31 rfl fun c₀ cs hu => ?_
  rw [frameJ]
  apply wpS_seq
  apply wpS_region
  simp [wpOpsS, go_sem, recoverD, hu, hta, Exit.thenS]
  apply wpS_seq
  apply wpS_region
  simp [wpOpsS, go_sem, Exit.thenS]
  refine wpS_cond (t := false) (by simp [Act.eval]) ?_
  simp only [Bool.false_eq_true, if_false]
  refine wpS_of_wp (wp_skip ?_)
  cases c₀
  simp_all [bodyPostS, results, Tryd.results31]
  exact (Below.refl _ _).alloc (Nat.le_refl _) _

theorem RowL.row {T : TypeId} {y : World} {g : Nat} {l : List Value} (h : RowL T y g l) (d : List Value) : RowL T (y.setRow g d.toArray) g d := setRow_heap y g _ _ T (0, 0) h
theorem row_grown (y : World) (g : Nat) (d : Array Value) : y.grownBy (y.setRow g d) (some g) := ⟨rfl, rfl, rfl, by simp, fun k _ hk => setRow_other y g k d fun e => hk (by rw [e])⟩

/-- a struct is written into its variable -/
theorem wpList_row {P : Program} {ops : Array Oper} {rest : List Oper} {o : Oper} {a : Act} {w : World} {Q : Exit → Act → World → Prop} (hgd : o.guard = none) (ty : TypeId) (x y : Operand) (ho : o.op = .store ty x y)
    (g : Nat) (d : List Value) (hx : a.eval x = .pointer (some ⟨g, 0, none⟩)) (hy : a.eval y = .agg d.toArray) {T : TypeId} {l : List Value} (hR : RowL T w g l) (hi : (P.info? ty).map (·.size) = some d.length)
    (hl : l.length = d.length) (h1 : d.toArray.all (·.oneCell') = true) (h : ∀ w', RowL T w' g d → w.grownBy w' (some g) → wpList P ops Q rest (a.put o.dst undef) w') : wpList P ops Q (o :: rest) a w :=
  wpList_store_row hgd ty x y ho g d.toArray hx hy T l.toArray hR (by simpa using hi) (by simpa using hl) h1 (h _ (hR.row d) (row_grown w g _))

theorem facts_isV (xs : List Value) (j : Nat) (v : Value) (y y' : World) (h : Facts (xs.map isV) j v y) : Facts (xs.map isV) j v y' := by
  unfold Facts at *
  rw [List.getElem?_map] at *
  cases hx : xs[j]? with
  | none => rw [hx] at h; exact h
  | some x => rw [hx] at h; exact h
theorem keeps_isV (xs : List Value) : ∀ g ∈ xs.map isV, Keeps g := fun g hg => by
  obtain ⟨x, _, rfl⟩ := List.mem_map.1 hg
  exact isV_keeps _
theorem list8 {cs : List Value} (h : cs.length = 8) : ∃ c0 c1 c2 c3 c4 c5 c6 c7, cs = [c0, c1, c2, c3, c4, c5, c6, c7] := by
  match cs, h with
  | [a, b, c, d, e, f, g, i], _ => exact ⟨a, b, c, d, e, f, g, i, rfl⟩
theorem RowL.ne {T U : TypeId} {y : World} {g k : Nat} {l l' : List Value} (h : RowL T y g l) (h' : RowL U y k l') (hne : T ≠ U) : g ≠ k := fun e => by
  subst e
  unfold RowL at h h'
  rw [h] at h'
  simp at h'
  exact hne h'.2

set_option maxRecDepth 100000 in
set_option maxHeartbeats 2000000 in
theorem jCatch_hit (b : Nat) (at_ er : Int) (cs : List Value) (hcs : cs.length = 8) (x y : Value) (w : World) (h0 : RowL 27 w b cs) (h1 : RowL 3 w (b + 1) [x]) (h2 : RowL 29 w (b + 2) [y]) :
    CallsD Tryd.prog 31 #[.pointer (some ⟨b, 0, none⟩), .pointer (some ⟨b + 1, 0, none⟩), .pointer (some ⟨b + 2, 0, none⟩)] (.panicking [{ v := .iface 77 (.agg #[.int .i64 at_, .int .i64 er]), recovered := false }]) w fun e u' w' =>
      e = .returned (.tuple #[]) ∧ u' = .panicking [{ v := .iface 77 (.agg #[.int .i64 at_, .int .i64 er]), recovered := true }] ∧ RowL 27 w' b zero8 ∧ RowL 3 w' (b + 1) [.int .i64 at_] ∧ RowL 29 w' (b + 2) [.int .i64 er] ∧ Below b w w' := by
  have hta := ta_hitJ at_ er
  have H0 := Lib.hid h0
  have H1 := Lib.hid h1
  have H2 := Lib.hid h2
  clear h0 h1 h2
  refine callsD_of_wpS Tryd.func31 rfl fun c₀ cs' hu => ?_
  rw [frameJ]
  apply wpS_seq
  apply wpS_region
  simp [wpOpsS, go_sem, recoverD, hu, hta, Exit.thenS]
  apply wpS_seq
  apply wpS_region
  simp [wpOpsS, go_sem, Exit.thenS]
  refine wpS_cond (t := true) (by simp [Act.eval]) ?_
  simp only [if_true]
  refine wpS_of_wp ?_
  have hbl := H0.out.lt
  obtain ⟨V, hV⟩ : ∃ V, V = w.alloc (.cells #[.int .i64 at_, .int .i64 er] 77) := ⟨_, rfl⟩
  have hbV : Below w.heap.size w V := by rw [hV]; exact (Below.refl _ _).alloc (Nat.le_refl _) _
  have K0 := Lib.hid (H0.out.mono hbV)
  have K1 := Lib.hid (H1.out.mono hbV)
  have K2 := Lib.hid (H2.out.mono hbV)
  have KF : Hid (RowL 77 V w.heap.size [.int .i64 at_, .int .i64 er]) := by show RowL _ _ _ _; rw [hV]; exact RowL.new w _
  have KB : Hid (Below b w V) := hbV.mono (by omega)
  rw [← hV]
  obtain ⟨F, hF⟩ : ∃ F, F = w.heap.size := ⟨_, rfl⟩
  rw [← hF] at KF ⊢
  have hbF : Hid (b + 2 < F) := by have := H2.out.lt; show b + 2 < F; omega
  clear hV hbV hF hbl H0 H1 H2 hta hu
  refine wp_region_writes 7 [5, 6] ([.agg #[.int .i64 0, .slice none 0 0, .slice none 0 0, .slice none 0 0, .slice none 0 0, .slice none 0 0, .slice none 0 0, .slice none 0 0], .pointer (some ⟨F, 0, none⟩), .int .i64 at_, .pointer (some ⟨F, 1, none⟩), .int .i64 er, undef, undef].map isV)
    (fun bs z => RowL 27 z b (if bs.headD false = true then zero8 else cs) ∧ RowL 3 z (b + 1) [if (bs.drop 1).headD false = true then .int .i64 at_ else x] ∧ RowL 29 z (b + 2) [y] ∧ RowL 77 z F [.int .i64 at_, .int .i64 er] ∧ Below b w z)
    [some 11, some 12, some 13, some 14, some 15, none, none] (by kernel_rfl) (by kernel_rfl) rfl (keeps_isV _) ⟨K0.out.drew, K1.out.drew, K2.out.drew, KF.out.drew, KB.out.drew⟩
    (fun bs z z' hb ⟨a0, a1, a2, a3, a4⟩ => ⟨a0.mono hb, a1.mono hb, a2.mono hb, a3.mono hb, a4.trans (hb.mono (by have := a0.lt; omega))⟩) (by decide) ?_ ?_
  · refine ⟨fun s vs Y h1 h2 h3 hy hd => ?_, fun s vs Y h1 h2 h3 hy hd => ?_, fun s vs Y h1 h2 h3 hy hd => ?_, fun s vs Y h1 h2 h3 hy hd => ?_, fun s vs Y h1 h2 h3 hy hd => ?_, fun s vs Y h1 h2 h3 hy hd => ?_, fun s vs Y h1 h2 h3 hy hd => ?_, trivial⟩
    · (simp only [opens]; try simp only [Nat.reduceAdd])
      go_wp2_with fail
      exact ⟨_, rfl, rfl, Below.refl _ _⟩
    · (simp only [opens]; try simp only [Nat.reduceAdd])
      go_wp2_with fail
      exact ⟨_, rfl, rfl, Below.refl _ _⟩
    · have g0 : vs 1 = .pointer (some ⟨F, 0, none⟩) := hd 1 (by decide) (by kernel_rfl)
      have hc := hy.2.2.2.1.cell 0 _ rfl
      (simp only [opens]; try simp only [Nat.reduceAdd])
      rw [g0]
      go_wp2_with fail
      exact ⟨_, rfl, rfl, Below.refl _ _⟩
    · (simp only [opens]; try simp only [Nat.reduceAdd])
      go_wp2_with fail
      exact ⟨_, rfl, rfl, Below.refl _ _⟩
    · have g0 : vs 3 = .pointer (some ⟨F, 1, none⟩) := hd 3 (by decide) (by kernel_rfl)
      have hc := hy.2.2.2.1.cell 1 _ rfl
      (simp only [opens]; try simp only [Nat.reduceAdd])
      rw [g0]
      go_wp2_with fail
      exact ⟨_, rfl, rfl, Below.refl _ _⟩
    · have g0 : vs 0 = .agg zero8.toArray := hd 0 (by decide) (by kernel_rfl)
      have e6 : s 6 = false := h3 6 (by decide) (by kernel_rfl)
      obtain ⟨a0, a1, a2, a3, a4⟩ := hy
      simp only [List.map_cons, List.headD_cons, List.drop_succ_cons, List.drop_zero, h1, e6, Bool.false_eq_true, if_false] at a0 a1
      (simp only [opens]; try simp only [Nat.reduceAdd])
      rw [g0]
      refine wpList_row rfl 27 _ _ rfl b zero8 rfl rfl a0 (by kernel_rfl) (by rw [hcs]; rfl) (by kernel_rfl) ?_
      intro z q0 q1
      have w1 := a1.grown q1 (fun e => by have := Option.some.inj e; omega)
      have w2 := a2.grown q1 (fun e => by have := Option.some.inj e; omega)
      have w3 := a3.grown q1 (fun e => by have := Option.some.inj e; have := hbF.out; omega)
      have w4 := a4.grown q1 (by have := a0.lt; omega) (fun k e => by cases e; exact Nat.le_refl _)
      refine ⟨undef, rfl, rfl, ?_⟩
      refine ⟨?_, fun j _ _ h => facts_isV [.agg #[.int .i64 0, .slice none 0 0, .slice none 0 0, .slice none 0 0, .slice none 0 0, .slice none 0 0, .slice none 0 0, .slice none 0 0], .pointer (some ⟨F, 0, none⟩), .int .i64 at_, .pointer (some ⟨F, 1, none⟩), .int .i64 er, undef, undef] _ _ _ _ h⟩
      simp only [List.map_cons, List.headD_cons, List.drop_succ_cons, List.drop_zero, if_true, Bool.false_eq_true, if_false, Nat.reduceEqDiff, e6]
      exact ⟨q0, w1, w2, w3, w4⟩
    · have g0 : vs 2 = .int .i64 at_ := hd 2 (by decide) (by kernel_rfl)
      have e5 : s 5 = true := h2 5 (by kernel_rfl)
      obtain ⟨a0, a1, a2, a3, a4⟩ := hy
      simp only [List.map_cons, List.headD_cons, List.drop_succ_cons, List.drop_zero, h1, e5, if_true, Bool.false_eq_true, if_false] at a0 a1
      have c1 := a1.cell 0 _ rfl
      have f1 := a1.frozen 0
      have q1 := set_grown' Y (b + 1) 0 (.int .i64 at_)
      have q0 := a1.set 0 (.int .i64 at_)
      have w1 := a0.grown q1 (fun e => by have := Option.some.inj e; omega)
      have w2 := a2.grown q1 (fun e => by have := Option.some.inj e; omega)
      have w3 := a3.grown q1 (fun e => by have := Option.some.inj e; have := hbF.out; omega)
      have w4 := a4.grown q1 (by have := a0.lt; omega) (fun k e => by cases e; omega)
      have R := Lib.hid (And.intro w1 (And.intro q0 (And.intro w2 (And.intro w3 w4))))
      have hct : ([5, 6] : List Nat).contains 6 = true := rfl
      clear w1 w2 w3 w4 q0 q1 a0 a1 a2 a3 a4 h1 h2 h3 hd
      (simp only [opens]; try simp only [Nat.reduceAdd])
      rw [g0]
      go_wp2_with fail
      exact ⟨rfl, ⟨undef, rfl⟩, R.out, fun j _ _ h => facts_isV [.agg #[.int .i64 0, .slice none 0 0, .slice none 0 0, .slice none 0 0, .slice none 0 0, .slice none 0 0, .slice none 0 0, .slice none 0 0], .pointer (some ⟨F, 0, none⟩), .int .i64 at_, .pointer (some ⟨F, 1, none⟩), .int .i64 er, undef, undef] _ _ _ _ h⟩
  intro vs Y hy hf
  have g0 : vs 4 = .int .i64 er := hf 4 (by decide)
  simp only [List.map_cons, List.headD_cons, List.drop_succ_cons, List.drop_zero, if_true] at hy
  obtain ⟨a0, a1, a2, a3, a4⟩ := hy
  have c2 := a2.cell 0 _ rfl
  have f2 := a2.frozen 0
  have q1 := set_grown' Y (b + 2) 0 (.int .i64 er)
  have q0 := a2.set 0 (.int .i64 er)
  have w1 := a0.grown q1 (fun e => by have := Option.some.inj e; omega)
  have w2 := a1.grown q1 (fun e => by have := Option.some.inj e; omega)
  have w4 := a4.grown q1 (by have := a0.lt; omega) (fun k e => by cases e; omega)
  have R := Lib.hid (And.intro w1 (And.intro w2 (And.intro q0 w4)))
  clear w1 w2 w4 q0 q1 a0 a1 a2 a3 a4 hf
  simp only [opens, List.drop_succ_cons, List.drop_zero]
  try simp only [Nat.reduceAdd]
  rw [g0]
  go_wp2_with fail
  simp only [bodyPostS, results, Tryd.results31]
  exact ⟨trivial, _, rfl, .tuple #[], by simp [go_sem], rfl, rfl, R.out⟩

end Go.Proofs.YtjcaejdokillgaaDoor
