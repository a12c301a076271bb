/- Contract: a text's circuit: the parts of the walk. -/
import Derived.Test.YtjcaejdokillgaaDoorZWalkJ8
import Derived.Test.YtjcaejdokillgaaDoorZP3
namespace Go.Proofs.YtjcaejdokillgaaDoor
open Go.RowKit Go.Shelf
attribute [local simp] mk_get

theorem ta_hitJ (at_ er : Int) (w : World) : (Instr.typeAssert (.iface 77 (.agg #[.int .i64 at_, .int .i64 er])) 20 77 true).run Tryd.prog w = .ok (.tuple #[.agg #[.int .i64 at_, .int .i64 er], .bool true]) w := by kernel_rfl
theorem ta_nilJ (w : World) : (Instr.typeAssert .nilIface 20 77 true).run Tryd.prog w = .ok (.tuple #[.agg #[.int .i64 0, .int .i64 0], .bool false]) w := by kernel_rfl

abbrev zero8 : List Value := [.int .i64 0, .slice none 0 0, .slice none 0 0, .slice none 0 0, .slice none 0 0, .slice none 0 0, .slice none 0 0, .slice none 0 0]

theorem frameJ (p0 p1 p2 : Value) : (#[p0, p1, p2] ++ Array.replicate (Tryd.f31.ntmps - (#[p0, p1, p2] : Array Value).size) undef : Array Value) = #[p0, p1, p2, undef, undef, undef, undef, undef, undef, undef, undef, undef, undef, undef, undef, undef] := rfl

set_option maxRecDepth 100000 in
set_option maxHeartbeats 1000000 in
theorem jCatch_idle (p0 p1 p2 : Value) (w : World) :
    CallsD Tryd.prog 31 #[p0, p1, p2] .returning w fun e u' w' => e = .returned (.tuple #[]) ∧ u' = .returning ∧ Below w.heap.size w w' := by
  have hta := ta_nilJ
  refine callsD_of_wpS Tryd.func31 rfl fun c₀ cs hu => ?_
  rw [frameJ]
  apply wpS_seq
  apply wpS_region
  simp [wpOpsS, go_sem, recoverD, hu, hta, Exit.thenS]
  apply wpS_seq
  apply wpS_region
  simp [wpOpsS, go_sem, Exit.thenS]
  refine wpS_cond (t := false) (by simp [Act.eval]) ?_
  simp only [Bool.false_eq_true, if_false]
  refine wpS_of_wp (wp_skip ?_)
  cases c₀
  simp_all [bodyPostS, results, Tryd.results31]
  exact (Below.refl _ _).alloc (Nat.le_refl _) _

theorem RowL.row {T : TypeId} {y : World} {g : Nat} {l : List Value} (h : RowL T y g l) (d : List Value) : RowL T (y.setRow g d.toArray) g d := setRow_heap y g _ _ T (0, 0) h
theorem row_grown (y : World) (g : Nat) (d : Array Value) : y.grownBy (y.setRow g d) (some g) := ⟨rfl, rfl, rfl, by simp, fun k _ hk => setRow_other y g k d fun e => hk (by rw [e])⟩

/-- a struct is written into its variable -/
theorem wpList_row {P : Program} {ops : Array Oper} {rest : List Oper} {o : Oper} {a : Act} {w : World} {Q : Exit → Act → World → Prop} (hgd : o.guard = none) (ty : TypeId) (x y : Operand) (ho : o.op = .store ty x y)
    (g : Nat) (d : List Value) (hx : a.eval x = .pointer (some ⟨g, 0, none⟩)) (hy : a.eval y = .agg d.toArray) {T : TypeId} {l : List Value} (hR : RowL T w g l) (hi : (P.info? ty).map (·.size) = some d.length)
    (hl : l.length = d.length) (h1 : d.toArray.all (·.oneCell') = true) (h : ∀ w', RowL T w' g d → w.grownBy w' (some g) → wpList P ops Q rest (a.put o.dst undef) w') : wpList P ops Q (o :: rest) a w :=
  wpList_store_row hgd ty x y ho g d.toArray hx hy T l.toArray hR (by simpa using hi) (by simpa using hl) h1 (h _ (hR.row d) (row_grown w g _))

theorem facts_isV (xs : List Value) (j : Nat) (v : Value) (y y' : World) (h : Facts (xs.map isV) j v y) : Facts (xs.map isV) j v y' := by
  unfold Facts at *
  rw [List.getElem?_map] at *
  cases hx : xs[j]? with
  | none => rw [hx] at h; exact h
  | some x => rw [hx] at h; exact h
theorem keeps_isV (xs : List Value) : ∀ g ∈ xs.map isV, Keeps g := fun g hg => by
  obtain ⟨x, _, rfl⟩ := List.mem_map.1 hg
  exact isV_keeps _
theorem list8 {cs : List Value} (h : cs.length = 8) : ∃ c0 c1 c2 c3 c4 c5 c6 c7, cs = [c0, c1, c2, c3, c4, c5, c6, c7] := by
  match cs, h with
  | [a, b, c, d, e, f, g, i], _ => exact ⟨a, b, c, d, e, f, g, i, rfl⟩
theorem RowL.ne {T U : TypeId} {y : World} {g k : Nat} {l l' : List Value} (h : RowL T y g l) (h' : RowL U y k l') (hne : T ≠ U) : g ≠ k := fun e => by
  subst e
  unfold RowL at h h'
  rw [h] at h'
  simp at h'
  exact hne h'.2

set_option maxRecDepth 100000 in
set_option maxHeartbeats 2000000 in
theorem jCatch_hit (b : Nat) (at_ er : Int) (cs : List Value) (hcs : cs.length = 8) (x y : Value) (w : World) (h0 : RowL 27 w b cs) (h1 : RowL 3 w (b + 1) [x]) (h2 : RowL 29 w (b + 2) [y]) :
    CallsD Tryd.prog 31 #[.pointer (some ⟨b, 0, none⟩), .pointer (some ⟨b + 1, 0, none⟩), .pointer (some ⟨b + 2, 0, none⟩)] (.panicking [{ v := .iface 77 (.agg #[.int .i64 at_, .int .i64 er]), recovered := false }]) w fun e u' w' =>
      e = .returned (.tuple #[]) ∧ u' = .panicking [{ v := .iface 77 (.agg #[.int .i64 at_, .int .i64 er]), recovered := true }] ∧ RowL 27 w' b zero8 ∧ RowL 3 w' (b + 1) [.int .i64 at_] ∧ RowL 29 w' (b + 2) [.int .i64 er] ∧ Below b w w' := by
  have hta := ta_hitJ at_ er
  have H0 := Lib.hid h0
  have H1 := Lib.hid h1
  have H2 := Lib.hid h2
  clear h0 h1 h2
  refine callsD_of_wpS Tryd.func31 rfl fun c₀ cs' hu => ?_
  rw [frameJ]
  apply wpS_seq
  apply wpS_region
  simp [wpOpsS, go_sem, recoverD, hu, hta, Exit.thenS]
  apply wpS_seq
  apply wpS_region
  simp [wpOpsS, go_sem, Exit.thenS]
  refine wpS_cond (t := true) (by simp [Act.eval]) ?_
  simp only [if_true]
  refine wpS_of_wp ?_
  have hbl := H0.out.lt
  obtain ⟨V, hV⟩ : ∃ V, V = w.alloc (.cells #[.int .i64 at_, .int .i64 er] 77) := ⟨_, rfl⟩
  have hbV : Below w.heap.size w V := by rw [hV]; exact (Below.refl _ _).alloc (Nat.le_refl _) _
  have K0 := Lib.hid (H0.out.mono hbV)
  have K1 := Lib.hid (H1.out.mono hbV)
  have K2 := Lib.hid (H2.out.mono hbV)
  have KF : Hid (RowL 77 V w.heap.size [.int .i64 at_, .int .i64 er]) := by show RowL _ _ _ _; rw [hV]; exact RowL.new w _
  have KB : Hid (Below b w V) := hbV.mono (by omega)
  rw [← hV]
  obtain ⟨F, hF⟩ : ∃ F, F = w.heap.size := ⟨_, rfl⟩
  rw [← hF] at KF ⊢
  have hbF : Hid (b + 2 < F) := by have := H2.out.lt; show b + 2 < F; omega
  clear hV hbV hF hbl H0 H1 H2 hta hu
  refine wp_region_writes 7 [5, 6] ([.agg #[.int .i64 0, .slice none 0 0, .slice none 0 0, .slice none 0 0, .slice none 0 0, .slice none 0 0, .slice none 0 0, .slice none 0 0], .pointer (some ⟨F, 0, none⟩), .int .i64 at_, .pointer (some ⟨F, 1, none⟩), .int .i64 er, undef, undef].map isV)
    (fun bs z => RowL 27 z b (if bs.headD false = true then zero8 else cs) ∧ RowL 3 z (b + 1) [if (bs.drop 1).headD false = true then .int .i64 at_ else x] ∧ RowL 29 z (b + 2) [y] ∧ RowL 77 z F [.int .i64 at_, .int .i64 er] ∧ Below b w z)
    [some 11, some 12, some 13, some 14, some 15, none, none] (by kernel_rfl) (by kernel_rfl) rfl (keeps_isV _) ⟨K0.out.drew, K1.out.drew, K2.out.drew, KF.out.drew, KB.out.drew⟩
    (fun bs z z' hb ⟨a0, a1, a2, a3, a4⟩ => ⟨a0.mono hb, a1.mono hb, a2.mono hb, a3.mono hb, a4.trans (hb.mono (by have := a0.lt; omega))⟩) (by decide) ?_ ?_
  · refine ⟨fun s vs Y h1 h2 h3 hy hd => ?_, fun s vs Y h1 h2 h3 hy hd => ?_, fun s vs Y h1 h2 h3 hy hd => ?_, fun s vs Y h1 h2 h3 hy hd => ?_, fun s vs Y h1 h2 h3 hy hd => ?_, fun s vs Y h1 h2 h3 hy hd => ?_, fun s vs Y h1 h2 h3 hy hd => ?_, trivial⟩
    · (simp only [opens]; try simp only [Nat.reduceAdd])
      go_wp2_with fail
      exact ⟨_, rfl, rfl, Below.refl _ _⟩
    · (simp only [opens]; try simp only [Nat.reduceAdd])
      go_wp2_with fail
      exact ⟨_, rfl, rfl, Below.refl _ _⟩
    · have g0 : vs 1 = .pointer (some ⟨F, 0, none⟩) := hd 1 (by decide) (by kernel_rfl)
      have hc := hy.2.2.2.1.cell 0 _ rfl
      (simp only [opens]; try simp only [Nat.reduceAdd])
      rw [g0]
      go_wp2_with fail
      exact ⟨_, rfl, rfl, Below.refl _ _⟩
    · (simp only [opens]; try simp only [Nat.reduceAdd])
      go_wp2_with fail
      exact ⟨_, rfl, rfl, Below.refl _ _⟩
    · have g0 : vs 3 = .pointer (some ⟨F, 1, none⟩) := hd 3 (by decide) (by kernel_rfl)
      have hc := hy.2.2.2.1.cell 1 _ rfl
      (simp only [opens]; try simp only [Nat.reduceAdd])
      rw [g0]
      go_wp2_with fail
      exact ⟨_, rfl, rfl, Below.refl _ _⟩
    · have g0 : vs 0 = .agg zero8.toArray := hd 0 (by decide) (by kernel_rfl)
      have e6 : s 6 = false := h3 6 (by decide) (by kernel_rfl)
      obtain ⟨a0, a1, a2, a3, a4⟩ := hy
      simp only [List.map_cons, List.headD_cons, List.drop_succ_cons, List.drop_zero, h1, e6, Bool.false_eq_true, if_false] at a0 a1
      (simp only [opens]; try simp only [Nat.reduceAdd])
      rw [g0]
      refine wpList_row rfl 27 _ _ rfl b zero8 rfl rfl a0 (by kernel_rfl) (by rw [hcs]; rfl) (by kernel_rfl) ?_
      intro z q0 q1
      have w1 := a1.grown q1 (fun e => by have := Option.some.inj e; omega)
      have w2 := a2.grown q1 (fun e => by have := Option.some.inj e; omega)
      have w3 := a3.grown q1 (fun e => by have := Option.some.inj e; have := hbF.out; omega)
      have w4 := a4.grown q1 (by have := a0.lt; omega) (fun k e => by cases e; exact Nat.le_refl _)
      refine ⟨undef, rfl, rfl, ?_⟩
      refine ⟨?_, fun j _ _ h => facts_isV [.agg #[.int .i64 0, .slice none 0 0, .slice none 0 0, .slice none 0 0, .slice none 0 0, .slice none 0 0, .slice none 0 0, .slice none 0 0], .pointer (some ⟨F, 0, none⟩), .int .i64 at_, .pointer (some ⟨F, 1, none⟩), .int .i64 er, undef, undef] _ _ _ _ h⟩
      simp only [List.map_cons, List.headD_cons, List.drop_succ_cons, List.drop_zero, if_true, Bool.false_eq_true, if_false, Nat.reduceEqDiff, e6]
      exact ⟨q0, w1, w2, w3, w4⟩
    · have g0 : vs 2 = .int .i64 at_ := hd 2 (by decide) (by kernel_rfl)
      have e5 : s 5 = true := h2 5 (by kernel_rfl)
      obtain ⟨a0, a1, a2, a3, a4⟩ := hy
      simp only [List.map_cons, List.headD_cons, List.drop_succ_cons, List.drop_zero, h1, e5, if_true, Bool.false_eq_true, if_false] at a0 a1
      have c1 := a1.cell 0 _ rfl
      have f1 := a1.frozen 0
      have q1 := set_grown' Y (b + 1) 0 (.int .i64 at_)
      have q0 := a1.set 0 (.int .i64 at_)
      have w1 := a0.grown q1 (fun e => by have := Option.some.inj e; omega)
      have w2 := a2.grown q1 (fun e => by have := Option.some.inj e; omega)
      have w3 := a3.grown q1 (fun e => by have := Option.some.inj e; have := hbF.out; omega)
      have w4 := a4.grown q1 (by have := a0.lt; omega) (fun k e => by cases e; omega)
      have R := Lib.hid (And.intro w1 (And.intro q0 (And.intro w2 (And.intro w3 w4))))
      have hct : ([5, 6] : List Nat).contains 6 = true := rfl
      clear w1 w2 w3 w4 q0 q1 a0 a1 a2 a3 a4 h1 h2 h3 hd
      (simp only [opens]; try simp only [Nat.reduceAdd])
      rw [g0]
      go_wp2_with fail
      exact ⟨rfl, ⟨undef, rfl⟩, R.out, fun j _ _ h => facts_isV [.agg #[.int .i64 0, .slice none 0 0, .slice none 0 0, .slice none 0 0, .slice none 0 0, .slice none 0 0, .slice none 0 0, .slice none 0 0], .pointer (some ⟨F, 0, none⟩), .int .i64 at_, .pointer (some ⟨F, 1, none⟩), .int .i64 er, undef, undef] _ _ _ _ h⟩
  intro vs Y hy hf
  have g0 : vs 4 = .int .i64 er := hf 4 (by decide)
  simp only [List.map_cons, List.headD_cons, List.drop_succ_cons, List.drop_zero, if_true] at hy
  obtain ⟨a0, a1, a2, a3, a4⟩ := hy
  have c2 := a2.cell 0 _ rfl
  have f2 := a2.frozen 0
  have q1 := set_grown' Y (b + 2) 0 (.int .i64 er)
  have q0 := a2.set 0 (.int .i64 er)
  have w1 := a0.grown q1 (fun e => by have := Option.some.inj e; omega)
  have w2 := a1.grown q1 (fun e => by have := Option.some.inj e; omega)
  have w4 := a4.grown q1 (by have := a0.lt; omega) (fun k e => by cases e; omega)
  have R := Lib.hid (And.intro w1 (And.intro w2 (And.intro q0 w4)))
  clear w1 w2 w4 q0 q1 a0 a1 a2 a3 a4 hf
  simp only [opens, List.drop_succ_cons, List.drop_zero]
  try simp only [Nat.reduceAdd]
  rw [g0]
  go_wp2_with fail
  simp only [bodyPostS, results, Tryd.results31]
  exact ⟨trivial, _, rfl, .tuple #[], by simp [go_sem], rfl, rfl, R.out⟩

end Go.Proofs.YtjcaejdokillgaaDoor

namespace Go.Proofs.YtjcaejdokillgaaDoor
open Go.RowKit Go.Shelf
attribute [local simp] mk_get

/-- what Parse leaves -/
def PTo (s : List UInt8) (w : World) (e : Ending) (w' : World) : Prop := Below w.heap.size w w' ∧
  ((∃ c v, s.length ≤ 65536 ∧ PJ.parse s = some c ∧ e = .returned (.tuple #[v, .int .i64 (PJ.linesOf c : Int), .int .i64 0]) ∧ IsCirc w' v c) ∨
    ((65536 < s.length ∨ PJ.parse s = none) ∧ ∃ at_ er : Int, er ≠ 0 ∧ e = .returned (.tuple #[.agg zero8.toArray, .int .i64 at_, .int .i64 er])))

theorem read8 {T : TypeId} {W : World} {b : Nat} {c0 c1 c2 c3 c4 c5 c6 c7 : Value} (h : RowL T W b [c0, c1, c2, c3, c4, c5, c6, c7]) :
    W.cell? ⟨b, 0, none⟩ = some c0 ∧ W.cell? ⟨b, 1, none⟩ = some c1 ∧ W.cell? ⟨b, 2, none⟩ = some c2 ∧ W.cell? ⟨b, 3, none⟩ = some c3 ∧ W.cell? ⟨b, 4, none⟩ = some c4 ∧ W.cell? ⟨b, 5, none⟩ = some c5 ∧ W.cell? ⟨b, 6, none⟩ = some c6 ∧ W.cell? ⟨b, 7, none⟩ = some c7 :=
  ⟨h.cell 0 _ rfl, h.cell 1 _ rfl, h.cell 2 _ rfl, h.cell 3 _ rfl, h.cell 4 _ rfl, h.cell 5 _ rfl, h.cell 6 _ rfl, h.cell 7 _ rfl⟩

theorem jDoor_no (s : List UInt8) (b : Nat) (w y : World) (tmps : Array Value) (v : Value) (cs : List Value) (x z : Value) (t2 : tmps[2]? = some (.pointer (some ⟨b, 0, none⟩))) (t3 : tmps[3]? = some (.pointer (some ⟨b + 1, 0, none⟩))) (t4 : tmps[4]? = some (.pointer (some ⟨b + 2, 0, none⟩)))
    (hv : fltV v) (hcs : cs.length = 8) (h0 : RowL 27 y b cs) (h1 : RowL 3 y (b + 1) [x]) (h2 : RowL 29 y (b + 2) [z]) (hb : Below w.heap.size w y) (hwb : w.heap.size ≤ b) (hno : 65536 < s.length ∨ PJ.parse s = none) :
    bodyPostD Tryd.prog Tryd.f12 (PTo s w) (.panic [{ v := v, recovered := false }])
      { tmps := tmps, defers := [{ target := .fn (.func 31) #[.pointer (some ⟨b, 0, none⟩), .pointer (some ⟨b + 1, 0, none⟩), .pointer (some ⟨b + 2, 0, none⟩)], args := #[] }] } y := by
  obtain ⟨at_, er, her, rfl⟩ := hv
  show Leaves _ _ _ _ _ _ _
  refine leaves_cons (f := 31) (args := #[.pointer (some ⟨b, 0, none⟩), .pointer (some ⟨b + 1, 0, none⟩), .pointer (some ⟨b + 2, 0, none⟩)]) (by simp) (by simp [go_sem]) ?_
  refine (jCatch_hit b at_ er cs hcs x z y h0 h1 h2).mono ?_
  rintro e u' W ⟨rfl, rfl, r0, r1, r2, hbW⟩
  show ∃ v, _ ∧ _
  obtain ⟨k0, k1, k2, k3, k4, k5, k6, k7⟩ := read8 r0
  have q1 := r1.cell 0 _ rfl
  have q2 := r2.cell 0 _ rfl
  refine ⟨.tuple #[.agg zero8.toArray, .int .i64 at_, .int .i64 er], ?_, hb.trans (hbW.mono hwb), .inr ⟨hno, at_, er, her, rfl⟩⟩
  clear r0 r1 r2 hbW h0 h1 h2 hb
  simp [results, Tryd.results12, go_sem, t2, t3, t4, k0, k1, k2, k3, k4, k5, k6, k7, q1, q2]

theorem jDoor_yes (s : List UInt8) (b : Nat) (w y : World) (tmps : Array Value) (c : PC.Circ) (c0 c1 c2 c3 c4 c5 c6 c7 : Value) (t2 : tmps[2]? = some (.pointer (some ⟨b, 0, none⟩))) (t3 : tmps[3]? = some (.pointer (some ⟨b + 1, 0, none⟩))) (t4 : tmps[4]? = some (.pointer (some ⟨b + 2, 0, none⟩)))
    (h0 : RowL 27 y b [c0, c1, c2, c3, c4, c5, c6, c7]) (h1 : RowL 3 y (b + 1) [.int .i64 (PJ.linesOf c : Int)]) (h2 : RowL 29 y (b + 2) [.int .i64 0]) (hb : Below w.heap.size w y) (hs : s.length ≤ 65536) (hp : PJ.parse s = some c) (hc : IsCirc y (.agg #[c0, c1, c2, c3, c4, c5, c6, c7]) c) :
    bodyPostD Tryd.prog Tryd.f12 (PTo s w) .ret
      { tmps := tmps, defers := [{ target := .fn (.func 31) #[.pointer (some ⟨b, 0, none⟩), .pointer (some ⟨b + 1, 0, none⟩), .pointer (some ⟨b + 2, 0, none⟩)], args := #[] }] } y := by
  show Leaves _ _ _ _ _ _ _
  refine leaves_cons (f := 31) (args := #[.pointer (some ⟨b, 0, none⟩), .pointer (some ⟨b + 1, 0, none⟩), .pointer (some ⟨b + 2, 0, none⟩)]) (by simp) (by simp [go_sem]) ?_
  refine (jCatch_idle _ _ _ y).mono ?_
  rintro e u' W ⟨rfl, rfl, hbW⟩
  show ∃ v, _ ∧ _
  obtain ⟨k0, k1, k2, k3, k4, k5, k6, k7⟩ := read8 (h0.mono hbW)
  have q1 := (h1.mono hbW).cell 0 _ rfl
  have q2 := (h2.mono hbW).cell 0 _ rfl
  refine ⟨.tuple #[.agg #[c0, c1, c2, c3, c4, c5, c6, c7], .int .i64 (PJ.linesOf c : Int), .int .i64 0], ?_, Below.of hb hbW, .inl ⟨c, _, hs, hp, rfl, hc.mono hbW⟩⟩
  clear h0 h1 h2 hb hbW hc hp
  generalize (PJ.linesOf c : Int) = L at *
  simp [results, Tryd.results12, go_sem, t2, t3, t4, k0, k1, k2, k3, k4, k5, k6, k7, q1, q2]

set_option maxRecDepth 100000 in
set_option maxHeartbeats 4000000 in
theorem jParse_long (s : List UInt8) (w : World) (hs : 65536 < s.length) (hs2 : s.length ≤ 9223372036854775807) : Calls Tryd.prog 12 #[.string ⟨s.toArray⟩] w (PTo s w) := by
  have hmf : ∀ (fn : Fn) (first cap : Array Value) (w : World), (Instr.makeFunc fn first cap).run Tryd.prog w = .ok (.func fn first cap) w := fun _ _ _ _ => rfl
  have hz : (65536 : Int) < (s.length : Int) := by omega
  go_enter_defers Tryd.func12, Tryd.ntmps12
  go_wp2
  show ∃ v, _ ∧ _
  obtain ⟨V1, hV1⟩ : ∃ V, V = w.alloc (.cells zero8.toArray 27) := ⟨_, rfl⟩
  obtain ⟨V2, hV2⟩ : ∃ V, V = V1.alloc (.cells #[.int .i64 0] 3) := ⟨_, rfl⟩
  obtain ⟨V3, hV3⟩ : ∃ V, V = V2.alloc (.cells #[.int .i64 5] 29) := ⟨_, rfl⟩
  have e1 : V1.heap.size = w.heap.size + 1 := by rw [hV1]; simp
  have e2 : V2.heap.size = w.heap.size + 2 := by rw [hV2]; simp [e1]
  have b1 : Below w.heap.size w V1 := by rw [hV1]; exact (Below.refl _ _).alloc (Nat.le_refl _) _
  have b2 : Below V1.heap.size V1 V2 := by rw [hV2]; exact (Below.refl _ _).alloc (Nat.le_refl _) _
  have b3 : Below V2.heap.size V2 V3 := by rw [hV3]; exact (Below.refl _ _).alloc (Nat.le_refl _) _
  have r0 : RowL 27 V3 w.heap.size zero8 := by have := RowL.new (T := 27) w zero8; rw [← hV1] at this; exact (this.mono b2).mono b3
  have r1 : RowL 3 V3 (w.heap.size + 1) [.int .i64 0] := by have := RowL.new (T := 3) V1 [.int .i64 0]; rw [← hV2, e1] at this; exact this.mono b3
  have r2 : RowL 29 V3 (w.heap.size + 1 + 1) [.int .i64 5] := by have := RowL.new (T := 29) V2 [.int .i64 5]; rw [← hV3, e2] at this; exact this
  have hV : (((w.alloc (.cells #[.int .i64 0, .slice none 0 0, .slice none 0 0, .slice none 0 0, .slice none 0 0, .slice none 0 0, .slice none 0 0, .slice none 0 0] 27)).alloc (.cells #[.int .i64 0] 3)).alloc (.cells #[.int .i64 5] 29)) = V3 := by rw [hV3, hV2, hV1]
  rw [hV]
  obtain ⟨k0, k1, k2, k3, k4, k5, k6, k7⟩ := read8 r0
  have q1 := r1.cell 0 _ rfl
  have q2 := r2.cell 0 _ rfl
  refine ⟨.tuple #[.agg zero8.toArray, .int .i64 0, .int .i64 5], ?_, Below.of (Below.of b1 b2) b3, .inr ⟨.inl hs, 0, 5, by decide, rfl⟩⟩
  clear r0 r1 r2 b1 b2 b3 hV hV1 hV2 hV3
  simp [results, Tryd.results12, go_sem, k0, k1, k2, k3, k4, k5, k6, k7, q1, q2]

end Go.Proofs.YtjcaejdokillgaaDoor

namespace Go.Proofs.YtjcaejdokillgaaDoor
open Go.RowKit Go.Shelf
attribute [local simp] mk_get

/-- the variables of Parse -/
def StJ (w y : World) (b : Nat) (cs : List Value) : Prop := RowL 27 y b cs ∧ RowL 3 y (b + 1) [.int .i64 0] ∧ RowL 29 y (b + 2) [.int .i64 0] ∧ Below w.heap.size w y
theorem StJ.mono {w y y' : World} {b : Nat} {cs : List Value} (h : StJ w y b cs) (hb : Below y.heap.size y y') : StJ w y' b cs := ⟨h.1.mono hb, h.2.1.mono hb, h.2.2.1.mono hb, Below.of h.2.2.2 hb⟩
theorem StJ.grown {w y y' : World} {b r : Nat} {cs : List Value} (h : StJ w y b cs) (hg : y.grownBy y' (some r)) (hr : b + 2 < r) (hw : w.heap.size ≤ b) : StJ w y' b cs :=
  ⟨h.1.grown hg (fun e => by have := Option.some.inj e; omega), h.2.1.grown hg (fun e => by have := Option.some.inj e; omega), h.2.2.1.grown hg (fun e => by have := Option.some.inj e; omega), h.2.2.2.grown hg h.2.2.2.size fun k e => by cases e; omega⟩
theorem StJ.put {w y y' : World} {b : Nat} {cs cs' : List Value} (h : StJ w y b cs) (hg : y.grownBy y' (some b)) (hR : RowL 27 y' b cs') (hw : w.heap.size ≤ b) : StJ w y' b cs' :=
  ⟨hR, h.2.1.grown hg (fun e => by have := Option.some.inj e; omega), h.2.2.1.grown hg (fun e => by have := Option.some.inj e; omega), h.2.2.2.grown hg h.2.2.2.size fun k e => by cases e; exact hw⟩

theorem owned_slice' {w : World} {B : Nat} {e : TypeId} {k n : Nat} {v : Value} {xs : List Value} (h : w.ownsRow B e k v n xs) : ∃ a c, v = .slice a n c := by
  obtain ⟨_, ⟨rfl, rfl⟩ | ⟨g, c, cur, rfl, _⟩⟩ := h
  · exact ⟨none, 0, rfl⟩
  · exact ⟨_, c, rfl⟩

/-- a value that is known, or any -/
def isO : Option Value → Value → World → Prop
  | some x => isV x
  | none => fun _ _ => True
theorem facts_isO (xs : List (Option Value)) (j : Nat) (v : Value) (y y' : World) (h : Facts (xs.map isO) j v y) : Facts (xs.map isO) j v y' := by
  unfold Facts at *
  rw [List.getElem?_map] at *
  cases hx : xs[j]? with
  | none => rw [hx] at h; exact h
  | some x =>
    rw [hx] at h
    cases x with
    | none => trivial
    | some x => exact h
theorem keeps_isO (xs : List (Option Value)) : ∀ g ∈ xs.map isO, Keeps g := fun g hg => by
  obtain ⟨x, _, rfl⟩ := List.mem_map.1 hg
  cases x with
  | none => exact fun _ _ _ _ _ => trivial
  | some x => exact isV_keeps _

/-- the first three lists: how far they are read -/
def D6 (r B : Nat) (w1 : World) (n1 n2 n3 : Nat) (q0 : List UInt8) (a0 : Int) (bs : List Bool) (vs : Nat → Value) (y : World) : Prop := w1.grownBy y (some r) ∧
  ((bs = [false, false, false] ∧ Rd y r q0 a0) ∨
   (bs = [true, false, false] ∧ ∃ l1 q1, PR.many PJ.oneF 1 1 0 n1 q0 = some (l1, q1) ∧ OwnI y B (vs 7) l1 ∧ Rd y r q1 (a0 + n1) ∧ q1.length + n1 ≤ q0.length) ∨
   (bs = [true, true, false] ∧ ∃ l1 q1 l2 q2, PR.many PJ.oneF 1 1 0 n1 q0 = some (l1, q1) ∧ PR.many PJ.latF 2 3 0 n2 q1 = some (l2, q2) ∧ OwnI y B (vs 7) l1 ∧ OwnL y B (vs 12) l2 ∧ Rd y r q2 (a0 + n1 + n2) ∧ q2.length + n1 + n2 ≤ q0.length) ∨
   (bs = [true, true, true] ∧ ∃ l1 q1 l2 q2 l3 q3, PR.many PJ.oneF 1 1 0 n1 q0 = some (l1, q1) ∧ PR.many PJ.latF 2 3 0 n2 q1 = some (l2, q2) ∧ PR.many PJ.oneF 1 1 0 n3 q2 = some (l3, q3) ∧ OwnI y B (vs 7) l1 ∧ OwnL y B (vs 12) l2 ∧ OwnI y B (vs 17) l3 ∧ Rd y r q3 (a0 + n1 + n2 + n3) ∧ q3.length + n1 + n2 + n3 ≤ q0.length))

theorem OwnL.mono {w w' : World} {B : Nat} {v : Value} {l : List PC.Lat} (h : OwnL w B v l) (hb : Below w.heap.size w w') : OwnL w' B v l := ⟨owns_below' h.1 hb, h.2⟩
theorem OwnG.mono {w w' : World} {B : Nat} {v : Value} {l : List PC.Gat} (h : OwnG w B v l) (hb : Below w.heap.size w w') : OwnG w' B v l := ⟨owns_below' h.1 hb, h.2⟩
theorem OwnN.mono {w w' : World} {B : Nat} {v : Value} {l : List PC.Nam} (h : OwnN w B v l) (hb : Below w.heap.size w w') : OwnN w' B v l := ⟨owns_below' h.1 hb, h.2⟩
theorem OwnL.kept {T : TypeId} {w w' : World} {B q : Nat} {v : Value} {l : List PC.Lat} {cs : List Value} (h : OwnL w B v l) (hg : w.grownBy w' (some q)) (hq : RowL T w q cs) (hne : 64 ≠ T) : OwnL w' B v l := ⟨owns_other h.1 hg hq hne, h.2⟩
theorem OwnG.kept {T : TypeId} {w w' : World} {B q : Nat} {v : Value} {l : List PC.Gat} {cs : List Value} (h : OwnG w B v l) (hg : w.grownBy w' (some q)) (hq : RowL T w q cs) (hne : 66 ≠ T) : OwnG w' B v l := ⟨owns_other h.1 hg hq hne, h.2⟩
theorem OwnN.kept {T : TypeId} {w w' : World} {B q : Nat} {v : Value} {l : List PC.Nam} {cs : List Value} (h : OwnN w B v l) (hg : w.grownBy w' (some q)) (hq : RowL T w q cs) (hne : 68 ≠ T) : OwnN w' B v l := ⟨owns_other h.1 hg hq hne, h.2⟩
theorem OwnL.base {w : World} {B B' : Nat} {v : Value} {l : List PC.Lat} (h : OwnL w B v l) (hb : B' ≤ B) : OwnL w B' v l := ⟨World.ownsRow.mono h.1 hb, h.2⟩

theorem D6.mono {r B : Nat} {w1 : World} {n1 n2 n3 : Nat} {q0 : List UInt8} {a0 : Int} {bs : List Bool} {vs vs' : Nat → Value} {y y' : World} (hv : ∀ k ∈ [7, 12, 17], vs' k = vs k) (hb : Below y.heap.size y y') (h : D6 r B w1 n1 n2 n3 q0 a0 bs vs y) : D6 r B w1 n1 n2 n3 q0 a0 bs vs' y' := by
  have e7 := hv 7 (by simp)
  have e12 := hv 12 (by simp)
  have e17 := hv 17 (by simp)
  unfold D6 at *
  rw [e7, e12, e17]
  obtain ⟨hg, h⟩ := h
  refine ⟨grownBy_below hg hb, ?_⟩
  rcases h with ⟨eb, h⟩ | ⟨eb, l1, q1, m1, o1, hR, hl⟩ | ⟨eb, l1, q1, l2, q2, m1, m2, o1, o2, hR, hl⟩ | ⟨eb, l1, q1, l2, q2, l3, q3, m1, m2, m3, o1, o2, o3, hR, hl⟩
  · exact .inl ⟨eb, h.mono hb⟩
  · exact .inr (.inl ⟨eb, l1, q1, m1, o1.mono hb, hR.mono hb, hl⟩)
  · exact .inr (.inr (.inl ⟨eb, l1, q1, l2, q2, m1, m2, o1.mono hb, o2.mono hb, hR.mono hb, hl⟩))
  · exact .inr (.inr (.inr ⟨eb, l1, q1, l2, q2, l3, q3, m1, m2, m3, o1.mono hb, o2.mono hb, o3.mono hb, hR.mono hb, hl⟩))

theorem D6.at0 {r B : Nat} {w1 : World} {n1 n2 n3 : Nat} {q0 : List UInt8} {a0 : Int} {s : Nat → Bool} {vs : Nat → Value} {y : World} (h : D6 r B w1 n1 n2 n3 q0 a0 ([7, 12, 17].map s) vs y) (h7 : s 7 = false) : Rd y r q0 a0 ∧ s 12 = false ∧ s 17 = false := by
  obtain ⟨_, ⟨eb, h⟩ | ⟨eb, _⟩ | ⟨eb, _⟩ | ⟨eb, _⟩⟩ := h
  · simp [h7] at eb
    exact ⟨h, eb.1, eb.2⟩
  all_goals simp [h7] at eb
theorem D6.at1 {r B : Nat} {w1 : World} {n1 n2 n3 : Nat} {q0 : List UInt8} {a0 : Int} {s : Nat → Bool} {vs : Nat → Value} {y : World} (h : D6 r B w1 n1 n2 n3 q0 a0 ([7, 12, 17].map s) vs y) (h7 : s 7 = true) (h12 : s 12 = false) :
    s 17 = false ∧ ∃ l1 q1, PR.many PJ.oneF 1 1 0 n1 q0 = some (l1, q1) ∧ OwnI y B (vs 7) l1 ∧ Rd y r q1 (a0 + n1) ∧ q1.length + n1 ≤ q0.length := by
  obtain ⟨_, ⟨eb, _⟩ | ⟨eb, h⟩ | ⟨eb, _⟩ | ⟨eb, _⟩⟩ := h
  · simp [h7] at eb
  · simp [h7, h12] at eb
    exact ⟨eb, h⟩
  all_goals simp [h7, h12] at eb
theorem D6.at2 {r B : Nat} {w1 : World} {n1 n2 n3 : Nat} {q0 : List UInt8} {a0 : Int} {s : Nat → Bool} {vs : Nat → Value} {y : World} (h : D6 r B w1 n1 n2 n3 q0 a0 ([7, 12, 17].map s) vs y) (h12 : s 12 = true) (h17 : s 17 = false) :
    s 7 = true ∧ ∃ l1 q1 l2 q2, PR.many PJ.oneF 1 1 0 n1 q0 = some (l1, q1) ∧ PR.many PJ.latF 2 3 0 n2 q1 = some (l2, q2) ∧ OwnI y B (vs 7) l1 ∧ OwnL y B (vs 12) l2 ∧ Rd y r q2 (a0 + n1 + n2) ∧ q2.length + n1 + n2 ≤ q0.length := by
  obtain ⟨_, ⟨eb, _⟩ | ⟨eb, _⟩ | ⟨eb, h⟩ | ⟨eb, _⟩⟩ := h
  · simp [h12] at eb
  · simp [h12] at eb
  · simp [h12, h17] at eb
    exact ⟨eb, h⟩
  · simp [h12, h17] at eb

/-- two lists more, and the first of them laid -/
def D7 (r B b : Nat) (w1 : World) (n1 n2 : Nat) (q0 : List UInt8) (a0 : Int) (cs : List Value) (bs : List Bool) (vs : Nat → Value) (y : World) : Prop :=
  (bs = [false, false, false] ∧ w1.grownBy y (some r) ∧ Rd y r q0 a0) ∨
  (bs = [true, false, false] ∧ w1.grownBy y (some r) ∧ ∃ l1 q1, PR.many PJ.oneF 1 1 0 n1 q0 = some (l1, q1) ∧ OwnI y B (vs 4) l1 ∧ Rd y r q1 (a0 + n1) ∧ q1.length + n1 ≤ q0.length) ∨
  (bs = [true, true, false] ∧ w1.grownBy y (some r) ∧ ∃ l1 q1 l2 q2, PR.many PJ.oneF 1 1 0 n1 q0 = some (l1, q1) ∧ PR.many PJ.oneF 1 1 0 n2 q1 = some (l2, q2) ∧ OwnI y B (vs 4) l1 ∧ OwnI y B (vs 9) l2 ∧ Rd y r q2 (a0 + n1 + n2) ∧ q2.length + n1 + n2 ≤ q0.length) ∨
  (bs = [true, true, true] ∧ ∃ z, w1.grownBy z (some r) ∧ RowL 27 y b (cs.set 4 (vs 4)) ∧ z.grownBy y (some b) ∧ ∃ l1 q1 l2 q2, PR.many PJ.oneF 1 1 0 n1 q0 = some (l1, q1) ∧ PR.many PJ.oneF 1 1 0 n2 q1 = some (l2, q2) ∧ OwnI z B (vs 4) l1 ∧ OwnI z B (vs 9) l2 ∧ Rd z r q2 (a0 + n1 + n2) ∧ q2.length + n1 + n2 ≤ q0.length)

theorem D7.mono {r B b : Nat} {w1 : World} {n1 n2 : Nat} {q0 : List UInt8} {a0 : Int} {cs : List Value} {bs : List Bool} {vs vs' : Nat → Value} {y y' : World} (hv : ∀ k ∈ [4, 9, 11], vs' k = vs k) (hb : Below y.heap.size y y') (h : D7 r B b w1 n1 n2 q0 a0 cs bs vs y) : D7 r B b w1 n1 n2 q0 a0 cs bs vs' y' := by
  have e4 := hv 4 (by simp)
  have e9 := hv 9 (by simp)
  unfold D7 at *
  rw [e4, e9]
  rcases h with ⟨eb, hg, h⟩ | ⟨eb, hg, l1, q1, m1, o1, hR, hl⟩ | ⟨eb, hg, l1, q1, l2, q2, m1, m2, o1, o2, hR, hl⟩ | ⟨eb, z, hg, hC, hz, hrest⟩
  · exact .inl ⟨eb, grownBy_below hg hb, h.mono hb⟩
  · exact .inr (.inl ⟨eb, grownBy_below hg hb, l1, q1, m1, o1.mono hb, hR.mono hb, hl⟩)
  · exact .inr (.inr (.inl ⟨eb, grownBy_below hg hb, l1, q1, l2, q2, m1, m2, o1.mono hb, o2.mono hb, hR.mono hb, hl⟩))
  · exact .inr (.inr (.inr ⟨eb, z, hg, hC.mono hb, grownBy_below hz hb, hrest⟩))
theorem D7.at0 {r B b : Nat} {w1 : World} {n1 n2 : Nat} {q0 : List UInt8} {a0 : Int} {cs : List Value} {s : Nat → Bool} {vs : Nat → Value} {y : World} (h : D7 r B b w1 n1 n2 q0 a0 cs ([4, 9, 11].map s) vs y) (h4 : s 4 = false) : w1.grownBy y (some r) ∧ Rd y r q0 a0 ∧ s 9 = false ∧ s 11 = false := by
  rcases h with ⟨eb, hg, h⟩ | ⟨eb, _⟩ | ⟨eb, _⟩ | ⟨eb, _⟩
  · simp [h4] at eb
    exact ⟨hg, h, eb.1, eb.2⟩
  all_goals simp [h4] at eb
theorem D7.at1 {r B b : Nat} {w1 : World} {n1 n2 : Nat} {q0 : List UInt8} {a0 : Int} {cs : List Value} {s : Nat → Bool} {vs : Nat → Value} {y : World} (h : D7 r B b w1 n1 n2 q0 a0 cs ([4, 9, 11].map s) vs y) (h4 : s 4 = true) (h9 : s 9 = false) :
    w1.grownBy y (some r) ∧ s 11 = false ∧ ∃ l1 q1, PR.many PJ.oneF 1 1 0 n1 q0 = some (l1, q1) ∧ OwnI y B (vs 4) l1 ∧ Rd y r q1 (a0 + n1) ∧ q1.length + n1 ≤ q0.length := by
  rcases h with ⟨eb, _⟩ | ⟨eb, hg, h⟩ | ⟨eb, _⟩ | ⟨eb, _⟩
  · simp [h4] at eb
  · simp [h4, h9] at eb
    exact ⟨hg, eb, h⟩
  all_goals simp [h4, h9] at eb
theorem D7.at01 {r B b : Nat} {w1 : World} {n1 n2 : Nat} {q0 : List UInt8} {a0 : Int} {cs : List Value} {s : Nat → Bool} {vs : Nat → Value} {y : World} (h : D7 r B b w1 n1 n2 q0 a0 cs ([4, 9, 11].map s) vs y) (h9 : s 9 = false) : w1.grownBy y (some r) := by
  rcases h with ⟨eb, hg, _⟩ | ⟨eb, hg, _⟩ | ⟨eb, _⟩ | ⟨eb, _⟩
  · exact hg
  · exact hg
  all_goals simp [h9] at eb
theorem D7.at2 {r B b : Nat} {w1 : World} {n1 n2 : Nat} {q0 : List UInt8} {a0 : Int} {cs : List Value} {s : Nat → Bool} {vs : Nat → Value} {y : World} (h : D7 r B b w1 n1 n2 q0 a0 cs ([4, 9, 11].map s) vs y) (h9 : s 9 = true) (h11 : s 11 = false) :
    w1.grownBy y (some r) ∧ s 4 = true ∧ ∃ l1 q1 l2 q2, PR.many PJ.oneF 1 1 0 n1 q0 = some (l1, q1) ∧ PR.many PJ.oneF 1 1 0 n2 q1 = some (l2, q2) ∧ OwnI y B (vs 4) l1 ∧ OwnI y B (vs 9) l2 ∧ Rd y r q2 (a0 + n1 + n2) ∧ q2.length + n1 + n2 ≤ q0.length := by
  rcases h with ⟨eb, _⟩ | ⟨eb, _⟩ | ⟨eb, hg, h⟩ | ⟨eb, _⟩
  · simp [h9] at eb
  · simp [h9] at eb
  · simp [h9, h11] at eb
    exact ⟨hg, eb, h⟩
  · simp [h9, h11] at eb

theorem D6.at3 {r B : Nat} {w1 : World} {n1 n2 n3 : Nat} {q0 : List UInt8} {a0 : Int} {vs : Nat → Value} {y : World} (h : D6 r B w1 n1 n2 n3 q0 a0 ([7, 12, 17].map fun _ => true) vs y) :
    w1.grownBy y (some r) ∧ ∃ l1 q1 l2 q2 l3 q3, PR.many PJ.oneF 1 1 0 n1 q0 = some (l1, q1) ∧ PR.many PJ.latF 2 3 0 n2 q1 = some (l2, q2) ∧ PR.many PJ.oneF 1 1 0 n3 q2 = some (l3, q3) ∧ OwnI y B (vs 7) l1 ∧ OwnL y B (vs 12) l2 ∧ OwnI y B (vs 17) l3 ∧ Rd y r q3 (a0 + n1 + n2 + n3) ∧ q3.length + n1 + n2 + n3 ≤ q0.length := by
  obtain ⟨hg, ⟨eb, _⟩ | ⟨eb, _⟩ | ⟨eb, _⟩ | ⟨_, h⟩⟩ := h
  · simp at eb
  · simp at eb
  · simp at eb
  · exact ⟨hg, h⟩
theorem D7.at3 {r B b : Nat} {w1 : World} {n1 n2 : Nat} {q0 : List UInt8} {a0 : Int} {cs : List Value} {vs : Nat → Value} {y : World} (h : D7 r B b w1 n1 n2 q0 a0 cs ([4, 9, 11].map fun _ => true) vs y) :
    ∃ z, w1.grownBy z (some r) ∧ RowL 27 y b (cs.set 4 (vs 4)) ∧ z.grownBy y (some b) ∧ ∃ l1 q1 l2 q2, PR.many PJ.oneF 1 1 0 n1 q0 = some (l1, q1) ∧ PR.many PJ.oneF 1 1 0 n2 q1 = some (l2, q2) ∧ OwnI z B (vs 4) l1 ∧ OwnI z B (vs 9) l2 ∧ Rd z r q2 (a0 + n1 + n2) ∧ q2.length + n1 + n2 ≤ q0.length := by
  rcases h with ⟨eb, _⟩ | ⟨eb, _⟩ | ⟨eb, _⟩ | ⟨_, h⟩
  · simp at eb
  · simp at eb
  · simp at eb
  · exact h

/-- a circuit's seven lists, all the call's own -/
def OwnC (y : World) (B : Nat) (c : PC.Circ) (v1 v2 v3 v4 v5 v6 v7 : Value) : Prop :=
  OwnI y B v1 c.inputs ∧ OwnL y B v2 c.latches ∧ OwnI y B v3 c.outputs ∧ OwnI y B v4 c.bads ∧ OwnI y B v5 c.invars ∧ OwnG y B v6 c.ands ∧ OwnN y B v7 c.names ∧ rng c.max
theorem OwnC.mono {y y' : World} {B : Nat} {c : PC.Circ} {v1 v2 v3 v4 v5 v6 v7 : Value} (h : OwnC y B c v1 v2 v3 v4 v5 v6 v7) (hb : Below y.heap.size y y') : OwnC y' B c v1 v2 v3 v4 v5 v6 v7 := by
  obtain ⟨h1, h2, h3, h4, h5, h6, h7, h8⟩ := h
  exact ⟨h1.mono hb, h2.mono hb, h3.mono hb, h4.mono hb, h5.mono hb, h6.mono hb, h7.mono hb, h8⟩
theorem OwnC.kept {T : TypeId} {y y' : World} {B q : Nat} {c : PC.Circ} {v1 v2 v3 v4 v5 v6 v7 : Value} {cs : List Value} (h : OwnC y B c v1 v2 v3 v4 v5 v6 v7) (hg : y.grownBy y' (some q)) (hq : RowL T y q cs)
    (h1 : 3 ≠ T) (h2 : 64 ≠ T) (h3 : 66 ≠ T) (h4 : 68 ≠ T) : OwnC y' B c v1 v2 v3 v4 v5 v6 v7 := by
  obtain ⟨g1, g2, g3, g4, g5, g6, g7, g8⟩ := h
  exact ⟨g1.kept hg hq h1, g2.kept hg hq h2, g3.kept hg hq h1, g4.kept hg hq h1, g5.kept hg hq h1, g6.kept hg hq h3, g7.kept hg hq h4, g8⟩
/-- a write into a block that none of them is -/
theorem OwnC.past {y y' : World} {B q : Nat} {c : PC.Circ} {v1 v2 v3 v4 v5 v6 v7 : Value} (h : OwnC y B c v1 v2 v3 v4 v5 v6 v7) (hg : y.grownBy y' (some q)) (hq : q < B) : OwnC y' B c v1 v2 v3 v4 v5 v6 v7 := by
  obtain ⟨g1, g2, g3, g4, g5, g6, g7, g8⟩ := h
  have key : ∀ {e : TypeId} {k n : Nat} {v : Value} {xs : List Value}, y.ownsRow B e k v n xs → y'.ownsRow B e k v n xs := fun ho => ho.kept hg (Or.inr fun e => by have := own_ge ho _ e; omega)
  exact ⟨⟨key g1.1, g1.2⟩, ⟨key g2.1, g2.2⟩, ⟨key g3.1, g3.2⟩, ⟨key g4.1, g4.2⟩, ⟨key g5.1, g5.2⟩, ⟨key g6.1, g6.2⟩, ⟨key g7.1, g7.2⟩, g8⟩
theorem OwnC.circ {y : World} {B : Nat} {c : PC.Circ} {v1 v2 v3 v4 v5 v6 v7 : Value} (h : OwnC y B c v1 v2 v3 v4 v5 v6 v7) : IsCirc y (.agg #[.int .i64 c.max, v1, v2, v3, v4, v5, v6, v7]) c := by
  obtain ⟨g1, g2, g3, g4, g5, g6, g7, g8⟩ := h
  exact ⟨v1, v2, v3, v4, v5, v6, v7, rfl, ⟨g1.ints, ⟨Cells.of_owns g2.1, g2.2⟩, g3.ints, g4.ints, g5.ints, ⟨Cells.of_owns g6.1, g6.2⟩, ⟨Cells.of_owns g7.1, g7.2⟩⟩, g8⟩

theorem ListTo.some {α : Type} {f : Nat → List Int → Option α} {a b n : Nat} {Own : World → Nat → Value → List α → Prop} {r : Nat} {s : List UInt8} {at_ : Int} {w w' : World} {e : Ending} (h : ListTo f a b n Own r s at_ w e w') {l : List α} {q : List UInt8} (hl : PR.many f a b 0 n s = .some (l, q)) :
    ∃ v, e = .returned v ∧ Own w' w.heap.size v l ∧ Rd w' r q (at_ + n) ∧ q.length + n ≤ s.length ∧ w.grownBy w' (.some r) := by
  obtain ⟨hg, ⟨l', q', v, h1, rfl, h2, h3, h4⟩ | ⟨h1, _⟩⟩ := h
  · rw [hl] at h1
    obtain ⟨rfl, rfl⟩ := Prod.mk.inj (Option.some.inj h1)
    exact ⟨v, rfl, h2, h3, h4, hg⟩
  · rw [hl] at h1; cases h1
theorem ListTo.none {α : Type} {f : Nat → List Int → Option α} {a b n : Nat} {Own : World → Nat → Value → List α → Prop} {r : Nat} {s : List UInt8} {at_ : Int} {w w' : World} {e : Ending} (h : ListTo f a b n Own r s at_ w e w') (hl : PR.many f a b 0 n s = .none) :
    ∃ v, e = .panicked [{ v := v, recovered := false }] ∧ fltV v ∧ w.grownBy w' (.some r) := by
  obtain ⟨hg, ⟨l', q', v, h1, _⟩ | ⟨_, v, hv, rfl⟩⟩ := h
  · rw [hl] at h1; cases h1
  · exact ⟨v, rfl, hv, hg⟩
theorem NamesTo.some {com : Bool} {f : List UInt8 → Option PC.Nam} {r : Nat} {s : List UInt8} {at_ : Int} {w w' : World} {e : Ending} (h : NamesTo com f r s at_ w e w') {l : List PC.Nam} (hl : PR.names com f s = .some l) :
    ∃ v q, e = .returned v ∧ OwnN w' w.heap.size v l ∧ Rd w' r q (at_ + l.length) ∧ l.length ≤ s.length ∧ w.grownBy w' (.some r) := by
  obtain ⟨hg, ⟨l', q', v, h1, rfl, h2, h3, h4⟩ | ⟨h1, _⟩⟩ := h
  · rw [hl] at h1
    obtain rfl := Option.some.inj h1
    exact ⟨v, q', rfl, h2, h3, h4, hg⟩
  · rw [hl] at h1; cases h1
theorem NamesTo.none {com : Bool} {f : List UInt8 → Option PC.Nam} {r : Nat} {s : List UInt8} {at_ : Int} {w w' : World} {e : Ending} (h : NamesTo com f r s at_ w e w') (hl : PR.names com f s = .none) :
    ∃ v, e = .panicked [{ v := v, recovered := false }] ∧ fltV v ∧ w.grownBy w' (.some r) := by
  obtain ⟨hg, ⟨l', q', v, h1, _⟩ | ⟨_, v, hv, rfl⟩⟩ := h
  · rw [hl] at h1; cases h1
  · exact ⟨v, rfl, hv, hg⟩

end Go.Proofs.YtjcaejdokillgaaDoor
