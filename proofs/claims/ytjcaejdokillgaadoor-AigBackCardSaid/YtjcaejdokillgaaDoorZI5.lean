/- Contract: octets' circuit: what stays while it is read. -/
import Derived.Test.YtjcaejdokillgaaDoorZI1
import Derived.Test.YtjcaejdokillgaaDoorZP3
import Derived.Test.YtjcaejdokillgaaDoorZJ9
import Derived.Test.YtjcaejdokillgaaDoorZC6
namespace Go.Proofs.YtjcaejdokillgaaDoor
open Go.RowKit Go.Shelf
attribute [local simp] mk_get

/-- what the first line leaves -/
def HeadI (r : Nat) (s : List UInt8) (w : World) (e : Ending) (w' : World) : Prop :=
  w.grownBy w' (some r) ∧ ((∃ n q v, PI.header s = some (n, q) ∧ e = .returned v ∧ OwnI w' w.heap.size v n ∧ RdI w' r q) ∨ (PI.header s = none ∧ e = .panicked synC))

theorem header_eq (s : List UInt8) : PI.header s = match PR.lineN PI.iW 7 7 s with
    | none => none
    | some a => if PI.headOk a.1 = true then some a else none := by
  unfold PI.header
  cases PR.lineN PI.iW 7 7 s <;> rfl

set_option maxRecDepth 100000 in
set_option maxHeartbeats 8000000 in
theorem iHead_any (r : Nat) (s : List UInt8) (m : Int) (w : World) (h : RdI w r s) (hs : s.length ≤ 65536) (hm : w.cell? ⟨0, 0, none⟩ = some (.int .i64 m)) (hr0 : r ≠ 0) :
    Calls Tryd.prog 57 #[.pointer (some ⟨r, 0, none⟩)] w fun e w' => HeadI r s w e w' := by
  have hN := iLine_head r s m w h hs hm hr0
  have hh := header_eq s
  cases hl : PR.lineN PI.iW 7 7 s with
  | none =>
    have hN2 := Lib.hid (hN.mono fun e w' hh => NumsI.none hh hl)
    rw [hl] at hh
    have hno : Hid (PI.header s = none) := hh
    clear hN hl hh h hs hm
    go_enter Tryd.func57, Tryd.ntmps57
    go_wp2_with (go_at_call 58; refine hN2.out.mono ?_; rintro e w1 ⟨rfl, hg1⟩)
    exact ⟨rfl, hg1, .inr ⟨hno.out, rfl⟩⟩
  | some a =>
    obtain ⟨n, q⟩ := a
    obtain ⟨hn7, hnj, _⟩ := PJ.head_nums hl
    obtain ⟨x0, x1, x2, x3, x4, x5, x6, rfl⟩ := PJ.list7 hn7
    have hr := (PR.lineN_back hl).2.2.2
    have r0 := hr x0 (by simp)
    have r1 := hr x1 (by simp)
    have r2 := hr x2 (by simp)
    have r4 := hr x4 (by simp)
    have hN2 := Lib.hid (hN.mono fun e w' hh => NumsI.some hh hl)
    rw [hl] at hh
    have hok : PI.headOk [x0, x1, x2, x3, x4, x5, x6] = (decide (x0 ≤ 2048) && decide (x1 ≤ 64) && decide (x2 ≤ 64) && decide (x4 ≤ 2048) && decide (x1 + x2 + x4 = x0)) := rfl
    have hno' : PI.headOk [x0, x1, x2, x3, x4, x5, x6] = false → PI.header s = none := fun hf => by rw [hh]; simp only [hf]; rfl
    have hyes' : PI.headOk [x0, x1, x2, x3, x4, x5, x6] = true → PI.header s = some ([x0, x1, x2, x3, x4, x5, x6], q) := fun hf => by rw [hh]; simp only [hf]; rfl
    rw [hok] at hno' hyes'
    clear hN hl hh h hs hm hn7 hnj hr hok
    go_enter Tryd.func57, Tryd.ntmps57
    by_cases b0 : x0 ≤ 2048
    case neg =>
      have hno := Lib.hid (hno' (by rw [decide_eq_false b0]; rfl))
      have d0 : decide (x0 ≤ 2048) = false := decide_eq_false b0
      clear hno' hyes' b0
      go_wp2_with (go_at_call 58; refine hN2.out.mono ?_; rintro e w1 ⟨v, rfl, hv, hR1, hg1⟩; have hv1 := hv.1; obtain ⟨g, c, rfl, hgB, hgs, _⟩ := owns_some hv1 (by simp); have HV := Lib.hid hv; have HR1 := Lib.hid hR1; have HG1 := Lib.hid hg1; have cc : ∀ j (hj : j < 7), w1.cell? ⟨g, j, none⟩ = some (.int .i64 ([x0, x1, x2, x3, x4, x5, x6][j]'hj)) := fun j hj => (by rw [hv1.cellAt j (by simpa using hj), List.getElem?_map, List.getElem?_eq_getElem (by simpa using hj)]; rfl); have k0 : ∀ z : Later w1, _ := fun z => z.cell (cc 0 (by decide)); have k1 : ∀ z : Later w1, _ := fun z => z.cell (cc 1 (by decide)); have k2 : ∀ z : Later w1, _ := fun z => z.cell (cc 2 (by decide)); have k4 : ∀ z : Later w1, _ := fun z => z.cell (cc 4 (by decide)); simp only [List.getElem_cons_zero, List.getElem_cons_succ] at k0 k1 k2 k4; clear hv hv1 cc hR1 hg1)
      refine wp_region_later_tail 39 (by kernel_rfl) (by kernel_rfl) ?_; simp only [List.take_succ_cons, List.take_zero, List.drop_succ_cons, List.drop_zero]; (repeat (go_big_quiet_step (fail))); refine wpQuiet_nil ?_; rintro w3 ⟨⟨_, hb3⟩, rfl⟩
      clear k0 k1 k2 k4
      go_wp2_with (go_at_call 59; refine (iNeed_no _).mono ?_; rintro e w5 ⟨rfl, rfl⟩)
      exact ⟨rfl, grownBy_below HG1.out hb3, .inr ⟨hno.out, rfl⟩⟩
    by_cases b1 : x1 ≤ 64
    case neg =>
      have hno := Lib.hid (hno' (by rw [decide_eq_false b1]; simp))
      have d1 : decide (x1 ≤ 64) = false := decide_eq_false b1
      clear hno' hyes' b1
      go_wp2_with (go_at_call 58; refine hN2.out.mono ?_; rintro e w1 ⟨v, rfl, hv, hR1, hg1⟩; have hv1 := hv.1; obtain ⟨g, c, rfl, hgB, hgs, _⟩ := owns_some hv1 (by simp); have HV := Lib.hid hv; have HR1 := Lib.hid hR1; have HG1 := Lib.hid hg1; have cc : ∀ j (hj : j < 7), w1.cell? ⟨g, j, none⟩ = some (.int .i64 ([x0, x1, x2, x3, x4, x5, x6][j]'hj)) := fun j hj => (by rw [hv1.cellAt j (by simpa using hj), List.getElem?_map, List.getElem?_eq_getElem (by simpa using hj)]; rfl); have k0 : ∀ z : Later w1, _ := fun z => z.cell (cc 0 (by decide)); have k1 : ∀ z : Later w1, _ := fun z => z.cell (cc 1 (by decide)); have k2 : ∀ z : Later w1, _ := fun z => z.cell (cc 2 (by decide)); have k4 : ∀ z : Later w1, _ := fun z => z.cell (cc 4 (by decide)); simp only [List.getElem_cons_zero, List.getElem_cons_succ] at k0 k1 k2 k4; clear hv hv1 cc hR1 hg1)
      refine wp_region_later_tail 39 (by kernel_rfl) (by kernel_rfl) ?_; simp only [List.take_succ_cons, List.take_zero, List.drop_succ_cons, List.drop_zero]; (repeat (go_big_quiet_step (fail))); refine wpQuiet_nil ?_; rintro w3 ⟨⟨_, hb3⟩, rfl⟩
      clear k0 k1 k2 k4
      go_wp2_with (go_at_call 59; refine (iNeed_no _).mono ?_; rintro e w5 ⟨rfl, rfl⟩)
      exact ⟨rfl, grownBy_below HG1.out hb3, .inr ⟨hno.out, rfl⟩⟩
    by_cases b2 : x2 ≤ 64
    case neg =>
      have hno := Lib.hid (hno' (by rw [decide_eq_false b2]; simp))
      have d2 : decide (x2 ≤ 64) = false := decide_eq_false b2
      clear hno' hyes' b2
      go_wp2_with (go_at_call 58; refine hN2.out.mono ?_; rintro e w1 ⟨v, rfl, hv, hR1, hg1⟩; have hv1 := hv.1; obtain ⟨g, c, rfl, hgB, hgs, _⟩ := owns_some hv1 (by simp); have HV := Lib.hid hv; have HR1 := Lib.hid hR1; have HG1 := Lib.hid hg1; have cc : ∀ j (hj : j < 7), w1.cell? ⟨g, j, none⟩ = some (.int .i64 ([x0, x1, x2, x3, x4, x5, x6][j]'hj)) := fun j hj => (by rw [hv1.cellAt j (by simpa using hj), List.getElem?_map, List.getElem?_eq_getElem (by simpa using hj)]; rfl); have k0 : ∀ z : Later w1, _ := fun z => z.cell (cc 0 (by decide)); have k1 : ∀ z : Later w1, _ := fun z => z.cell (cc 1 (by decide)); have k2 : ∀ z : Later w1, _ := fun z => z.cell (cc 2 (by decide)); have k4 : ∀ z : Later w1, _ := fun z => z.cell (cc 4 (by decide)); simp only [List.getElem_cons_zero, List.getElem_cons_succ] at k0 k1 k2 k4; clear hv hv1 cc hR1 hg1)
      refine wp_region_later_tail 39 (by kernel_rfl) (by kernel_rfl) ?_; simp only [List.take_succ_cons, List.take_zero, List.drop_succ_cons, List.drop_zero]; (repeat (go_big_quiet_step (fail))); refine wpQuiet_nil ?_; rintro w3 ⟨⟨_, hb3⟩, rfl⟩
      clear k0 k1 k2 k4
      go_wp2_with (go_at_call 59; refine (iNeed_no _).mono ?_; rintro e w5 ⟨rfl, rfl⟩)
      exact ⟨rfl, grownBy_below HG1.out hb3, .inr ⟨hno.out, rfl⟩⟩
    by_cases b4 : x4 ≤ 2048
    case neg =>
      have hno := Lib.hid (hno' (by rw [decide_eq_false b4]; simp))
      have d4 : decide (x4 ≤ 2048) = false := decide_eq_false b4
      clear hno' hyes' b4
      go_wp2_with (go_at_call 58; refine hN2.out.mono ?_; rintro e w1 ⟨v, rfl, hv, hR1, hg1⟩; have hv1 := hv.1; obtain ⟨g, c, rfl, hgB, hgs, _⟩ := owns_some hv1 (by simp); have HV := Lib.hid hv; have HR1 := Lib.hid hR1; have HG1 := Lib.hid hg1; have cc : ∀ j (hj : j < 7), w1.cell? ⟨g, j, none⟩ = some (.int .i64 ([x0, x1, x2, x3, x4, x5, x6][j]'hj)) := fun j hj => (by rw [hv1.cellAt j (by simpa using hj), List.getElem?_map, List.getElem?_eq_getElem (by simpa using hj)]; rfl); have k0 : ∀ z : Later w1, _ := fun z => z.cell (cc 0 (by decide)); have k1 : ∀ z : Later w1, _ := fun z => z.cell (cc 1 (by decide)); have k2 : ∀ z : Later w1, _ := fun z => z.cell (cc 2 (by decide)); have k4 : ∀ z : Later w1, _ := fun z => z.cell (cc 4 (by decide)); simp only [List.getElem_cons_zero, List.getElem_cons_succ] at k0 k1 k2 k4; clear hv hv1 cc hR1 hg1)
      refine wp_region_later_tail 39 (by kernel_rfl) (by kernel_rfl) ?_; simp only [List.take_succ_cons, List.take_zero, List.drop_succ_cons, List.drop_zero]; (repeat (go_big_quiet_step (fail))); refine wpQuiet_nil ?_; rintro w3 ⟨⟨_, hb3⟩, rfl⟩
      clear k0 k1 k2 k4
      go_wp2_with (go_at_call 59; refine (iNeed_no _).mono ?_; rintro e w5 ⟨rfl, rfl⟩)
      exact ⟨rfl, grownBy_below HG1.out hb3, .inr ⟨hno.out, rfl⟩⟩
    by_cases b5 : x1 + x2 + x4 = x0
    case neg =>
      have hno := Lib.hid (hno' (by rw [decide_eq_false b5]; simp))
      have d5 : (x1 + x2 + x4 == x0) = false := by simpa using b5
      have d5' : decide (x1 + x2 + x4 = x0) = false := decide_eq_false b5
      clear hno' hyes'
      go_wp2_with (go_at_call 58; refine hN2.out.mono ?_; rintro e w1 ⟨v, rfl, hv, hR1, hg1⟩; have hv1 := hv.1; obtain ⟨g, c, rfl, hgB, hgs, _⟩ := owns_some hv1 (by simp); have HV := Lib.hid hv; have HR1 := Lib.hid hR1; have HG1 := Lib.hid hg1; have cc : ∀ j (hj : j < 7), w1.cell? ⟨g, j, none⟩ = some (.int .i64 ([x0, x1, x2, x3, x4, x5, x6][j]'hj)) := fun j hj => (by rw [hv1.cellAt j (by simpa using hj), List.getElem?_map, List.getElem?_eq_getElem (by simpa using hj)]; rfl); have k0 : ∀ z : Later w1, _ := fun z => z.cell (cc 0 (by decide)); have k1 : ∀ z : Later w1, _ := fun z => z.cell (cc 1 (by decide)); have k2 : ∀ z : Later w1, _ := fun z => z.cell (cc 2 (by decide)); have k4 : ∀ z : Later w1, _ := fun z => z.cell (cc 4 (by decide)); simp only [List.getElem_cons_zero, List.getElem_cons_succ] at k0 k1 k2 k4; clear hv hv1 cc hR1 hg1)
      refine wp_region_later_tail 39 (by kernel_rfl) (by kernel_rfl) ?_; simp only [List.take_succ_cons, List.take_zero, List.drop_succ_cons, List.drop_zero]; (repeat (go_big_quiet_step (fail))); refine wpQuiet_nil ?_; rintro w3 ⟨⟨_, hb3⟩, rfl⟩
      clear k0 k1 k2 k4
      go_wp2_with (go_at_call 59; refine (iNeed_no _).mono ?_; rintro e w5 ⟨rfl, rfl⟩)
      exact ⟨rfl, grownBy_below HG1.out hb3, .inr ⟨hno.out, rfl⟩⟩
    have hyes := Lib.hid (hyes' (by simp [b0, b1, b2, b4, b5]))
    have d5 : (x1 + x2 + x4 == x0) = true := by simpa using b5
    clear hno' hyes'
    go_wp2_with (go_at_call 58; refine hN2.out.mono ?_; rintro e w1 ⟨v, rfl, hv, hR1, hg1⟩; have hv1 := hv.1; obtain ⟨g, c, rfl, hgB, hgs, _⟩ := owns_some hv1 (by simp); have HV := Lib.hid hv; have HR1 := Lib.hid hR1; have HG1 := Lib.hid hg1; have cc : ∀ j (hj : j < 7), w1.cell? ⟨g, j, none⟩ = some (.int .i64 ([x0, x1, x2, x3, x4, x5, x6][j]'hj)) := fun j hj => (by rw [hv1.cellAt j (by simpa using hj), List.getElem?_map, List.getElem?_eq_getElem (by simpa using hj)]; rfl); have k0 : ∀ z : Later w1, _ := fun z => z.cell (cc 0 (by decide)); have k1 : ∀ z : Later w1, _ := fun z => z.cell (cc 1 (by decide)); have k2 : ∀ z : Later w1, _ := fun z => z.cell (cc 2 (by decide)); have k4 : ∀ z : Later w1, _ := fun z => z.cell (cc 4 (by decide)); simp only [List.getElem_cons_zero, List.getElem_cons_succ] at k0 k1 k2 k4; clear hv hv1 cc hR1 hg1)
    refine wp_region_later_tail 39 (by kernel_rfl) (by kernel_rfl) ?_; simp only [List.take_succ_cons, List.take_zero, List.drop_succ_cons, List.drop_zero]; (repeat (go_big_quiet_step (fail))); refine wpQuiet_nil ?_; rintro w3 ⟨⟨_, hb3⟩, rfl⟩
    clear k0 k1 k2 k4
    go_wp2_with (go_at_call 59; refine (iNeed_ok _).mono ?_; rintro e w5 ⟨rfl, hw5⟩; subst hw5)
    go_ret
    exact ⟨grownBy_below HG1.out hb3, .inl ⟨_, q, _, hyes.out, rfl, HV.out.mono hb3, HR1.out.mono hb3⟩⟩

end Go.Proofs.YtjcaejdokillgaaDoor

namespace Go.Proofs.YtjcaejdokillgaaDoor
open Go.RowKit Go.Shelf
attribute [local simp] mk_get

theorem ta_hitI (w : World) : (Instr.typeAssert synV 20 29 true).run Tryd.prog w = .ok (.tuple #[.int .i64 33, .bool true]) w := by kernel_rfl

theorem wpList_mv {P : Program} {ops : Array Oper} {rest : List Oper} {o : Oper} {a : Act} {w : World} {Q : Exit → Act → World → Prop} (hg : o.guard = none) (x : Operand) (ho : o.op = .move x)
    (h : wpList P ops Q rest (a.put o.dst (a.eval x)) w) : wpList P ops Q (o :: rest) a w :=
  wpList_plain hg fun K hK => by
    unfold Oper.wp execOp
    simp only [ho]
    exact hK _ _ h

theorem frameI (p0 p1 : Value) : (#[p0, p1] ++ Array.replicate (Tryd.f56.ntmps - (#[p0, p1] : Array Value).size) undef : Array Value) = #[p0, p1, undef, undef, undef, undef, undef, undef, undef, undef, undef, undef] := rfl

set_option maxRecDepth 100000 in
set_option maxHeartbeats 1000000 in
theorem iCatch_idle (p0 p1 : Value) (w : World) :
    CallsD Tryd.prog 56 #[p0, p1] .returning w fun e u' w' => e = .returned (.tuple #[]) ∧ u' = .returning ∧ w' = w := by
  have hta := ta_nil
  refine callsD_of_wpS Tryd.func56 rfl fun c₀ cs hu => ?_
  rw [frameI]
  apply wpS_seq
  apply wpS_region
  simp [wpOpsS, go_sem, recoverD, hu, hta, Exit.thenS]
  apply wpS_seq
  apply wpS_region
  simp [wpOpsS, go_sem, Exit.thenS]
  refine wpS_cond (t := false) (by simp [Act.eval]) ?_
  simp only [Bool.false_eq_true, if_false]
  refine wpS_of_wp (wp_skip ?_)
  cases c₀
  simp_all [bodyPostS, results, Tryd.results56]

set_option maxRecDepth 100000 in
set_option maxHeartbeats 2000000 in
theorem iCatch_hit (b : Nat) (cs : List Value) (hcs : cs.length = 8) (y : Value) (w : World) (h0 : RowL 27 w b cs) (h2 : RowL 29 w (b + 1) [y]) :
    CallsD Tryd.prog 56 #[.pointer (some ⟨b, 0, none⟩), .pointer (some ⟨b + 1, 0, none⟩)] (.panicking synC) w fun e u' w' =>
      e = .returned (.tuple #[]) ∧ u' = .panicking [{ v := synV, recovered := true }] ∧ RowL 27 w' b zero8 ∧ RowL 29 w' (b + 1) [.int .i64 33] ∧ Below b w w' := by
  have hta := ta_hitI
  have H0 := Lib.hid h0
  have H2 := Lib.hid h2
  clear h0 h2
  refine callsD_of_wpS Tryd.func56 rfl fun c₀ cs' hu => ?_
  rw [frameI]
  apply wpS_seq
  apply wpS_region
  simp [wpOpsS, go_sem, recoverD, hu, hta, Exit.thenS]
  apply wpS_seq
  apply wpS_region
  simp [wpOpsS, go_sem, Exit.thenS]
  refine wpS_cond (t := true) (by simp [Act.eval]) ?_
  simp only [if_true]
  refine wpS_of_wp (wp_region_list ?_)
  refine wpList_build rfl 27 _ rfl (by kernel_rfl) ?_
  refine wpList_mv rfl _ rfl ?_
  refine wpList_row rfl 27 _ _ rfl b zero8 rfl (by kernel_rfl) H0.out (by kernel_rfl) (by rw [hcs]; rfl) (by kernel_rfl) ?_
  intro V hV hg
  have h1 := H2.out.grown hg (fun e => by have := Option.some.inj e; omega)
  have hb := (Below.refl b w).grown hg (Nat.le_of_lt H0.out.lt) (fun k e => by cases e; exact Nat.le_refl _)
  have c1 := h1.cell 0 _ rfl
  have f1 := h1.frozen 0
  have q1 := set_grown' V (b + 1) 0 (.int .i64 33)
  have R := Lib.hid (And.intro (hV.grown q1 (fun e => by have := Option.some.inj e; omega)) (And.intro (h1.set 0 (.int .i64 33)) (hb.grown q1 (by have := hV.lt; omega) (fun k e => by cases e; omega))))
  clear hV hg h1 hb q1 H0 H2
  go_wp2_with fail
  simp only [bodyPostS, results, Tryd.results56]
  exact ⟨trivial, _, rfl, .tuple #[], by simp [go_sem], rfl, rfl, R.out.1, R.out.2.1, R.out.2.2⟩

/-- octets in a slice, read as a text -/
def Octs (w : World) (v : Value) (s : List UInt8) : Prop := ∃ ao cap, v = .slice ao s.length cap ∧ ∀ y, Below w.heap.size w y → (convert 47 9 v).run Tryd.prog y = .ok (.string ⟨s.toArray⟩) y
theorem Octs.mono {w w' : World} {v : Value} {s : List UInt8} (h : Octs w v s) (hb : Below w.heap.size w w') : Octs w' v s := by
  obtain ⟨ao, cap, e, h⟩ := h
  exact ⟨ao, cap, e, fun y hy => h y (Below.of hb hy)⟩

/-- what Read leaves -/
def RTo (s : List UInt8) (w : World) (e : Ending) (w' : World) : Prop := Below w.heap.size w w' ∧
  ((∃ c v, s.length ≤ 65536 ∧ PI.parse s = some c ∧ e = .returned (.tuple #[v, .int .i64 0]) ∧ IsCirc w' v c) ∨
    (65536 < s.length ∧ e = .returned (.tuple #[.agg zero8.toArray, .int .i64 5])) ∨
    (s.length ≤ 65536 ∧ PI.parse s = none ∧ e = .returned (.tuple #[.agg zero8.toArray, .int .i64 33])))

theorem read8I {T : TypeId} {W : World} {b : Nat} {c0 c1 c2 c3 c4 c5 c6 c7 : Value} (h : RowL T W b [c0, c1, c2, c3, c4, c5, c6, c7]) :
    W.cell? ⟨b, 0, none⟩ = some c0 ∧ W.cell? ⟨b, 1, none⟩ = some c1 ∧ W.cell? ⟨b, 2, none⟩ = some c2 ∧ W.cell? ⟨b, 3, none⟩ = some c3 ∧ W.cell? ⟨b, 4, none⟩ = some c4 ∧ W.cell? ⟨b, 5, none⟩ = some c5 ∧ W.cell? ⟨b, 6, none⟩ = some c6 ∧ W.cell? ⟨b, 7, none⟩ = some c7 :=
  ⟨h.cell 0 _ rfl, h.cell 1 _ rfl, h.cell 2 _ rfl, h.cell 3 _ rfl, h.cell 4 _ rfl, h.cell 5 _ rfl, h.cell 6 _ rfl, h.cell 7 _ rfl⟩

theorem iDoor_no (s : List UInt8) (b : Nat) (w y : World) (tmps : Array Value) (cs : List Value) (z : Value) (t2 : tmps[2]? = some (.pointer (some ⟨b, 0, none⟩))) (t3 : tmps[3]? = some (.pointer (some ⟨b + 1, 0, none⟩)))
    (hcs : cs.length = 8) (h0 : RowL 27 y b cs) (h2 : RowL 29 y (b + 1) [z]) (hb : Below w.heap.size w y) (hwb : w.heap.size ≤ b) (hs : s.length ≤ 65536) (hno : PI.parse s = none) :
    bodyPostD Tryd.prog Tryd.f23 (RTo s w) (.panic synC)
      { tmps := tmps, defers := [{ target := .fn (.func 56) #[.pointer (some ⟨b, 0, none⟩), .pointer (some ⟨b + 1, 0, none⟩)], args := #[] }] } y := by
  show Leaves _ _ _ _ _ _ _
  refine leaves_cons (f := 56) (args := #[.pointer (some ⟨b, 0, none⟩), .pointer (some ⟨b + 1, 0, none⟩)]) (by simp) (by simp [go_sem]) ?_
  refine (iCatch_hit b cs hcs z y h0 h2).mono ?_
  rintro e u' W ⟨rfl, rfl, r0, r2, hbW⟩
  show ∃ v, _ ∧ _
  obtain ⟨k0, k1, k2, k3, k4, k5, k6, k7⟩ := read8I r0
  have q2 := r2.cell 0 _ rfl
  refine ⟨.tuple #[.agg zero8.toArray, .int .i64 33], ?_, hb.trans (hbW.mono hwb), .inr (.inr ⟨hs, hno, rfl⟩)⟩
  clear r0 r2 hbW h0 h2 hb
  simp [results, Tryd.results23, go_sem, t2, t3, k0, k1, k2, k3, k4, k5, k6, k7, q2]

theorem iDoor_yes (s : List UInt8) (b : Nat) (w y : World) (tmps : Array Value) (c : PC.Circ) (c0 c1 c2 c3 c4 c5 c6 c7 : Value) (t2 : tmps[2]? = some (.pointer (some ⟨b, 0, none⟩))) (t3 : tmps[3]? = some (.pointer (some ⟨b + 1, 0, none⟩)))
    (h0 : RowL 27 y b [c0, c1, c2, c3, c4, c5, c6, c7]) (h2 : RowL 29 y (b + 1) [.int .i64 0]) (hb : Below w.heap.size w y) (hs : s.length ≤ 65536) (hp : PI.parse s = some c) (hc : IsCirc y (.agg #[c0, c1, c2, c3, c4, c5, c6, c7]) c) :
    bodyPostD Tryd.prog Tryd.f23 (RTo s w) .ret
      { tmps := tmps, defers := [{ target := .fn (.func 56) #[.pointer (some ⟨b, 0, none⟩), .pointer (some ⟨b + 1, 0, none⟩)], args := #[] }] } y := by
  show Leaves _ _ _ _ _ _ _
  refine leaves_cons (f := 56) (args := #[.pointer (some ⟨b, 0, none⟩), .pointer (some ⟨b + 1, 0, none⟩)]) (by simp) (by simp [go_sem]) ?_
  refine (iCatch_idle _ _ y).mono ?_
  rintro e u' W ⟨rfl, rfl, rfl⟩
  show ∃ v, _ ∧ _
  obtain ⟨k0, k1, k2, k3, k4, k5, k6, k7⟩ := read8I h0
  have q2 := h2.cell 0 _ rfl
  refine ⟨.tuple #[.agg #[c0, c1, c2, c3, c4, c5, c6, c7], .int .i64 0], ?_, hb, .inl ⟨c, _, hs, hp, rfl, hc⟩⟩
  clear h0 h2 hb hc hp
  simp [results, Tryd.results23, go_sem, t2, t3, k0, k1, k2, k3, k4, k5, k6, k7, q2]

set_option maxRecDepth 100000 in
set_option maxHeartbeats 4000000 in
theorem iRead_long (s : List UInt8) (v : Value) (w : World) (h : Octs w v s) (hs : 65536 < s.length) (hs2 : s.length ≤ 9223372036854775807) : Calls Tryd.prog 23 #[v] w (RTo s w) := by
  have hmf : ∀ (fn : Fn) (first cap : Array Value) (w : World), (Instr.makeFunc fn first cap).run Tryd.prog w = .ok (.func fn first cap) w := fun _ _ _ _ => rfl
  obtain ⟨ao, cap, rfl, _⟩ := h
  have hz : (65536 : Int) < (s.length : Int) := by omega
  go_enter_defers Tryd.func23, Tryd.ntmps23
  go_wp2
  show ∃ v, _ ∧ _
  obtain ⟨V1, hV1⟩ : ∃ V, V = w.alloc (.cells zero8.toArray 27) := ⟨_, rfl⟩
  obtain ⟨V3, hV3⟩ : ∃ V, V = V1.alloc (.cells #[.int .i64 5] 29) := ⟨_, rfl⟩
  have e1 : V1.heap.size = w.heap.size + 1 := by rw [hV1]; simp
  have b1 : Below w.heap.size w V1 := by rw [hV1]; exact (Below.refl _ _).alloc (Nat.le_refl _) _
  have b3 : Below V1.heap.size V1 V3 := by rw [hV3]; exact (Below.refl _ _).alloc (Nat.le_refl _) _
  have r0 : RowL 27 V3 w.heap.size zero8 := by have := RowL.new (T := 27) w zero8; rw [← hV1] at this; exact this.mono b3
  have r2 : RowL 29 V3 (w.heap.size + 1) [.int .i64 5] := by have := RowL.new (T := 29) V1 [.int .i64 5]; rw [← hV3, e1] at this; exact this
  have hV : ((w.alloc (.cells #[.int .i64 0, .slice none 0 0, .slice none 0 0, .slice none 0 0, .slice none 0 0, .slice none 0 0, .slice none 0 0, .slice none 0 0] 27)).alloc (.cells #[.int .i64 5] 29)) = V3 := by rw [hV3, hV1]
  rw [hV]
  obtain ⟨k0, k1, k2, k3, k4, k5, k6, k7⟩ := read8I r0
  have q2 := r2.cell 0 _ rfl
  refine ⟨.tuple #[.agg zero8.toArray, .int .i64 5], ?_, Below.of b1 b3, .inr (.inl ⟨hs, rfl⟩)⟩
  clear r0 r2 b1 b3 hV hV1 hV3
  simp [results, Tryd.results23, go_sem, k0, k1, k2, k3, k4, k5, k6, k7, q2]

end Go.Proofs.YtjcaejdokillgaaDoor

namespace Go.Proofs.YtjcaejdokillgaaDoor
open Go.RowKit Go.Shelf
attribute [local simp] mk_get

/-- what stays while lists are read: the reader, the first line's numbers, the other variables -/
structure KeepI (w : World) (b r g6 : Nat) (m : Int) (n : List Int) (B : Nat) (q : List UInt8) (y : World) : Prop where
  rd : RdI y r q
  nums : ∀ j, j < 7 → y.cell? ⟨g6, j, none⟩ = some (.int .i64 (PJ.nth n j : Int))
  len : y.cell? ⟨0, 0, none⟩ = some (.int .i64 m)
  size : B ≤ y.heap.size
  err : RowL 29 y (b + 1) [.int .i64 0]
  below : Below w.heap.size w y

/-- where the blocks lie -/
structure PlacesI (w : World) (b r g6 B : Nat) : Prop where
  b0 : 0 < b
  wb : w.heap.size ≤ b
  rb : r = b + 2
  gB : g6 < B
  rB : r < B
  gr : r < g6

theorem KeepI.keep {w : World} {b r g6 : Nat} {m : Int} {n : List Int} {B : Nat} {q : List UInt8} {y y' : World} {row : Option Nat} (h : KeepI w b r g6 m n B q y) (p : PlacesI w b r g6 B) (hg : y.grownBy y' row) (hr : ∀ x, row = some x → x = b ∨ B ≤ x) : KeepI w b r g6 m n B q y' := by
  have ne : ∀ k, k < B → k ≠ b → some k ≠ row := fun k hk hb e => by
    rcases hr k e.symm with h | h
    · exact hb h
    · omega
  have p1 := p.rb; have p2 := p.gB; have p3 := p.rB; have p4 := p.gr; have p5 := p.b0
  exact ⟨h.rd.grown hg (ne r (by omega) (by omega)), fun j hj => hg.cell (h.nums j hj) (ne g6 (by omega) (by omega)), hg.cell h.len (ne 0 (by omega) (by omega)), Nat.le_trans h.size hg.size,
    h.err.grown hg (ne (b + 1) (by omega) (by omega)), h.below.grown hg h.below.size fun k e => by
      have := p.wb
      rcases hr k e with h | h <;> omega⟩
theorem KeepI.read {w : World} {b r g6 : Nat} {m : Int} {n : List Int} {B : Nat} {q q' : List UInt8} {y y' : World} (h : KeepI w b r g6 m n B q y) (p : PlacesI w b r g6 B) (hg : y.grownBy y' (some r)) (hR : RdI y' r q') : KeepI w b r g6 m n B q' y' := by
  have ne : ∀ k, k ≠ r → some k ≠ some r := fun k hk e => hk (Option.some.inj e)
  have p1 := p.rb; have p2 := p.gB; have p3 := p.rB; have p4 := p.gr; have p5 := p.b0; have p6 := p.wb
  exact ⟨hR, fun j hj => hg.cell (h.nums j hj) (ne g6 (by omega)), hg.cell h.len (ne 0 (by omega)), Nat.le_trans h.size hg.size, h.err.grown hg (ne (b + 1) (by omega)), h.below.grown hg h.below.size fun k e => by cases e; omega⟩
theorem KeepI.mono {w : World} {b r g6 : Nat} {m : Int} {n : List Int} {B : Nat} {q : List UInt8} {y y' : World} (h : KeepI w b r g6 m n B q y) (p : PlacesI w b r g6 B) (hb : Below y.heap.size y y') : KeepI w b r g6 m n B q y' :=
  h.keep p (row := none) ⟨hb.os, hb.tape, hb.output, hb.size, fun k hk _ => hb.block k hk⟩ fun x e => by cases e

/-- a row of the call's own is written: the circuit's variable stays -/
theorem circ_kept {b B k m' : Nat} {e : TypeId} {v : Value} {xs cs : List Value} {y y' : World} {o : Obj} (hR : RowL 27 y b cs) (hown : y.ownsRow B e k v m' xs) (hgr : (y.alloc o).grownBy y' v.ownBlock) (hb : b < B) :
    RowL 27 y' b cs :=
  (hR.mono ((Below.refl _ _).alloc (Nat.le_refl _) _)).grown hgr fun e' => by have := own_ge hown b e'.symm; omega

theorem evens_succ (k : Nat) : PI.evens (k + 1) = PI.evens k ++ [2 * (k : Int) + 2] := by
  unfold PI.evens
  rw [List.range_succ, List.map_append]
  rfl
theorem evens_len (k : Nat) : (PI.evens k).length = k := by simp [PI.evens]

theorem KeepI.app {w : World} {b r g6 : Nat} {m : Int} {n : List Int} {B : Nat} {q : List UInt8} {y y' : World} {e : TypeId} {k m' : Nat} {v : Value} {xs : List Value} {o : Obj} (h : KeepI w b r g6 m n B q y) (p : PlacesI w b r g6 B) (hown : y.ownsRow B e k v m' xs) (hgr : (y.alloc o).grownBy y' v.ownBlock) : KeepI w b r g6 m n B q y' :=
  (h.mono p ((Below.refl _ _).alloc (Nat.le_refl _) _)).keep p hgr fun x e => .inr (own_ge hown x e)

/-- a call that fails leaves what the door wants -/
theorem KeepI.lost {w : World} {b r g6 : Nat} {m : Int} {n : List Int} {B : Nat} {q : List UInt8} {y y' : World} {cs : List Value} (h : KeepI w b r g6 m n B q y) (p : PlacesI w b r g6 B) (hC : RowL 27 y b cs) (hg : y.grownBy y' (some r)) :
    RowL 27 y' b cs ∧ RowL 29 y' (b + 1) [.int .i64 0] ∧ Below w.heap.size w y' := by
  have p1 := p.rb; have p6 := p.wb
  exact ⟨hC.grown hg fun e => by have := Option.some.inj e; omega, h.err.grown hg fun e => by have := Option.some.inj e; omega, h.below.grown hg h.below.size fun k e => by cases e; omega⟩

/-- rows of another type stay where a row is appended to -/
theorem owns_app {y y' : World} {B B' : Nat} {e e' : TypeId} {k k' m' n : Nat} {v v' : Value} {xs xs' : List Value} {o : Obj} (h : y.ownsRow B' e' k' v' n xs') (hown : y.ownsRow B e k v m' xs) (hgr : (y.alloc o).grownBy y' v.ownBlock) (hne : e' ≠ e) : y'.ownsRow B' e' k' v' n xs' := by
  have h1 : (y.alloc o).ownsRow B' e' k' v' n xs' := h.alloc _
  have h2 : (y.alloc o).ownsRow B e k v m' xs := hown.alloc _
  obtain ⟨_, ⟨rfl, _⟩ | ⟨g, c, cur, rfl, _, hh, _⟩⟩ := h2
  · exact owns_below' h1 ⟨hgr.os, hgr.tape, hgr.output, hgr.size, fun k hk => hgr.block k hk (by intro e; cases e)⟩
  · exact owns_other (T := e) (cs := cur.toList) h1 hgr (by show _ = _; rw [hh]) hne

end Go.Proofs.YtjcaejdokillgaaDoor
