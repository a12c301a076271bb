/- Contract: a circuit with other variables. -/
import Derived.Test.YtpkaoabpifeigaaGreatDoorWalkZ0
import Derived.Test.YtpkaoabpifeigaaGreatDoorWalkC8
import Derived.Test.YtpkaoabpifeigaaGreatDoorPlainG
namespace Go.Proofs.YtpkaoabpifeigaaGreatDoor
open Go.RowKit Go.Shelf

theorem enters_mShift1 : ∀ args w, (callFunc 24 args).run Tryz.prog w = .ok (.enter 24 args) w := enters_of Tryz.func24 (by kernel_rfl) rfl

theorem mShift1_pred (x : Int) (w : World) (hx : rng x) : Calls Tryz.prog 24 (#[.int .i64 x] ++ #[]) w fun e w' => e = .returned (.bool (PC.strangeL x)) ∧ w = w' := by
  rw [Array.append_empty]
  obtain ⟨h1, h2⟩ := hx
  unfold PC.strangeL
  by_cases h0 : x < 2
  · go_enter Tryz.func24, Tryz.ntmps24
    go_wp2
    go_ret
    exact ⟨by simp [h0], rfl⟩
  · have e := and_one_i64 x (by omega) h2
    have e2 : (x % 2 == 1) = decide (x % 2 = 1) := by rw [Bool.eq_iff_iff]; simp
    clear h1 h2
    go_enter Tryz.func24, Tryz.ntmps24
    go_wp2
    go_ret
    have h3 : decide (x < 2) = false := by simpa using h0
    exact ⟨by rw [h3, ← e2, ← e]; rfl, rfl⟩

theorem noC_is (w : World) : IsCirc w (.agg #[.int .i64 0, .slice none 0 0, .slice none 0 0, .slice none 0 0, .slice none 0 0, .slice none 0 0, .slice none 0 0, .slice none 0 0]) PC.noC := by
  have hI : Ints w (.slice none 0 0) [] := ⟨Cells.nil _ _, fun x hx => by cases hx⟩
  exact ⟨_, _, _, _, _, _, _, rfl, ⟨hI, ⟨Cells.nil _ _, fun x hx => by cases hx⟩, hI, hI, hI, ⟨Cells.nil _ _, fun x hx => by cases hx⟩, ⟨Cells.nil _ _, fun x hx => by cases hx⟩⟩, by unfold rng; decide⟩

theorem pairsI_len (ins to : List Int) (h : to.length = ins.length) : (pairsI ins to).length = ins.length := by
  unfold pairsI
  rw [List.length_map, List.length_zip]
  omega
theorem pairsI_get (ins to : List Int) (h : to.length = ins.length) (k : Nat) (hk : k < ins.length) : (pairsI ins to)[k]'(by rw [pairsI_len ins to h]; exact hk) = ((PC.varOf ins[k] : Int), to[k]'(by omega)) := by
  unfold pairsI
  simp
theorem pairsI_take (ins to : List Int) (h : to.length = ins.length) (k : Nat) (hk : k < ins.length) : (pairsI ins to).take (k + 1) = (pairsI ins to).take k ++ [((PC.varOf ins[k] : Int), to[k]'(by omega))] := by
  rw [List.take_succ_eq_append_getElem (by rw [pairsI_len ins to h]; exact hk), pairsI_get ins to h k hk]
theorem pairsI_free (ins to : List Int) (h : to.length = ins.length) (hn : (ins.map PC.varOf).Nodup) (k : Nat) (hk : k < ins.length) : ((pairsI ins to).take k).find? (fun p => p.1 == (PC.varOf ins[k] : Int)) = none := by
  rw [List.find?_eq_none]
  intro p hp
  obtain ⟨j, hj, rfl⟩ := List.getElem_of_mem hp
  rw [List.length_take] at hj
  rw [List.getElem_take, pairsI_get ins to h j (by omega)]
  have := (List.pairwise_iff_getElem.1 hn) j k (by simp; omega) (by simp; omega) (by omega)
  simp only [List.getElem_map] at this
  intro e
  have e : ((PC.varOf ins[j] : Nat) : Int) = (PC.varOf ins[k] : Int) := by simpa using e
  exact this (by omega)

theorem grownBy_undrew {w w' : World} {r : Option Nat} (h : w.drew.grownBy w' r) : w.grownBy w' r := ⟨h.os, h.tape, h.output, h.size, h.block⟩
theorem OwnI.base {w : World} {B B' : Nat} {v : Value} {l : List Int} (h : OwnI w B v l) (hb : B' ≤ B) : OwnI w B' v l := ⟨World.ownsRow.mono h.1 hb, h.2⟩
theorem OwnI.slice {w : World} {B : Nat} {v : Value} {l : List Int} (h : OwnI w B v l) : ∃ ao cap, v = .slice ao l.length cap := by
  obtain ⟨_, ⟨rfl, h0⟩ | ⟨g, cap, cur, rfl, _⟩⟩ := h.1
  · exact ⟨none, 0, by rw [h0]⟩
  · exact ⟨_, _, rfl⟩
theorem OwnI.kept {T : TypeId} {w w' : World} {B q : Nat} {v : Value} {l : List Int} {cs : List Value} (h : OwnI w B v l) (hg : w.grownBy w' (some q)) (hq : RowL T w q cs) (hne : 3 ≠ T) : OwnI w' B v l :=
  ⟨h.1.kept hg (Or.inr fun e => hq.other h.1 hne e.symm), h.2⟩
theorem owned_slice {w : World} {B : Nat} {e : TypeId} {k : Nat} {v : Value} {n : Nat} {xs : List Value} (h : w.ownsRow B e k v n xs) : ∃ ao cap, v = .slice ao n cap := by
  obtain ⟨_, ⟨rfl, h0⟩ | ⟨g, cap, cur, rfl, _⟩⟩ := h
  · exact ⟨none, 0, by rw [h0]⟩
  · exact ⟨_, _, rfl⟩

theorem infoLat : (Tryz.prog.info? 38).map (fun i => (i.zero, i.size, i.bytes)) = some (some (.agg #[.int .i64 0, .int .i64 0, .int .i64 0]), 3, 24) := by kernel_rfl
theorem infoGat : (Tryz.prog.info? 35).map (fun i => (i.zero, i.size, i.bytes)) = some (some (.agg #[.int .i64 0, .int .i64 0, .int .i64 0]), 3, 24) := by kernel_rfl
theorem owns_other {T : TypeId} {w w' : World} {B q k : Nat} {e : TypeId} {v : Value} {m : Nat} {xs cs : List Value} (h : w.ownsRow B e k v m xs) (hg : w.grownBy w' (some q)) (hq : RowL T w q cs) (hne : e ≠ T) : w'.ownsRow B e k v m xs :=
  h.kept hg (Or.inr fun x => hq.other h hne x.symm)
theorem cells_of_row3 {y : World} {g : Nat} {a b d : Value} {T : TypeId} (h : y.heap[g]? = some (.cells #[a, b, d] T (0, 0))) : Cells y 3 (.slice (some ⟨g, 0, none⟩) 1 1) 1 [a, b, d] := by
  refine ⟨_, _, rfl, Nat.le_refl _, by omega, (fun h => by cases h), rfl, fun j hj => ⟨g, 0, rfl, (Array.getElem?_eq_some_iff.1 h).1, ?_⟩⟩
  rw [Nat.zero_add, cell_of_row y g j _ _ _ h]
  have : j < 3 := hj
  simp [this]

/-- what a function that tells a circuit and an error yields -/
def CircE (w : World) (E : Int) (D : PC.Circ) (e : Ending) (w' : World) : Prop := ∃ u, e = .returned (.tuple #[u, .int .i64 E]) ∧ IsCirc w' u D ∧ Below w.heap.size w w'

set_option maxRecDepth 100000 in
set_option maxHeartbeats 8000000 in
theorem mShift_any (c : PC.Circ) (to : List Int) (n : Int) (vc vt : Value) (w : World) (h : IsCirc w vc c) (ht : Ints w vt to) (_hn : rng n) :
    Calls Tryz.prog 8 #[vc, vt, .int .i64 n] w (CircE w (PC.shiftE c to n) (PC.shiftD c to n)) := by
  have hIC := Lib.hid h
  obtain ⟨vi, vl, vo, vb, vv, va, vn, rfl, hp, hmx⟩ := h
  obtain ⟨ai, capi, rfl, hi1, hi2, hi3⟩ := hp.inputs.open_
  obtain ⟨al, capl, rfl, hll1, hll2, hll3⟩ := hp.latches.open_
  obtain ⟨aa, capa, rfl, haa1, haa2, haa3⟩ := hp.ands.open_
  clear hll1 hll2 hll3 haa1 haa2 haa3
  have HTO := Lib.hid ht
  obtain ⟨ao, cap, rfl, ht1, ht2, ht3⟩ := ht.open_
  have HP := Lib.hid hp
  clear ht3 hi3 hp ht
  have hb0 := Lib.hid (((Below.refl w.heap.size w).alloc (Nat.le_refl _) (.cells #[.int .i64 c.max, .slice ai c.inputs.length capi, .slice al c.latches.length capl, vo, vb, vv, .slice aa c.ands.length capa, vn] 27)).alloc (by simp) (.cells #[.int .i64 0, .slice none 0 0, .slice none 0 0, .slice none 0 0, .slice none 0 0, .slice none 0 0, .slice none 0 0, .slice none 0 0] 27))
  have hbx := ((RowL.new (T := 27) w [.int .i64 c.max, .slice ai c.inputs.length capi, .slice al c.latches.length capl, vo, vb, vv, .slice aa c.ands.length capa, vn]).mono ((Below.refl _ _).alloc (Nat.le_refl _) (.cells #[.int .i64 0, .slice none 0 0, .slice none 0 0, .slice none 0 0, .slice none 0 0, .slice none 0 0, .slice none 0 0, .slice none 0 0] 27)))
  have hrz := RowL.new (T := 27) (w.alloc (.cells #[.int .i64 c.max, .slice ai c.inputs.length capi, .slice al c.latches.length capl, vo, vb, vv, .slice aa c.ands.length capa, vn] 27)) [.int .i64 0, .slice none 0 0, .slice none 0 0, .slice none 0 0, .slice none 0 0, .slice none 0 0, .slice none 0 0, .slice none 0 0]
  rw [World.size_alloc] at hrz
  have HBX := Lib.hid hbx
  have HRZ := Lib.hid hrz
  clear hbx hrz
  have hCk := Lib.hid (cCheck_any c _ _ (hIC.out.mono hb0.out))
  have hpc := Lib.hid (PC.pchk_eq c)
  go_enter Tryz.func8, Tryz.ntmps8
  go_wp2_with fail
  refine hCk.out.mono ?_
  rintro e w1 ⟨rfl, hb1⟩
  have hB1 := Lib.hid (Below.of hb0.out hb1)
  have HBX1 := Lib.hid (HBX.out.mono hb1)
  have HRZ1 := Lib.hid (HRZ.out.mono hb1)
  rw [hpc.out]
  clear hCk hb1 HBX HRZ hb0 hpc
  cases hck : PC.chk c with
  | false =>
    have eE : Hid (PC.shiftE c to n = 9) := by show _ = _; rw [PC.shiftE, if_pos hck]
    have eD : Hid (PC.shiftD c to n = PC.noC) := by show _ = _; rw [PC.shiftD, eE.out]; rfl
    clear hck
    simp only [Bool.false_eq_true, if_false]
    obtain ⟨⟨k0, k1, k2, k3, k4, k5, k6, k7, k8, k9, k10, k11, k12, k13, k14, k15⟩, hR, hG⟩ := (HRZ1.out).put8 (.int .i64 0) (.slice none 0 0) (.slice none 0 0) (.slice none 0 0) (.slice none 0 0) (.slice none 0 0) (.slice none 0 0) (.slice none 0 0)
    have HG := Lib.hid hG
    have q0 := hR.cell 0 _ rfl
    have q1 := hR.cell 1 _ rfl
    have q2 := hR.cell 2 _ rfl
    have q3 := hR.cell 3 _ rfl
    have q4 := hR.cell 4 _ rfl
    have q5 := hR.cell 5 _ rfl
    have q6 := hR.cell 6 _ rfl
    have q7 := hR.cell 7 _ rfl
    unfold set8 at q0 q1 q2 q3 q4 q5 q6 q7
    clear hR hG
    go_wp2_with fail
    refine bodyPost_ret (v := .tuple #[.agg #[.int .i64 0, .slice none 0 0, .slice none 0 0, .slice none 0 0, .slice none 0 0, .slice none 0 0, .slice none 0 0, .slice none 0 0], .int .i64 9]) (by simp [results, Tryz.results8, go_sem, q0, q1, q2, q3, q4, q5, q6, q7]) rfl ?_
    exact ⟨_, by rw [eE.out], by rw [eD.out]; exact noC_is _, hB1.out.grown HG.out hB1.out.size fun k e => by cases e; exact Nat.le_succ _⟩
  | true =>
    have hR := PC.right_of c hck
    have hil := hR.ins
    simp only [if_true]
    by_cases hl : to.length = c.inputs.length
    case neg =>
      have eE : Hid (PC.shiftE c to n = 3) := by show _ = _; rw [PC.shiftE, if_neg (by rw [hck]; decide), if_pos hl]
      have eD : Hid (PC.shiftD c to n = PC.noC) := by show _ = _; rw [PC.shiftD, eE.out]; rfl
      have hlb : (((to.length : Nat) : Int) != ((c.inputs.length : Nat) : Int)) = true := by rw [bne_iff_ne]; omega
      have p1 := HBX1.out.cell 1 _ rfl
      clear hck hR hil hl
      obtain ⟨⟨k0, k1, k2, k3, k4, k5, k6, k7, k8, k9, k10, k11, k12, k13, k14, k15⟩, hR, hG⟩ := (HRZ1.out).put8 (.int .i64 0) (.slice none 0 0) (.slice none 0 0) (.slice none 0 0) (.slice none 0 0) (.slice none 0 0) (.slice none 0 0) (.slice none 0 0)
      have HG := Lib.hid hG
      have q0 := hR.cell 0 _ rfl
      have q1 := hR.cell 1 _ rfl
      have q2 := hR.cell 2 _ rfl
      have q3 := hR.cell 3 _ rfl
      have q4 := hR.cell 4 _ rfl
      have q5 := hR.cell 5 _ rfl
      have q6 := hR.cell 6 _ rfl
      have q7 := hR.cell 7 _ rfl
      unfold set8 at q0 q1 q2 q3 q4 q5 q6 q7
      clear hR hG
      go_wp2_with fail
      refine bodyPost_ret (v := .tuple #[.agg #[.int .i64 0, .slice none 0 0, .slice none 0 0, .slice none 0 0, .slice none 0 0, .slice none 0 0, .slice none 0 0, .slice none 0 0], .int .i64 3]) (by simp [results, Tryz.results8, go_sem, q0, q1, q2, q3, q4, q5, q6, q7]) rfl ?_
      exact ⟨_, by rw [eE.out], by rw [eD.out]; exact noC_is _, hB1.out.grown HG.out hB1.out.size fun k e => by cases e; exact Nat.le_succ _⟩
    case pos =>
      have hlb : (((to.length : Nat) : Int) != ((c.inputs.length : Nat) : Int)) = false := by rw [bne_eq_false_iff_eq]; omega
      have p1 := HBX1.out.cell 1 _ rfl
      by_cases hnr : n < 0 ∨ 2048 < n
      · have eE : Hid (PC.shiftE c to n = 4) := by show _ = _; rw [PC.shiftE, if_neg (by rw [hck]; decide), if_neg (by simpa using hl), if_pos hnr]
        have eD : Hid (PC.shiftD c to n = PC.noC) := by show _ = _; rw [PC.shiftD, eE.out]; rfl
        clear hck hR hil hl
        by_cases hn0 : n < 0
        · clear hnr
          obtain ⟨⟨k0, k1, k2, k3, k4, k5, k6, k7, k8, k9, k10, k11, k12, k13, k14, k15⟩, hR, hG⟩ := (HRZ1.out).put8 (.int .i64 0) (.slice none 0 0) (.slice none 0 0) (.slice none 0 0) (.slice none 0 0) (.slice none 0 0) (.slice none 0 0) (.slice none 0 0)
          have HG := Lib.hid hG
          have q0 := hR.cell 0 _ rfl
          have q1 := hR.cell 1 _ rfl
          have q2 := hR.cell 2 _ rfl
          have q3 := hR.cell 3 _ rfl
          have q4 := hR.cell 4 _ rfl
          have q5 := hR.cell 5 _ rfl
          have q6 := hR.cell 6 _ rfl
          have q7 := hR.cell 7 _ rfl
          unfold set8 at q0 q1 q2 q3 q4 q5 q6 q7
          clear hR hG
          go_wp2_with fail
          refine bodyPost_ret (v := .tuple #[.agg #[.int .i64 0, .slice none 0 0, .slice none 0 0, .slice none 0 0, .slice none 0 0, .slice none 0 0, .slice none 0 0, .slice none 0 0], .int .i64 4]) (by simp [results, Tryz.results8, go_sem, q0, q1, q2, q3, q4, q5, q6, q7]) rfl ?_
          exact ⟨_, by rw [eE.out], by rw [eD.out]; exact noC_is _, hB1.out.grown HG.out hB1.out.size fun k e => by cases e; exact Nat.le_succ _⟩
        · have hn1 : n > 2048 := by omega
          clear hnr
          obtain ⟨⟨k0, k1, k2, k3, k4, k5, k6, k7, k8, k9, k10, k11, k12, k13, k14, k15⟩, hR, hG⟩ := (HRZ1.out).put8 (.int .i64 0) (.slice none 0 0) (.slice none 0 0) (.slice none 0 0) (.slice none 0 0) (.slice none 0 0) (.slice none 0 0) (.slice none 0 0)
          have HG := Lib.hid hG
          have q0 := hR.cell 0 _ rfl
          have q1 := hR.cell 1 _ rfl
          have q2 := hR.cell 2 _ rfl
          have q3 := hR.cell 3 _ rfl
          have q4 := hR.cell 4 _ rfl
          have q5 := hR.cell 5 _ rfl
          have q6 := hR.cell 6 _ rfl
          have q7 := hR.cell 7 _ rfl
          unfold set8 at q0 q1 q2 q3 q4 q5 q6 q7
          clear hR hG
          go_wp2_with fail
          refine bodyPost_ret (v := .tuple #[.agg #[.int .i64 0, .slice none 0 0, .slice none 0 0, .slice none 0 0, .slice none 0 0, .slice none 0 0, .slice none 0 0, .slice none 0 0], .int .i64 4]) (by simp [results, Tryz.results8, go_sem, q0, q1, q2, q3, q4, q5, q6, q7]) rfl ?_
          exact ⟨_, by rw [eE.out], by rw [eD.out]; exact noC_is _, hB1.out.grown HG.out hB1.out.size fun k e => by cases e; exact Nat.le_succ _⟩
      · have hn0 : ¬ n < 0 := by omega
        have hn1 : ¬ n > 2048 := by omega
        have hCF := Lib.hid (ContainsFuncI_any PC.strangeL 24 #[] w1 enters_mShift1 (fun x w2 hx _ => (mShift1_pred x w2 hx).mono fun e w' ⟨h1, h2⟩ => ⟨h1, by rw [h2]; exact Below.refl _ _⟩) to _ (HTO.out.mono hB1.out))
        cases hst : to.any PC.strangeL with
        | true =>
          have eE : Hid (PC.shiftE c to n = 23) := by show _ = _; rw [PC.shiftE, if_neg (by rw [hck]; decide), if_neg (by simpa using hl), if_neg hnr, if_pos hst]
          have eD : Hid (PC.shiftD c to n = PC.noC) := by show _ = _; rw [PC.shiftD, eE.out]; rfl
          rw [hst] at hCF
          clear hck hR hil hl hst hnr
          go_wp2_with fail
          refine hCF.out.mono ?_
          rintro e w2 ⟨rfl, hb2⟩
          have hB2 := Lib.hid (Below.of hB1.out hb2)
          have HRZ2 := Lib.hid (HRZ1.out.mono hb2)
          obtain ⟨⟨k0, k1, k2, k3, k4, k5, k6, k7, k8, k9, k10, k11, k12, k13, k14, k15⟩, hR, hG⟩ := (HRZ2.out).put8 (.int .i64 0) (.slice none 0 0) (.slice none 0 0) (.slice none 0 0) (.slice none 0 0) (.slice none 0 0) (.slice none 0 0) (.slice none 0 0)
          have HG := Lib.hid hG
          have q0 := hR.cell 0 _ rfl
          have q1 := hR.cell 1 _ rfl
          have q2 := hR.cell 2 _ rfl
          have q3 := hR.cell 3 _ rfl
          have q4 := hR.cell 4 _ rfl
          have q5 := hR.cell 5 _ rfl
          have q6 := hR.cell 6 _ rfl
          have q7 := hR.cell 7 _ rfl
          unfold set8 at q0 q1 q2 q3 q4 q5 q6 q7
          clear hR hG
          go_wp2_with fail
          refine bodyPost_ret (v := .tuple #[.agg #[.int .i64 0, .slice none 0 0, .slice none 0 0, .slice none 0 0, .slice none 0 0, .slice none 0 0, .slice none 0 0, .slice none 0 0], .int .i64 23]) (by simp [results, Tryz.results8, go_sem, q0, q1, q2, q3, q4, q5, q6, q7]) rfl ?_
          exact ⟨_, by rw [eE.out], by rw [eD.out]; exact noC_is _, hB2.out.grown HG.out hB2.out.size fun k e => by cases e; exact Nat.le_succ _⟩
        | false =>
          have eE : Hid (PC.shiftE c to n = 0) := by show _ = _; rw [PC.shiftE, if_neg (by rw [hck]; decide), if_neg (by simpa using hl), if_neg hnr, if_neg (by rw [hst]; decide)]
          have eD : Hid (PC.shiftD c to n = PC.shiftC c to n) := by show _ = _; rw [PC.shiftD, eE.out]; rfl
          rw [hst] at hCF
          clear hck hnr
          have HRT := Lib.hid hR
          have HST := Lib.hid (PC.strange_no hst)
          have HL := Lib.hid hl
          clear hR hst hl
          go_wp2_with fail
          refine hCF.out.mono ?_
          rintro e w2 ⟨rfl, hb2⟩
          have hB2 := Lib.hid (Below.of hB1.out hb2)
          have HBX2 := Lib.hid (HBX1.out.mono hb2)
          have HRZ2 := Lib.hid (HRZ1.out.mono hb2)
          have hmk : ∀ w1 : World, (Instr.makeMap 59 none).run Tryz.prog w1 = .ok (.map (some w1.heap.size)) (w1.alloc (.map #[] 0)) := fun w1 => run_makeMap _ w1
          have p1 := past2 (HBX2.out.cell 1 _ rfl)
          clear hCF hb2 hB1 HBX1 HRZ1
          go_wp2_with fail
          clear p1
          generalize hW0 : (w2.alloc (.map #[] 0)).alloc (.cells #[.map (some w2.heap.size), .int .i64 n] 61) = W0
          have hb20 : Below w2.heap.size w2 W0 := by subst hW0; exact ((Below.refl _ _).alloc (Nat.le_refl _) _).alloc (by simp) _
          have hB0 := Lib.hid (Below.of hB2.out hb20)
          have HBX0 := Lib.hid (HBX2.out.mono hb20)
          have HRZ0 := Lib.hid (HRZ2.out.mono hb20)
          have HS0 : Hid (RowL 61 W0 (w2.heap.size + 1) [.map (some w2.heap.size), .int .i64 n]) := by
            subst hW0
            have := RowL.new (T := 61) (w2.alloc (.map #[] 0)) [.map (some w2.heap.size), .int .i64 n]
            rw [World.size_alloc] at this
            exact this
          have HM0 : Hid (MapI W0 w2.heap.size []) := by
            subst hW0
            exact ⟨#[], 0, by rw [Below.heap_alloc _ _ _ (by simp)]; exact heap_alloc_new w2 _, rfl, rfl⟩
          have hMB : Hid (w.heap.size + 1 < w2.heap.size) := HRZ2.out.lt
          have hsz0 : Hid (W0.heap.size = w2.heap.size + 2) := by subst hW0; show _ = _; simp
          clear hW0 hb20 hmk hB2 HBX2 HRZ2
          have hsm : ∃ S, S = w2.heap.size + 1 := ⟨_, rfl⟩
          obtain ⟨S, hS⟩ := hsm
          rw [← hS]
          rw [← hS] at HS0
          have HSM := Lib.hid hS
          clear hS
          generalize w2.heap.size = M at *
          have HPL := Lib.hid (pairsI_len c.inputs to HL.out)
          have HPF := Lib.hid fun k hk => pairsI_free c.inputs to HL.out (PC.parts_nodup c HRT.out).1 k hk
          have HPG := Lib.hid fun k hk => pairsI_take c.inputs to HL.out k hk
          have HIN := Lib.hid HP.out.inputs
          obtain ⟨_, _, heqi, _, _, hi3⟩ := HIN.out.open_
          cases heqi
          obtain ⟨_, _, heqt, _, _, ht3⟩ := HTO.out.open_
          cases heqt
          have HI3 := Lib.hid hi3
          have HT3 := Lib.hid ht3
          clear hi3 ht3
          go_loopg [52] c.inputs.length (fun gg s52 wr => ∃ k : Nat, k ≤ c.inputs.length ∧ c.inputs.length - k ≤ gg ∧ s52 = .int .i64 k ∧ Hid (W0.grownBy wr (some M)) ∧ Hid (MapI wr M ((pairsI c.inputs to).take k)))
          case atStart => exact ⟨0, Nat.zero_le _, by omega, rfl, World.grownBy.refl _ _, HM0.out⟩
          case round =>
            obtain ⟨k, hk, hg, rfl, hgr, hmp⟩ := hrel
            have HB := Lib.hid (below_grown hB0.out hgr.out hB0.out.size (by have := hMB.out; omega))
            by_cases hlt : k < c.inputs.length
            · have hmea : ∀ g : Nat, c.inputs.length - k ≤ g → c.inputs.length - (k + 1) < g := fun g h => by omega
              obtain ⟨b1, o1, rfl, hl1, hr1, hc1⟩ := HI3.out k hlt
              obtain ⟨b2, o2, rfl, hl2, hr2, hc2⟩ := HT3.out k (by rw [HL.out]; exact hlt)
              have hc1 := (HB.out.cell hl1).trans hc1
              have hc2 := (HB.out.cell hl2).trans hc2
              have htk := Lib.hid (HPG.out k hlt)
              have hfr := HPF.out k hlt
              generalize c.inputs[k] = x at *
              generalize to[k]'_ = y at *
              obtain ⟨w4, hup, hm4, hg4, hs4⟩ := mapI_update (P := Tryz.prog) (T := 59) (K := 3) (E := 3) Tryz.underlying59 Tryz.underlying3 (w := wr.drew) hmp.out (PC.varOf x) y hfr
              have hV : Calls Tryz.prog 27 #[.int .i64 x] wr.drew fun e w' => e = .returned (.int .i64 (PC.varOf x)) ∧ w' = wr.drew := (litsVar_any x wr.drew hr1).mono fun e w' ⟨h1, h2⟩ => ⟨h1, h2.symm⟩
              have hS0 : wr.cell? ⟨S, 0, none⟩ = some (.map (some M)) := grownBy_cell hgr.out (HS0.out.cell 0 _ rfl) (by show S ≠ M; have := HSM.out; omega)
              have HM4 := Lib.hid hm4
              have HG4 := Lib.hid hg4
              have hltz : (k : Int) < (c.inputs.length : Int) := by omega
              have hltt : (k : Int) < (to.length : Int) := by have := HL.out; omega
              clear hr1 hr2 hm4 hg4 hs4 hfr
              go_wp2_with fail
              refine wp_region_still_tail 8 (by kernel_rfl) (by kernel_rfl) ?_
              simp only [List.take_succ_cons, List.take_zero, List.drop_succ_cons, List.drop_zero]
              repeat still_step
              still_call hV
              repeat still_step
              refine wpStill_nil ?_
              change wpList _ _ _ _ _ wr.drew
              go_wp2_with fail
              go_roundg (c.inputs.length - (k + 1))
              case measure => exact hmea _ hg
              case rel =>
                refine ⟨k + 1, by omega, by omega, by go_num, hgr.out.trans (grownBy_undrew HG4.out), ?_⟩
                show MapI _ _ _
                rw [htk.out]
                exact HM4.out
            · have hltz : ¬ (k : Int) < (c.inputs.length : Int) := by omega
              obtain rfl : k = c.inputs.length := by omega
              have hmE := hmp.out
              rw [show c.inputs.length = (pairsI c.inputs to).length from HPL.out.symm, List.take_length] at hmE
              have HME := Lib.hid hmE
              clear hmE hmp
              obtain ⟨W1, hW1⟩ : ∃ W1, W1 = wr := ⟨_, rfl⟩
              subst hW1
              have HBX1 := Lib.hid (HBX0.out.grown hgr.out (fun e => by have := Option.some.inj e; have := hMB.out; omega))
              have HRZ1 := Lib.hid (HRZ0.out.grown hgr.out (fun e => by have := Option.some.inj e; have := hMB.out; omega))
              have HS1 := Lib.hid (HS0.out.grown hgr.out (fun e => by have := Option.some.inj e; have := HSM.out; omega))
              have HSh : Hid (∀ y, Below W1.heap.size W1 y → Shf y (.agg #[.map (some M), .int .i64 n]) c.inputs to n) := fun y hy => ⟨M, rfl, HME.out.mono hy⟩
              have HTo : Hid (Tos to) := fun t ht => by
                have h1 := HST.out t ht
                have h2 := (HTO.out.2 t ht).2
                omega
              have Hpc : Hid (∀ y, Below W1.heap.size W1 y → y.cell? ⟨w.heap.size, 0, none⟩ = some (.int .i64 c.max) ∧ y.cell? ⟨w.heap.size, 3, none⟩ = some vo ∧ y.cell? ⟨w.heap.size, 4, none⟩ = some vb ∧ y.cell? ⟨w.heap.size, 5, none⟩ = some vv ∧ y.cell? ⟨S, 0, none⟩ = some (.map (some M)) ∧ y.cell? ⟨S, 1, none⟩ = some (.int .i64 n)) := fun y hy =>
                ⟨(HBX1.out.mono hy).cell 0 _ rfl, (HBX1.out.mono hy).cell 3 _ rfl, (HBX1.out.mono hy).cell 4 _ rfl, (HBX1.out.mono hy).cell 5 _ rfl, (HS1.out.mono hy).cell 0 _ rfl, (HS1.out.mono hy).cell 1 _ rfl⟩
              have HN : Hid (0 ≤ n ∧ n ≤ 1000000) := ⟨by omega, by omega⟩
              have hmx0 := HRT.out.max0
              have hmx1 := HRT.out.max1
              have e1 : IntKind.i64.wrap (c.max + n) = c.max + n := IntWalk.i64_in _ (by omega)
              have hall : Hid (∀ l : List Int, (∀ x ∈ l, PC.known c x = true) → ∀ x ∈ l, 0 ≤ x ∧ x ≤ 1000000) := fun l h x hx => by
                have := PC.known_range c HRT.out x (h x hx)
                omega
              have HAO : Hid (∀ y, Below W1.heap.size W1 y → _) := fun y hy => mAll_any c.inputs to c.outputs n _ vo y (HSh.out y hy) (HP.out.outputs.mono (Below.of HB.out hy)) HTo.out (hall.out _ HRT.out.outK) HN.out.1 HN.out.2 HRT.out.outs
              have HAB : Hid (∀ y, Below W1.heap.size W1 y → _) := fun y hy => mAll_any c.inputs to c.bads n _ vb y (HSh.out y hy) (HP.out.bads.mono (Below.of HB.out hy)) HTo.out (hall.out _ HRT.out.badK) HN.out.1 HN.out.2 HRT.out.bads
              have HAV : Hid (∀ y, Below W1.heap.size W1 y → _) := fun y hy => mAll_any c.inputs to c.invars n _ vv y (HSh.out y hy) (HP.out.invars.mono (Below.of HB.out hy)) HTo.out (hall.out _ HRT.out.invK) HN.out.1 HN.out.2 HRT.out.invs
              have HCL : Hid (∀ y, Below W1.heap.size W1 y → _) := fun y hy => CloneI_any to _ y (HTO.out.mono (Below.of HB.out hy)) (by have := HL.out; omega)
              clear hn0 hn1 hi1 hi2 ht1 ht2 hmx hil hlb hg hk hlt hltz HM0 HBX0 HRZ0 HS0 HPL HPF HPG hB0 hsz0 HI3 HT3 hMB HSM
              go_wp2_with fail
              refine wp_region_makes 20 [isV (.pointer (some ⟨w.heap.size, 0, none⟩)), isV (.int .i64 c.max), isV (.int .i64 n), isV (.int .i64 (c.max + n)), isV (.slice ao to.length cap), (fun v y => OwnI y W1.heap.size v (to)), isV (.agg #[.map (some M), .int .i64 n]), isV (.pointer (some ⟨w.heap.size, 3, none⟩)), isV vo, (fun v y => OwnI y W1.heap.size v (c.outputs.map (PC.mov c.inputs to n))), isV (.agg #[.map (some M), .int .i64 n]), isV (.pointer (some ⟨w.heap.size, 4, none⟩)), isV vb, (fun v y => OwnI y W1.heap.size v (c.bads.map (PC.mov c.inputs to n))), isV (.agg #[.map (some M), .int .i64 n]), isV (.pointer (some ⟨w.heap.size, 5, none⟩)), isV vv, (fun v y => OwnI y W1.heap.size v (c.invars.map (PC.mov c.inputs to n))), (fun v y => ∃ u1 u3 u4 u5, v = .agg #[.int .i64 (c.max + n), u1, .slice none 0 0, u3, u4, u5, .slice none 0 0, .slice none 0 0] ∧ OwnI y W1.heap.size u1 to ∧ OwnI y W1.heap.size u3 (c.outputs.map (PC.mov c.inputs to n)) ∧ OwnI y W1.heap.size u4 (c.bads.map (PC.mov c.inputs to n)) ∧ OwnI y W1.heap.size u5 (c.invars.map (PC.mov c.inputs to n))), (fun v y => ∃ q, v = .pointer (some ⟨q, 0, none⟩) ∧ W1.heap.size ≤ q ∧ RowL 27 y q [.int .i64 0, .slice none 0 0, .slice none 0 0, .slice none 0 0, .slice none 0 0, .slice none 0 0, .slice none 0 0, .slice none 0 0])]
                [some 66, some 67, some 68, some 69, some 70, some 71, some 72, some 73, some 74, some 75, some 76, some 77, some 78, some 79, some 80, some 81, some 82, some 83, some 84, some 13] (by kernel_rfl) (by kernel_rfl) rfl (by
                  intro g hg
                  simp only [List.mem_cons, List.mem_nil_iff, or_false] at hg
                  rcases hg with rfl | rfl | rfl | rfl | rfl | rfl | rfl | rfl | rfl | rfl | rfl | rfl | rfl | rfl | rfl | rfl | rfl | rfl | rfl | rfl <;> first
                    | exact isV_keeps _ | exact fun _ _ _ hb h => OwnI.mono h hb | exact fun _ _ _ hb ⟨u1, u3, u4, u5, e, h1, h2, h3, h4⟩ => ⟨u1, u3, u4, u5, e, h1.mono hb, h2.mono hb, h3.mono hb, h4.mono hb⟩ | exact fun _ _ _ hb ⟨q, e, h1, h2⟩ => ⟨q, e, h1, h2.mono hb⟩) ?_ ?_
              · refine ⟨fun vs y hy hd => ?_, fun vs y hy hd => ?_, fun vs y hy hd => ?_, fun vs y hy hd => ?_, fun vs y hy hd => ?_, fun vs y hy hd => ?_, fun vs y hy hd => ?_, fun vs y hy hd => ?_, fun vs y hy hd => ?_, fun vs y hy hd => ?_, fun vs y hy hd => ?_, fun vs y hy hd => ?_, fun vs y hy hd => ?_, fun vs y hy hd => ?_, fun vs y hy hd => ?_, fun vs y hy hd => ?_, fun vs y hy hd => ?_, fun vs y hy hd => ?_, fun vs y hy hd => ?_, fun vs y hy hd => ?_, trivial⟩
                · (simp only [opens]; try simp only [Nat.reduceAdd])
                  go_wp2_with fail
                  exact ⟨_, rfl, Below.refl _ _, rfl⟩
                · obtain ⟨k0, k3, k4, k5, s0, s1⟩ := Hpc.out y hy
                  have g0 : vs 0 = .pointer (some ⟨w.heap.size, 0, none⟩) := hd 0 (by decide) (by kernel_rfl)
                  (simp only [opens]; try simp only [Nat.reduceAdd])
                  rw [g0]
                  go_wp2_with fail
                  exact ⟨_, rfl, Below.refl _ _, rfl⟩
                · (simp only [opens]; try simp only [Nat.reduceAdd])
                  go_wp2_with fail
                  exact ⟨_, rfl, Below.refl _ _, rfl⟩
                · have g0 : vs 1 = .int .i64 c.max := hd 1 (by decide) (by kernel_rfl)
                  have g1 : vs 2 = .int .i64 n := hd 2 (by decide) (by kernel_rfl)
                  (simp only [opens]; try simp only [Nat.reduceAdd])
                  rw [g0, g1]
                  go_wp2_with fail
                  exact ⟨_, rfl, Below.refl _ _, rfl⟩
                · (simp only [opens]; try simp only [Nat.reduceAdd])
                  go_wp2_with fail
                  exact ⟨_, rfl, Below.refl _ _, rfl⟩
                · have g0 : vs 4 = .slice ao to.length cap := hd 4 (by decide) (by kernel_rfl)
                  have hX := Lib.hid (HCL.out y hy)
                  (simp only [opens]; try simp only [Nat.reduceAdd])
                  rw [g0]
                  go_wp2_with (go_at_call 28; refine hX.out.mono ?_; rintro e w4 ⟨u, rfl, hown, hb4⟩)
                  exact ⟨_, rfl, hb4, hown.base hy.size⟩
                · obtain ⟨k0, k3, k4, k5, s0, s1⟩ := Hpc.out y hy
                  (simp only [opens]; try simp only [Nat.reduceAdd])
                  go_wp2_with fail
                  exact ⟨_, rfl, Below.refl _ _, rfl⟩
                · (simp only [opens]; try simp only [Nat.reduceAdd])
                  go_wp2_with fail
                  exact ⟨_, rfl, Below.refl _ _, rfl⟩
                · obtain ⟨k0, k3, k4, k5, s0, s1⟩ := Hpc.out y hy
                  have g0 : vs 7 = .pointer (some ⟨w.heap.size, 3, none⟩) := hd 7 (by decide) (by kernel_rfl)
                  (simp only [opens]; try simp only [Nat.reduceAdd])
                  rw [g0]
                  go_wp2_with fail
                  exact ⟨_, rfl, Below.refl _ _, rfl⟩
                · have g0 : vs 6 = .agg #[.map (some M), .int .i64 n] := hd 6 (by decide) (by kernel_rfl)
                  have g1 : vs 8 = vo := hd 8 (by decide) (by kernel_rfl)
                  have hX := Lib.hid (HAO.out y hy)
                  (simp only [opens]; try simp only [Nat.reduceAdd])
                  rw [g0, g1]
                  go_wp2_with (go_at_call 29; refine hX.out.mono ?_; rintro e w4 ⟨u, rfl, hown, hb4⟩)
                  exact ⟨_, rfl, hb4, hown.base hy.size⟩
                · obtain ⟨k0, k3, k4, k5, s0, s1⟩ := Hpc.out y hy
                  (simp only [opens]; try simp only [Nat.reduceAdd])
                  go_wp2_with fail
                  exact ⟨_, rfl, Below.refl _ _, rfl⟩
                · (simp only [opens]; try simp only [Nat.reduceAdd])
                  go_wp2_with fail
                  exact ⟨_, rfl, Below.refl _ _, rfl⟩
                · obtain ⟨k0, k3, k4, k5, s0, s1⟩ := Hpc.out y hy
                  have g0 : vs 11 = .pointer (some ⟨w.heap.size, 4, none⟩) := hd 11 (by decide) (by kernel_rfl)
                  (simp only [opens]; try simp only [Nat.reduceAdd])
                  rw [g0]
                  go_wp2_with fail
                  exact ⟨_, rfl, Below.refl _ _, rfl⟩
                · have g0 : vs 10 = .agg #[.map (some M), .int .i64 n] := hd 10 (by decide) (by kernel_rfl)
                  have g1 : vs 12 = vb := hd 12 (by decide) (by kernel_rfl)
                  have hX := Lib.hid (HAB.out y hy)
                  (simp only [opens]; try simp only [Nat.reduceAdd])
                  rw [g0, g1]
                  go_wp2_with (go_at_call 29; refine hX.out.mono ?_; rintro e w4 ⟨u, rfl, hown, hb4⟩)
                  exact ⟨_, rfl, hb4, hown.base hy.size⟩
                · obtain ⟨k0, k3, k4, k5, s0, s1⟩ := Hpc.out y hy
                  (simp only [opens]; try simp only [Nat.reduceAdd])
                  go_wp2_with fail
                  exact ⟨_, rfl, Below.refl _ _, rfl⟩
                · (simp only [opens]; try simp only [Nat.reduceAdd])
                  go_wp2_with fail
                  exact ⟨_, rfl, Below.refl _ _, rfl⟩
                · obtain ⟨k0, k3, k4, k5, s0, s1⟩ := Hpc.out y hy
                  have g0 : vs 15 = .pointer (some ⟨w.heap.size, 5, none⟩) := hd 15 (by decide) (by kernel_rfl)
                  (simp only [opens]; try simp only [Nat.reduceAdd])
                  rw [g0]
                  go_wp2_with fail
                  exact ⟨_, rfl, Below.refl _ _, rfl⟩
                · have g0 : vs 14 = .agg #[.map (some M), .int .i64 n] := hd 14 (by decide) (by kernel_rfl)
                  have g1 : vs 16 = vv := hd 16 (by decide) (by kernel_rfl)
                  have hX := Lib.hid (HAV.out y hy)
                  (simp only [opens]; try simp only [Nat.reduceAdd])
                  rw [g0, g1]
                  go_wp2_with (go_at_call 29; refine hX.out.mono ?_; rintro e w4 ⟨u, rfl, hown, hb4⟩)
                  exact ⟨_, rfl, hb4, hown.base hy.size⟩
                · have g0 : vs 3 = .int .i64 (c.max + n) := hd 3 (by decide) (by kernel_rfl)
                  have g1 : OwnI y W1.heap.size (vs 5) to := hd 5 (by decide) (by kernel_rfl)
                  have g3 : OwnI y W1.heap.size (vs 9) (c.outputs.map (PC.mov c.inputs to n)) := hd 9 (by decide) (by kernel_rfl)
                  have g4 : OwnI y W1.heap.size (vs 13) (c.bads.map (PC.mov c.inputs to n)) := hd 13 (by decide) (by kernel_rfl)
                  have g5 : OwnI y W1.heap.size (vs 17) (c.invars.map (PC.mov c.inputs to n)) := hd 17 (by decide) (by kernel_rfl)
                  (simp only [opens]; try simp only [Nat.reduceAdd])
                  rw [g0]
                  generalize vs 5 = x1 at *
                  generalize vs 9 = x3 at *
                  generalize vs 13 = x4 at *
                  generalize vs 17 = x5 at *
                  have G := Lib.hid (And.intro g1 (And.intro g3 (And.intro g4 g5)))
                  obtain ⟨_, _, rfl⟩ := g1.slice
                  obtain ⟨_, _, rfl⟩ := g3.slice
                  obtain ⟨_, _, rfl⟩ := g4.slice
                  obtain ⟨_, _, rfl⟩ := g5.slice
                  clear g1 g3 g4 g5 hd
                  go_wp2_with fail
                  exact ⟨_, rfl, Below.refl _ _, _, _, _, _, rfl, by simpa using G.out⟩
                · simp only [opens]
                  go_wp2_with fail
                  exact ⟨_, rfl, (Below.refl _ _).alloc (Nat.le_refl _) _, _, rfl, hy.size, RowL.new y _⟩
              intro vs y hy hf
              obtain ⟨u1, u3, u4, u5, g0, o1, o3, o4, o5⟩ : ∃ u1 u3 u4 u5, vs 18 = .agg #[.int .i64 (c.max + n), u1, .slice none 0 0, u3, u4, u5, .slice none 0 0, .slice none 0 0] ∧ OwnI y W1.heap.size u1 to ∧ OwnI y W1.heap.size u3 (c.outputs.map (PC.mov c.inputs to n)) ∧ OwnI y W1.heap.size u4 (c.bads.map (PC.mov c.inputs to n)) ∧ OwnI y W1.heap.size u5 (c.invars.map (PC.mov c.inputs to n)) := hf 18 (by decide)
              obtain ⟨q, g2, hq, hrow⟩ : ∃ q, vs 19 = .pointer (some ⟨q, 0, none⟩) ∧ W1.heap.size ≤ q ∧ RowL 27 y q [.int .i64 0, .slice none 0 0, .slice none 0 0, .slice none 0 0, .slice none 0 0, .slice none 0 0, .slice none 0 0, .slice none 0 0] := hf 19 (by decide)
              (simp only [opens]; try simp only [Nat.reduceAdd])
              rw [g0, g2]
              obtain ⟨a1, c1, rfl⟩ := o1.slice
              obtain ⟨a3, c3, e3⟩ := o3.slice
              rw [List.length_map] at e3
              subst e3
              obtain ⟨a4, c4, e4⟩ := o4.slice
              rw [List.length_map] at e4
              subst e4
              obtain ⟨a5, c5, e5⟩ := o5.slice
              rw [List.length_map] at e5
              subst e5
              obtain ⟨⟨k0, k1, k2, k3, k4, k5, k6, k7, k8, k9, k10, k11, k12, k13, k14, k15⟩, hR, hG⟩ := hrow.put8 (.int .i64 (c.max + n)) (.slice a1 to.length c1) (.slice none 0 0) (.slice a3 c.outputs.length c3) (.slice a4 c.bads.length c4) (.slice a5 c.invars.length c5) (.slice none 0 0) (.slice none 0 0)
              have O1 := Lib.hid (o1.kept hG hrow (by decide))
              have O3 := Lib.hid (o3.kept hG hrow (by decide))
              have O4 := Lib.hid (o4.kept hG hrow (by decide))
              have O5 := Lib.hid (o5.kept hG hrow (by decide))
              obtain ⟨V, hV⟩ : ∃ V, V = set8 y q (.int .i64 (c.max + n)) (.slice a1 to.length c1) (.slice none 0 0) (.slice a3 c.outputs.length c3) (.slice a4 c.bads.length c4) (.slice a5 c.invars.length c5) (.slice none 0 0) (.slice none 0 0) := ⟨_, rfl⟩
              rw [← hV] at hR hG O1 O3 O4 O5
              unfold set8 at hV
              have HV := Lib.hid hV
              have hVb := Lib.hid ((Below.of HB.out hy).grown hG (Below.of HB.out hy).size fun k e => by cases e; exact Nat.le_trans HB.out.size hq)
              have hq1 := HBX1.out.lt
              have hq2 := HRZ1.out.lt
              have hq3 := HS1.out.lt
              have hq4 := HME.out.lt
              have HBXV := Lib.hid ((HBX1.out.mono hy).grown hG (fun e => by have := Option.some.inj e; omega))
              have HRZV := Lib.hid ((HRZ1.out.mono hy).grown hG (fun e => by have := Option.some.inj e; omega))
              have HSV := Lib.hid ((HS1.out.mono hy).grown hG (fun e => by have := Option.some.inj e; omega))
              have HMV := Lib.hid ((HME.out.mono hy).keep (hG.block M (Nat.lt_of_lt_of_le hq4 hy.size) (fun e => by have := Option.some.inj e; omega)))
              have HRV := Lib.hid hR
              have hnq : Hid (w.heap.size ≠ q ∧ w.heap.size + 1 ≠ q ∧ S ≠ q ∧ M ≠ q ∧ w.heap.size ≤ q) := ⟨by omega, by omega, by omega, by omega, by omega⟩
              clear hV hR hG o1 o3 o4 o5 g0 g2 hf hq hrow hq1 hq2 hq3 hq4 HAO HAB HAV HCL hall Hpc HSh HS1 HRZ1 HBX1 HME hy hgr HB e1
              have p2 := HBXV.out.cell 2 _ rfl
              rw [HV.out] at p2
              go_wp2_with fail
              rw [← HV.out]
              clear p2 k0 k1 k2 k3 k4 k5 k6 k7 k8 k9 k10 k11 k12 k13 k14 k15
              have hLopen : Hid (∀ j (hj : j < c.latches.length), ∃ b off, al = some ⟨b, off, none⟩ ∧ b < w.heap.size ∧ (rng c.latches[j].lit ∧ rng c.latches[j].next ∧ rng c.latches[j].reset) ∧ w.cell? ⟨b, off + j * 3, none⟩ = some (.int .i64 c.latches[j].lit) ∧ w.cell? ⟨b, off + j * 3 + 1, none⟩ = some (.int .i64 c.latches[j].next) ∧ w.cell? ⟨b, off + j * 3 + 2, none⟩ = some (.int .i64 c.latches[j].reset)) := by
                obtain ⟨_, _, e, _, _, h⟩ := HP.out.latches.open_
                cases e
                exact h
              have HLA := hLopen
              clear hLopen
              go_loopg [88] c.latches.length (fun gg s88 wr => ∃ (k : Nat) (u : Value), k ≤ c.latches.length ∧ c.latches.length - k ≤ gg ∧ s88 = .int .i64 k ∧ Hid (V.grownBy wr (some q)) ∧ Hid (RowL 27 wr q [.int .i64 (c.max + n), .slice a1 to.length c1, u, .slice a3 c.outputs.length c3, .slice a4 c.bads.length c4, .slice a5 c.invars.length c5, .slice none 0 0, .slice none 0 0]) ∧ Hid (wr.ownsRow V.heap.size 38 3 u k (((c.latches.take k).map (PC.movLat c.inputs to n)).flatMap latCells)))
              case atStart => exact ⟨0, .slice none 0 0, Nat.zero_le _, by omega, rfl, World.grownBy.refl _ _, HRV.out, World.ownsRow_nil _ _ _ _⟩
              case round =>
                obtain ⟨k, u, hk, hg, rfl, hgr, hrow, hown⟩ := hrel
                have HB := Lib.hid (below_grown hVb.out hgr.out hVb.out.size hnq.out.2.2.2.2)
                by_cases hlt : k < c.latches.length
                · have hmea : ∀ g : Nat, c.latches.length - k ≤ g → c.latches.length - (k + 1) < g := fun g h => by omega
                  obtain ⟨b, off, rfl, hbs, _, z0, z1, z2⟩ := HLA.out k hlt
                  have z0 := (HB.out.cell hbs).trans z0
                  have z1 := (HB.out.cell hbs).trans z1
                  have z2 := (HB.out.cell hbs).trans z2
                  have htk : Hid ((((c.latches.take (k + 1)).map (PC.movLat c.inputs to n)).flatMap latCells) = (((c.latches.take k).map (PC.movLat c.inputs to n)).flatMap latCells) ++ latCells (PC.movLat c.inputs to n c.latches[k])) := by
                    show _ = _
                    rw [List.take_succ_eq_append_getElem hlt, List.map_append, List.flatMap_append]; simp
                  have hxr : Hid ((0 ≤ c.latches[k].lit ∧ c.latches[k].lit ≤ 1000000) ∧ 0 ≤ c.latches[k].next ∧ c.latches[k].next ≤ 1000000) := by
                    have h1 := HRT.out.defs _ (PC.mem_defs_lat c _ (List.getElem_mem hlt))
                    have h2 := PC.known_range c HRT.out _ (HRT.out.latNext _ (List.getElem_mem hlt))
                    exact ⟨⟨by omega, by omega⟩, by omega, by omega⟩
                  generalize c.latches[k] = x at *
                  obtain ⟨xl, xn, xr⟩ := x
                  simp only at z0 z1 z2 hxr htk
                  obtain ⟨au, cu, rfl⟩ := owned_slice hown.out
                  have hltz : (k : Int) < (c.latches.length : Int) := by omega
                  have hC : ∃ D : World → Prop, D = fun y => V.grownBy y (some q) ∧ RowL 27 y q [.int .i64 (c.max + n), .slice a1 to.length c1, .slice au k cu, .slice a3 c.outputs.length c3, .slice a4 c.bads.length c4, .slice a5 c.invars.length c5, .slice none 0 0, .slice none 0 0] ∧ RowL 38 y wr.heap.size [.int .i64 xl, .int .i64 xn, .int .i64 xr] ∧ wr.heap.size < y.heap.size := ⟨_, rfl⟩
                  obtain ⟨D, hC⟩ := hC
                  have HC := Lib.hid hC
                  obtain ⟨X, hX⟩ : ∃ X, X = wr.alloc (.cells #[.int .i64 xl, .int .i64 xn, .int .i64 xr] 38) := ⟨_, rfl⟩
                  have hbX : Below wr.heap.size wr X := by rw [hX]; exact (Below.refl _ _).alloc (Nat.le_refl _) _
                  have hCX : Hid (D X) := by
                    show D X
                    rw [hC]
                    exact ⟨grownBy_below hgr.out hbX, hrow.out.mono hbX, by rw [hX]; exact RowL.new wr _, by rw [hX]; simp⟩
                  have hownX := Lib.hid (owns_below hown.out hbX)
                  have hsX : Hid (X.heap.size = wr.heap.size + 1) := by show _ = _; rw [hX]; simp
                  have HX := Lib.hid hX
                  clear hX hC hbX
                  have Hpc : Hid (∀ y, D y → y.cell? ⟨q, 2, none⟩ = some (.slice au k cu) ∧ y.cell? ⟨S, 0, none⟩ = some (.map (some M)) ∧ y.cell? ⟨S, 1, none⟩ = some (.int .i64 n) ∧ y.cell? ⟨wr.heap.size, 0, none⟩ = some (.int .i64 xl) ∧ y.cell? ⟨wr.heap.size, 1, none⟩ = some (.int .i64 xn) ∧ y.cell? ⟨wr.heap.size, 2, none⟩ = some (.int .i64 xr)) := fun y hy => by
                    rw [HC.out] at hy
                    obtain ⟨h1, h2, h3, _⟩ := hy
                    have h4 := HSV.out.grown h1 (fun e => hnq.out.2.2.1 (Option.some.inj e))
                    exact ⟨h2.cell 2 _ rfl, h4.cell 0 _ rfl, h4.cell 1 _ rfl, h3.cell 0 _ rfl, h3.cell 1 _ rfl, h3.cell 2 _ rfl⟩
                  have HSh : Hid (∀ y, D y → Shf y (.agg #[.map (some M), .int .i64 n]) c.inputs to n) := fun y hy => by
                    rw [HC.out] at hy
                    exact ⟨M, rfl, HMV.out.keep (hy.1.block M HMV.out.lt (fun e => hnq.out.2.2.2.1 (Option.some.inj e)))⟩
                  have HL_xl : Hid (∀ y, D y → _) := fun y hy => mLit_any c.inputs to n xl _ y (HSh.out y hy) HTo.out hxr.out.1.1 hxr.out.1.2 HN.out.1 HN.out.2
                  have HL_xn : Hid (∀ y, D y → _) := fun y hy => mLit_any c.inputs to n xn _ y (HSh.out y hy) HTo.out hxr.out.2.1 hxr.out.2.2 HN.out.1 HN.out.2
                  have HL_xr : Hid (∀ y, D y → _) := fun y hy => mReset_any c.inputs to n ⟨xl, xn, xr⟩ _ y (HSh.out y hy) HTo.out hxr.out.1.1 hxr.out.1.2 HN.out.1 HN.out.2
                  have hne : Hid (some wr.heap.size ≠ (Value.slice au k cu).ownBlock) := fun e => by have := (hown.out.lt _ e.symm).2; omega
                  have hnq2 : Hid (some q ≠ (Value.slice au k cu).ownBlock) := hrow.out.other hown.out (by decide)
                  have hkr := (show k ≤ 1000000 from by have := HRT.out.lats; omega)
                  have hk1 : Hid (k + 1 ≤ c.latches.length) := hlt
                  clear hk hlt hrow hgr hown
                  go_wp2_with fail
                  rw [← HX.out]
                  clear z0 z1 z2 hltz
                  refine wp_region_write 17 15 [isV (.pointer (some ⟨q, 2, none⟩)), isV (.slice au k cu), isV (.agg #[.map (some M), .int .i64 n]), isV (.pointer (some ⟨wr.heap.size, 0, none⟩)), isV (.int .i64 xl), isV (.int .i64 (PC.mov c.inputs to n xl)), isV (.agg #[.map (some M), .int .i64 n]), isV (.pointer (some ⟨wr.heap.size, 1, none⟩)), isV (.int .i64 xn), isV (.int .i64 (PC.mov c.inputs to n xn)), isV (.agg #[.map (some M), .int .i64 n]), isV (.agg #[.int .i64 xl, .int .i64 xn, .int .i64 xr]), isV (.int .i64 (PC.movReset c.inputs to n ⟨xl, xn, xr⟩)), isV (.agg #[.int .i64 (PC.mov c.inputs to n xl), .int .i64 (PC.mov c.inputs to n xn), .int .i64 (PC.movReset c.inputs to n ⟨xl, xn, xr⟩)]), (fun v y => ∃ g, v = .slice (some ⟨g, 0, none⟩) 1 1 ∧ X.heap.size ≤ g ∧ y.heap[g]? = some (.cells #[.int .i64 (PC.mov c.inputs to n xl), .int .i64 (PC.mov c.inputs to n xn), .int .i64 (PC.movReset c.inputs to n ⟨xl, xn, xr⟩)] 38 (0, 0))), (fun v y => y.ownsRow V.heap.size 38 3 v (k + 1) ((((c.latches.take k).map (PC.movLat c.inputs to n)).flatMap latCells) ++ [.int .i64 (PC.mov c.inputs to n xl), .int .i64 (PC.mov c.inputs to n xn), .int .i64 (PC.movReset c.inputs to n ⟨xl, xn, xr⟩)])), isV (.pointer (some ⟨q, 2, none⟩))]
                    (fun b y => D y ∧ (b = false → y.ownsRow V.heap.size 38 3 (.slice au k cu) k (((c.latches.take k).map (PC.movLat c.inputs to n)).flatMap latCells))) [some 92, some 93, some 94, some 95, some 96, some 97, some 98, some 99, some 100, some 101, some 102, some 103, some 104, some 105, some 106, some 107, some 108] (by decide) (by kernel_rfl) (by kernel_rfl) rfl (by
                      intro g hg
                      simp only [List.mem_cons, List.mem_nil_iff, or_false] at hg
                      rcases hg with rfl | rfl | rfl | rfl | rfl | rfl | rfl | rfl | rfl | rfl | rfl | rfl | rfl | rfl | rfl | rfl | rfl <;> first
                        | exact isV_keeps _ | exact fun _ _ _ hb h => owns_below h hb | exact fun _ _ _ hb ⟨g, e, h1, h2⟩ => ⟨g, e, h1, (hb.block g (Array.getElem?_eq_some_iff.1 h2).1).trans h2⟩)
                    (by have := hCX.out; rw [HC.out] at this ⊢; exact ⟨⟨grownBy_drew this.1, this.2.1, this.2.2.1, this.2.2.2⟩, fun _ => hownX.out⟩)
                    (fun b y y' hb ⟨hy, ho⟩ => ⟨by rw [HC.out] at hy ⊢; exact ⟨grownBy_below hy.1 hb, hy.2.1.mono hb, hy.2.2.1.mono hb, Nat.lt_of_lt_of_le hy.2.2.2 hb.size⟩, fun e => owns_below (ho e) hb⟩) ?_ ?_
                  · refine ⟨fun b vs y hb hy hd => ?_, fun b vs y hb hy hd => ?_, fun b vs y hb hy hd => ?_, fun b vs y hb hy hd => ?_, fun b vs y hb hy hd => ?_, fun b vs y hb hy hd => ?_, fun b vs y hb hy hd => ?_, fun b vs y hb hy hd => ?_, fun b vs y hb hy hd => ?_, fun b vs y hb hy hd => ?_, fun b vs y hb hy hd => ?_, fun b vs y hb hy hd => ?_, fun b vs y hb hy hd => ?_, fun b vs y hb hy hd => ?_, fun b vs y hb hy hd => ?_, fun b vs y hb hy hd => ?_, fun b vs y hb hy hd => ?_, trivial⟩
                    · (simp only [opens]; try simp only [Nat.reduceAdd])
                      go_wp2_with fail
                      exact ⟨_, rfl, rfl, Below.refl _ _⟩
                    · obtain ⟨k0, s0, s1, x0, x1, x2⟩ := Hpc.out y hy.1
                      have g0 : vs 0 = .pointer (some ⟨q, 2, none⟩) := hd 0 (by decide) (by kernel_rfl)
                      (simp only [opens]; try simp only [Nat.reduceAdd])
                      rw [g0]
                      go_wp2_with fail
                      exact ⟨_, rfl, rfl, Below.refl _ _⟩
                    · obtain ⟨k0, s0, s1, x0, x1, x2⟩ := Hpc.out y hy.1
                      (simp only [opens]; try simp only [Nat.reduceAdd])
                      go_wp2_with fail
                      exact ⟨_, rfl, rfl, Below.refl _ _⟩
                    · (simp only [opens]; try simp only [Nat.reduceAdd])
                      go_wp2_with fail
                      exact ⟨_, rfl, rfl, Below.refl _ _⟩
                    · obtain ⟨k0, s0, s1, x0, x1, x2⟩ := Hpc.out y hy.1
                      have g0 : vs 3 = .pointer (some ⟨wr.heap.size, 0, none⟩) := hd 3 (by decide) (by kernel_rfl)
                      (simp only [opens]; try simp only [Nat.reduceAdd])
                      rw [g0]
                      go_wp2_with fail
                      exact ⟨_, rfl, rfl, Below.refl _ _⟩
                    · have g0 : vs 2 = .agg #[.map (some M), .int .i64 n] := hd 2 (by decide) (by kernel_rfl)
                      have g1 : vs 4 = .int .i64 xl := hd 4 (by decide) (by kernel_rfl)
                      have hZ := Lib.hid (HL_xl.out y hy.1)
                      (simp only [opens]; try simp only [Nat.reduceAdd])
                      rw [g0, g1]
                      go_wp2_with (go_at_call 30; refine hZ.out.mono ?_; rintro e w4 ⟨rfl, hb4⟩)
                      exact ⟨_, rfl, rfl, hb4⟩
                    · obtain ⟨k0, s0, s1, x0, x1, x2⟩ := Hpc.out y hy.1
                      (simp only [opens]; try simp only [Nat.reduceAdd])
                      go_wp2_with fail
                      exact ⟨_, rfl, rfl, Below.refl _ _⟩
                    · (simp only [opens]; try simp only [Nat.reduceAdd])
                      go_wp2_with fail
                      exact ⟨_, rfl, rfl, Below.refl _ _⟩
                    · obtain ⟨k0, s0, s1, x0, x1, x2⟩ := Hpc.out y hy.1
                      have g0 : vs 7 = .pointer (some ⟨wr.heap.size, 1, none⟩) := hd 7 (by decide) (by kernel_rfl)
                      (simp only [opens]; try simp only [Nat.reduceAdd])
                      rw [g0]
                      go_wp2_with fail
                      exact ⟨_, rfl, rfl, Below.refl _ _⟩
                    · have g0 : vs 6 = .agg #[.map (some M), .int .i64 n] := hd 6 (by decide) (by kernel_rfl)
                      have g1 : vs 8 = .int .i64 xn := hd 8 (by decide) (by kernel_rfl)
                      have hZ := Lib.hid (HL_xn.out y hy.1)
                      (simp only [opens]; try simp only [Nat.reduceAdd])
                      rw [g0, g1]
                      go_wp2_with (go_at_call 30; refine hZ.out.mono ?_; rintro e w4 ⟨rfl, hb4⟩)
                      exact ⟨_, rfl, rfl, hb4⟩
                    · obtain ⟨k0, s0, s1, x0, x1, x2⟩ := Hpc.out y hy.1
                      (simp only [opens]; try simp only [Nat.reduceAdd])
                      go_wp2_with fail
                      exact ⟨_, rfl, rfl, Below.refl _ _⟩
                    · obtain ⟨k0, s0, s1, x0, x1, x2⟩ := Hpc.out y hy.1
                      (simp only [opens]; try simp only [Nat.reduceAdd])
                      go_wp2_with fail
                      exact ⟨_, rfl, rfl, Below.refl _ _⟩
                    · have g0 : vs 10 = .agg #[.map (some M), .int .i64 n] := hd 10 (by decide) (by kernel_rfl)
                      have g1 : vs 11 = .agg #[.int .i64 xl, .int .i64 xn, .int .i64 xr] := hd 11 (by decide) (by kernel_rfl)
                      have hZ := Lib.hid (HL_xr.out y hy.1)
                      (simp only [opens]; try simp only [Nat.reduceAdd])
                      rw [g0, g1]
                      go_wp2_with (go_at_call 31; refine hZ.out.mono ?_; rintro e w4 ⟨rfl, hb4⟩)
                      exact ⟨_, rfl, rfl, hb4⟩
                    · have g0 : vs 5 = .int .i64 (PC.mov c.inputs to n xl) := hd 5 (by decide) (by kernel_rfl)
                      have g1 : vs 9 = .int .i64 (PC.mov c.inputs to n xn) := hd 9 (by decide) (by kernel_rfl)
                      have g2 : vs 12 = .int .i64 (PC.movReset c.inputs to n ⟨xl, xn, xr⟩) := hd 12 (by decide) (by kernel_rfl)
                      (simp only [opens]; try simp only [Nat.reduceAdd])
                      rw [g0, g1, g2]
                      go_wp2_with fail
                      exact ⟨_, rfl, rfl, Below.refl _ _⟩
                    · have g0 : vs 13 = .agg #[.int .i64 (PC.mov c.inputs to n xl), .int .i64 (PC.mov c.inputs to n xn), .int .i64 (PC.movReset c.inputs to n ⟨xl, xn, xr⟩)] := hd 13 (by decide) (by kernel_rfl)
                      have hsy : X.heap.size ≤ y.heap.size := by have := hsX.out; have hy := hy.1; rw [HC.out] at hy; have := hy.2.2.2; omega
                      (simp only [opens]; try simp only [Nat.reduceAdd])
                      rw [g0]
                      go_wp2_with fail
                      exact ⟨_, rfl, ⟨_, rfl, hsy, heap_alloc_new y _⟩, (Below.refl _ _).alloc (Nat.le_refl _) _⟩
                    · have g0 : vs 1 = .slice au k cu := hd 1 (by decide) (by kernel_rfl)
                      obtain ⟨g, g2, g3, g4⟩ : ∃ g, vs 14 = .slice (some ⟨g, 0, none⟩) 1 1 ∧ X.heap.size ≤ g ∧ y.heap[g]? = some (.cells #[.int .i64 (PC.mov c.inputs to n xl), .int .i64 (PC.mov c.inputs to n xn), .int .i64 (PC.movReset c.inputs to n ⟨xl, xn, xr⟩)] 38 (0, 0)) := hd 14 (by decide) (by kernel_rfl)
                      have hcl := Lib.hid (cells_of_row3 g4)
                      have hO := Lib.hid (hy.2 (hb rfl))
                      have hCy := Lib.hid hy.1
                      clear hy
                      (simp only [opens]; try simp only [Nat.reduceAdd])
                      rw [g0, g2]
                      refine app_cells rfl _ _ 23 rfl 38 3 24 (.agg #[.int .i64 0, .int .i64 0, .int .i64 0]) Tryz.underlying23 infoLat rfl (by decide) (w0 := y) (B0 := V.heap.size) rfl hO.out (Below.refl _ _) (Nat.le_refl _) (by have h := hCy.out; rw [HC.out] at h; exact h.1.size) rfl hcl.out (by intro u hu; simp only [List.mem_cons, List.mem_nil_iff, or_false] at hu; rcases hu with rfl | rfl | rfl <;> rfl) (by omega) (by omega) ?_
                      intro v3 w3 hown3 _ _ hgr3
                      refine ⟨_, rfl, hown3, ⟨?_, fun e => by cases e⟩, ?_⟩
                      · have h := hCy.out
                        rw [HC.out] at h ⊢
                        exact ⟨grownBy_two h.1 hgr3 fun j e => Or.inl (hO.out.lt j e).1, h.2.1.grown hgr3 hnq2.out, h.2.2.1.grown hgr3 hne.out, Nat.lt_of_lt_of_le h.2.2.2 hgr3.size⟩
                      · intro j hj hj1 hf
                        obtain rfl | rfl | rfl | rfl | rfl | rfl | rfl | rfl | rfl | rfl | rfl | rfl | rfl | rfl | rfl | rfl := (by omega : j = 0 ∨ j = 1 ∨ j = 2 ∨ j = 3 ∨ j = 4 ∨ j = 5 ∨ j = 6 ∨ j = 7 ∨ j = 8 ∨ j = 9 ∨ j = 10 ∨ j = 11 ∨ j = 12 ∨ j = 13 ∨ j = 14 ∨ j = 16)
                        all_goals first | exact hf | skip
                        obtain ⟨g', e1, e2, e3⟩ := hf
                        refine ⟨g', e1, e2, (hgr3.block g' (Array.getElem?_eq_some_iff.1 e3).1 fun e => ?_).trans e3⟩
                        have := (hownX.out.lt g' e.symm).2
                        omega
                    · (simp only [opens]; try simp only [Nat.reduceAdd])
                      go_wp2_with fail
                      exact ⟨_, rfl, rfl, Below.refl _ _⟩
                  intro vs y hy hf
                  have g0 : vs 16 = .pointer (some ⟨q, 2, none⟩) := hf 16 (by decide)
                  have g1 : y.ownsRow V.heap.size 38 3 (vs 15) (k + 1) ((((c.latches.take k).map (PC.movLat c.inputs to n)).flatMap latCells) ++ [.int .i64 (PC.mov c.inputs to n xl), .int .i64 (PC.mov c.inputs to n xn), .int .i64 (PC.movReset c.inputs to n ⟨xl, xn, xr⟩)]) := hf 15 (by decide)
                  have hy := hy.1
                  rw [HC.out] at hy
                  have g2 : y.ownsRow V.heap.size 38 3 (vs 15) (k + 1) (((c.latches.take (k + 1)).map (PC.movLat c.inputs to n)).flatMap latCells) := by rw [htk.out]; exact g1
                  (simp only [opens]; try simp only [Nat.reduceAdd])
                  rw [g0]
                  generalize vs 15 = u9 at *
                  clear g1 hf
                  have G2 := Lib.hid g2
                  obtain ⟨a9, c9, rfl⟩ := owned_slice g2
                  have hcq := hy.2.1.cell 2 _ rfl
                  have hfq := hy.2.1.frozen 2
                  have hR9 := Lib.hid (hy.2.1.set 2 (.slice a9 (k + 1) c9))
                  have hG9 := set_grown' y q 2 (.slice a9 (k + 1) c9)
                  have hO9 := Lib.hid (G2.out.kept hG9 (Or.inr fun e => hy.2.1.other G2.out (by decide) e.symm))
                  have hG9 := Lib.hid (grownBy_two hy.1 hG9 fun j e => Or.inr (Option.some.inj e).symm)
                  clear hy g2 G2
                  go_wp2_with fail
                  go_roundg (c.latches.length - (k + 1))
                  case measure => exact hmea _ hg
                  case rel => exact ⟨k + 1, _, hk1.out, Nat.le_refl _, by go_num, hG9.out, hR9.out, hO9.out⟩
                · have hltz : ¬ (k : Int) < (c.latches.length : Int) := by omega
                  obtain rfl : k = c.latches.length := by omega
                  have hown := hown.out
                  rw [List.take_length] at hown
                  obtain ⟨Y, hY⟩ : ∃ Y, Y = wr := ⟨_, rfl⟩
                  subst hY
                  obtain ⟨a2, c2, rfl⟩ := owned_slice hown
                  have HRY := hrow
                  have hYb := HB
                  have HBXY := Lib.hid (HBXV.out.grown hgr.out fun e => hnq.out.1 (Option.some.inj e))
                  have HRZY := Lib.hid (HRZV.out.grown hgr.out fun e => hnq.out.2.1 (Option.some.inj e))
                  have HSY := Lib.hid (HSV.out.grown hgr.out fun e => hnq.out.2.2.1 (Option.some.inj e))
                  have HMY := Lib.hid (HMV.out.keep (hgr.out.block M HMV.out.lt (fun e => hnq.out.2.2.2.1 (Option.some.inj e))))
                  have O1Y := Lib.hid (O1.out.kept hgr.out HRV.out (by decide))
                  have O3Y := Lib.hid (O3.out.kept hgr.out HRV.out (by decide))
                  have O4Y := Lib.hid (O4.out.kept hgr.out HRV.out (by decide))
                  have O5Y := Lib.hid (O5.out.kept hgr.out HRV.out (by decide))
                  have HLY := Lib.hid hown
                  have hGopen : Hid (∀ j (hj : j < c.ands.length), ∃ b off, aa = some ⟨b, off, none⟩ ∧ b < w.heap.size ∧ (rng c.ands[j].lit ∧ rng c.ands[j].left ∧ rng c.ands[j].right) ∧ w.cell? ⟨b, off + j * 3, none⟩ = some (.int .i64 c.ands[j].lit) ∧ w.cell? ⟨b, off + j * 3 + 1, none⟩ = some (.int .i64 c.ands[j].left) ∧ w.cell? ⟨b, off + j * 3 + 2, none⟩ = some (.int .i64 c.ands[j].right)) := by
                    obtain ⟨_, _, e, _, _, h⟩ := HP.out.ands.open_
                    cases e
                    exact h
                  have HGA := hGopen
                  have p6 := HBXY.out.cell 6 _ rfl
                  clear hGopen hown hk hg hlt hgr hrow HB HBXV HRZV HSV HMV O1 O3 O4 O5 HLA HRV HV hVb HBXY
                  go_wp2_with fail
                  clear p6
                  go_loopg [113] c.ands.length (fun gg s113 wr => ∃ (k : Nat) (u : Value), k ≤ c.ands.length ∧ c.ands.length - k ≤ gg ∧ s113 = .int .i64 k ∧ Hid (Y.grownBy wr (some q)) ∧ Hid (RowL 27 wr q [.int .i64 (c.max + n), .slice a1 to.length c1, .slice a2 c.latches.length c2, .slice a3 c.outputs.length c3, .slice a4 c.bads.length c4, .slice a5 c.invars.length c5, u, .slice none 0 0]) ∧ Hid (wr.ownsRow Y.heap.size 35 3 u k (((c.ands.take k).map (PC.movGat c.inputs to n)).flatMap gatCells)))
                  case atStart => exact ⟨0, .slice none 0 0, Nat.zero_le _, by omega, rfl, World.grownBy.refl _ _, HRY.out, World.ownsRow_nil _ _ _ _⟩
                  case round =>
                    obtain ⟨k, u, hk, hg, rfl, hgr, hrow, hown⟩ := hrel
                    have HB := Lib.hid (below_grown hYb.out hgr.out hYb.out.size hnq.out.2.2.2.2)
                    by_cases hlt : k < c.ands.length
                    · have hmea : ∀ g : Nat, c.ands.length - k ≤ g → c.ands.length - (k + 1) < g := fun g h => by omega
                      obtain ⟨b, off, rfl, hbs, _, z0, z1, z2⟩ := HGA.out k hlt
                      have z0 := (HB.out.cell hbs).trans z0
                      have z1 := (HB.out.cell hbs).trans z1
                      have z2 := (HB.out.cell hbs).trans z2
                      have htk : Hid ((((c.ands.take (k + 1)).map (PC.movGat c.inputs to n)).flatMap gatCells) = (((c.ands.take k).map (PC.movGat c.inputs to n)).flatMap gatCells) ++ gatCells (PC.movGat c.inputs to n c.ands[k])) := by
                        show _ = _
                        rw [List.take_succ_eq_append_getElem hlt, List.map_append, List.flatMap_append]; simp
                      have hxr : Hid ((0 ≤ c.ands[k].lit ∧ c.ands[k].lit ≤ 1000000) ∧ (0 ≤ c.ands[k].left ∧ c.ands[k].left ≤ 1000000) ∧ 0 ≤ c.ands[k].right ∧ c.ands[k].right ≤ 1000000) := by
                        have h1 := HRT.out.defs _ (PC.mem_defs_gat c _ (List.getElem_mem hlt))
                        obtain ⟨_, _, h3, h4⟩ := HRT.out.gats _ (List.getElem_mem hlt)
                        have h3 := PC.known_range c HRT.out _ h3
                        have h4 := PC.known_range c HRT.out _ h4
                        exact ⟨⟨by omega, by omega⟩, ⟨by omega, by omega⟩, by omega, by omega⟩
                      generalize c.ands[k] = x at *
                      obtain ⟨xl, xn, xr⟩ := x
                      simp only at z0 z1 z2 hxr htk
                      obtain ⟨au, cu, rfl⟩ := owned_slice hown.out
                      have hltz : (k : Int) < (c.ands.length : Int) := by omega
                      have hC : ∃ D : World → Prop, D = fun y => Y.grownBy y (some q) ∧ RowL 27 y q [.int .i64 (c.max + n), .slice a1 to.length c1, .slice a2 c.latches.length c2, .slice a3 c.outputs.length c3, .slice a4 c.bads.length c4, .slice a5 c.invars.length c5, .slice au k cu, .slice none 0 0] ∧ RowL 35 y wr.heap.size [.int .i64 xl, .int .i64 xn, .int .i64 xr] ∧ wr.heap.size < y.heap.size := ⟨_, rfl⟩
                      obtain ⟨D, hC⟩ := hC
                      have HC := Lib.hid hC
                      obtain ⟨X, hX⟩ : ∃ X, X = wr.alloc (.cells #[.int .i64 xl, .int .i64 xn, .int .i64 xr] 35) := ⟨_, rfl⟩
                      have hbX : Below wr.heap.size wr X := by rw [hX]; exact (Below.refl _ _).alloc (Nat.le_refl _) _
                      have hCX : Hid (D X) := by
                        show D X
                        rw [hC]
                        exact ⟨grownBy_below hgr.out hbX, hrow.out.mono hbX, by rw [hX]; exact RowL.new wr _, by rw [hX]; simp⟩
                      have hownX := Lib.hid (owns_below hown.out hbX)
                      have hsX : Hid (X.heap.size = wr.heap.size + 1) := by show _ = _; rw [hX]; simp
                      have HX := Lib.hid hX
                      clear hX hC hbX
                      have Hpc : Hid (∀ y, D y → y.cell? ⟨q, 6, none⟩ = some (.slice au k cu) ∧ y.cell? ⟨S, 0, none⟩ = some (.map (some M)) ∧ y.cell? ⟨S, 1, none⟩ = some (.int .i64 n) ∧ y.cell? ⟨wr.heap.size, 0, none⟩ = some (.int .i64 xl) ∧ y.cell? ⟨wr.heap.size, 1, none⟩ = some (.int .i64 xn) ∧ y.cell? ⟨wr.heap.size, 2, none⟩ = some (.int .i64 xr)) := fun y hy => by
                        rw [HC.out] at hy
                        obtain ⟨h1, h2, h3, _⟩ := hy
                        have h4 := HSY.out.grown h1 (fun e => hnq.out.2.2.1 (Option.some.inj e))
                        exact ⟨h2.cell 6 _ rfl, h4.cell 0 _ rfl, h4.cell 1 _ rfl, h3.cell 0 _ rfl, h3.cell 1 _ rfl, h3.cell 2 _ rfl⟩
                      have HSh : Hid (∀ y, D y → Shf y (.agg #[.map (some M), .int .i64 n]) c.inputs to n) := fun y hy => by
                        rw [HC.out] at hy
                        exact ⟨M, rfl, HMY.out.keep (hy.1.block M HMY.out.lt (fun e => hnq.out.2.2.2.1 (Option.some.inj e)))⟩
                      have HL_xl : Hid (∀ y, D y → _) := fun y hy => mLit_any c.inputs to n xl _ y (HSh.out y hy) HTo.out hxr.out.1.1 hxr.out.1.2 HN.out.1 HN.out.2
                      have HL_xn : Hid (∀ y, D y → _) := fun y hy => mLit_any c.inputs to n xn _ y (HSh.out y hy) HTo.out hxr.out.2.1.1 hxr.out.2.1.2 HN.out.1 HN.out.2
                      have HL_xr : Hid (∀ y, D y → _) := fun y hy => mLit_any c.inputs to n xr _ y (HSh.out y hy) HTo.out hxr.out.2.2.1 hxr.out.2.2.2 HN.out.1 HN.out.2
                      have hne : Hid (some wr.heap.size ≠ (Value.slice au k cu).ownBlock) := fun e => by have := (hown.out.lt _ e.symm).2; omega
                      have hnq2 : Hid (some q ≠ (Value.slice au k cu).ownBlock) := hrow.out.other hown.out (by decide)
                      have hkr := (show k ≤ 1000000 from by have := PC.ands_len c HRT.out; omega)
                      have hk1 : Hid (k + 1 ≤ c.ands.length) := hlt
                      clear hk hlt hrow hgr hown
                      go_wp2_with fail
                      rw [← HX.out]
                      clear z0 z1 z2 hltz
                      refine wp_region_write 18 16 [isV (.pointer (some ⟨q, 6, none⟩)), isV (.slice au k cu), isV (.agg #[.map (some M), .int .i64 n]), isV (.pointer (some ⟨wr.heap.size, 0, none⟩)), isV (.int .i64 xl), isV (.int .i64 (PC.mov c.inputs to n xl)), isV (.agg #[.map (some M), .int .i64 n]), isV (.pointer (some ⟨wr.heap.size, 1, none⟩)), isV (.int .i64 xn), isV (.int .i64 (PC.mov c.inputs to n xn)), isV (.agg #[.map (some M), .int .i64 n]), isV (.pointer (some ⟨wr.heap.size, 2, none⟩)), isV (.int .i64 xr), isV (.int .i64 (PC.mov c.inputs to n xr)), isV (.agg #[.int .i64 (PC.mov c.inputs to n xl), .int .i64 (PC.mov c.inputs to n xn), .int .i64 (PC.mov c.inputs to n xr)]), (fun v y => ∃ g, v = .slice (some ⟨g, 0, none⟩) 1 1 ∧ X.heap.size ≤ g ∧ y.heap[g]? = some (.cells #[.int .i64 (PC.mov c.inputs to n xl), .int .i64 (PC.mov c.inputs to n xn), .int .i64 (PC.mov c.inputs to n xr)] 35 (0, 0))), (fun v y => y.ownsRow Y.heap.size 35 3 v (k + 1) ((((c.ands.take k).map (PC.movGat c.inputs to n)).flatMap gatCells) ++ [.int .i64 (PC.mov c.inputs to n xl), .int .i64 (PC.mov c.inputs to n xn), .int .i64 (PC.mov c.inputs to n xr)])), isV (.pointer (some ⟨q, 6, none⟩))]
                        (fun b y => D y ∧ (b = false → y.ownsRow Y.heap.size 35 3 (.slice au k cu) k (((c.ands.take k).map (PC.movGat c.inputs to n)).flatMap gatCells))) [some 117, some 118, some 119, some 120, some 121, some 122, some 123, some 124, some 125, some 126, some 127, some 128, some 129, some 130, some 131, some 132, some 133, some 134] (by decide) (by kernel_rfl) (by kernel_rfl) rfl (by
                          intro g hg
                          simp only [List.mem_cons, List.mem_nil_iff, or_false] at hg
                          rcases hg with rfl | rfl | rfl | rfl | rfl | rfl | rfl | rfl | rfl | rfl | rfl | rfl | rfl | rfl | rfl | rfl | rfl | rfl <;> first
                            | exact isV_keeps _ | exact fun _ _ _ hb h => owns_below h hb | exact fun _ _ _ hb ⟨g, e, h1, h2⟩ => ⟨g, e, h1, (hb.block g (Array.getElem?_eq_some_iff.1 h2).1).trans h2⟩)
                        (by have := hCX.out; rw [HC.out] at this ⊢; exact ⟨⟨grownBy_drew this.1, this.2.1, this.2.2.1, this.2.2.2⟩, fun _ => hownX.out⟩)
                        (fun b y y' hb ⟨hy, ho⟩ => ⟨by rw [HC.out] at hy ⊢; exact ⟨grownBy_below hy.1 hb, hy.2.1.mono hb, hy.2.2.1.mono hb, Nat.lt_of_lt_of_le hy.2.2.2 hb.size⟩, fun e => owns_below (ho e) hb⟩) ?_ ?_
                      · refine ⟨fun b vs y hb hy hd => ?_, fun b vs y hb hy hd => ?_, fun b vs y hb hy hd => ?_, fun b vs y hb hy hd => ?_, fun b vs y hb hy hd => ?_, fun b vs y hb hy hd => ?_, fun b vs y hb hy hd => ?_, fun b vs y hb hy hd => ?_, fun b vs y hb hy hd => ?_, fun b vs y hb hy hd => ?_, fun b vs y hb hy hd => ?_, fun b vs y hb hy hd => ?_, fun b vs y hb hy hd => ?_, fun b vs y hb hy hd => ?_, fun b vs y hb hy hd => ?_, fun b vs y hb hy hd => ?_, fun b vs y hb hy hd => ?_, fun b vs y hb hy hd => ?_, trivial⟩
                        · (simp only [opens]; try simp only [Nat.reduceAdd])
                          go_wp2_with fail
                          exact ⟨_, rfl, rfl, Below.refl _ _⟩
                        · obtain ⟨k0, s0, s1, x0, x1, x2⟩ := Hpc.out y hy.1
                          have g0 : vs 0 = .pointer (some ⟨q, 6, none⟩) := hd 0 (by decide) (by kernel_rfl)
                          (simp only [opens]; try simp only [Nat.reduceAdd])
                          rw [g0]
                          go_wp2_with fail
                          exact ⟨_, rfl, rfl, Below.refl _ _⟩
                        · obtain ⟨k0, s0, s1, x0, x1, x2⟩ := Hpc.out y hy.1
                          (simp only [opens]; try simp only [Nat.reduceAdd])
                          go_wp2_with fail
                          exact ⟨_, rfl, rfl, Below.refl _ _⟩
                        · (simp only [opens]; try simp only [Nat.reduceAdd])
                          go_wp2_with fail
                          exact ⟨_, rfl, rfl, Below.refl _ _⟩
                        · obtain ⟨k0, s0, s1, x0, x1, x2⟩ := Hpc.out y hy.1
                          have g0 : vs 3 = .pointer (some ⟨wr.heap.size, 0, none⟩) := hd 3 (by decide) (by kernel_rfl)
                          (simp only [opens]; try simp only [Nat.reduceAdd])
                          rw [g0]
                          go_wp2_with fail
                          exact ⟨_, rfl, rfl, Below.refl _ _⟩
                        · have g0 : vs 2 = .agg #[.map (some M), .int .i64 n] := hd 2 (by decide) (by kernel_rfl)
                          have g1 : vs 4 = .int .i64 xl := hd 4 (by decide) (by kernel_rfl)
                          have hZ := Lib.hid (HL_xl.out y hy.1)
                          (simp only [opens]; try simp only [Nat.reduceAdd])
                          rw [g0, g1]
                          go_wp2_with (go_at_call 30; refine hZ.out.mono ?_; rintro e w4 ⟨rfl, hb4⟩)
                          exact ⟨_, rfl, rfl, hb4⟩
                        · obtain ⟨k0, s0, s1, x0, x1, x2⟩ := Hpc.out y hy.1
                          (simp only [opens]; try simp only [Nat.reduceAdd])
                          go_wp2_with fail
                          exact ⟨_, rfl, rfl, Below.refl _ _⟩
                        · (simp only [opens]; try simp only [Nat.reduceAdd])
                          go_wp2_with fail
                          exact ⟨_, rfl, rfl, Below.refl _ _⟩
                        · obtain ⟨k0, s0, s1, x0, x1, x2⟩ := Hpc.out y hy.1
                          have g0 : vs 7 = .pointer (some ⟨wr.heap.size, 1, none⟩) := hd 7 (by decide) (by kernel_rfl)
                          (simp only [opens]; try simp only [Nat.reduceAdd])
                          rw [g0]
                          go_wp2_with fail
                          exact ⟨_, rfl, rfl, Below.refl _ _⟩
                        · have g0 : vs 6 = .agg #[.map (some M), .int .i64 n] := hd 6 (by decide) (by kernel_rfl)
                          have g1 : vs 8 = .int .i64 xn := hd 8 (by decide) (by kernel_rfl)
                          have hZ := Lib.hid (HL_xn.out y hy.1)
                          (simp only [opens]; try simp only [Nat.reduceAdd])
                          rw [g0, g1]
                          go_wp2_with (go_at_call 30; refine hZ.out.mono ?_; rintro e w4 ⟨rfl, hb4⟩)
                          exact ⟨_, rfl, rfl, hb4⟩
                        · obtain ⟨k0, s0, s1, x0, x1, x2⟩ := Hpc.out y hy.1
                          (simp only [opens]; try simp only [Nat.reduceAdd])
                          go_wp2_with fail
                          exact ⟨_, rfl, rfl, Below.refl _ _⟩
                        · (simp only [opens]; try simp only [Nat.reduceAdd])
                          go_wp2_with fail
                          exact ⟨_, rfl, rfl, Below.refl _ _⟩
                        · obtain ⟨k0, s0, s1, x0, x1, x2⟩ := Hpc.out y hy.1
                          have g0 : vs 11 = .pointer (some ⟨wr.heap.size, 2, none⟩) := hd 11 (by decide) (by kernel_rfl)
                          (simp only [opens]; try simp only [Nat.reduceAdd])
                          rw [g0]
                          go_wp2_with fail
                          exact ⟨_, rfl, rfl, Below.refl _ _⟩
                        · have g0 : vs 10 = .agg #[.map (some M), .int .i64 n] := hd 10 (by decide) (by kernel_rfl)
                          have g1 : vs 12 = .int .i64 xr := hd 12 (by decide) (by kernel_rfl)
                          have hZ := Lib.hid (HL_xr.out y hy.1)
                          (simp only [opens]; try simp only [Nat.reduceAdd])
                          rw [g0, g1]
                          go_wp2_with (go_at_call 30; refine hZ.out.mono ?_; rintro e w4 ⟨rfl, hb4⟩)
                          exact ⟨_, rfl, rfl, hb4⟩
                        · have g0 : vs 5 = .int .i64 (PC.mov c.inputs to n xl) := hd 5 (by decide) (by kernel_rfl)
                          have g1 : vs 9 = .int .i64 (PC.mov c.inputs to n xn) := hd 9 (by decide) (by kernel_rfl)
                          have g2 : vs 13 = .int .i64 (PC.mov c.inputs to n xr) := hd 13 (by decide) (by kernel_rfl)
                          (simp only [opens]; try simp only [Nat.reduceAdd])
                          rw [g0, g1, g2]
                          go_wp2_with fail
                          exact ⟨_, rfl, rfl, Below.refl _ _⟩
                        · have g0 : vs 14 = .agg #[.int .i64 (PC.mov c.inputs to n xl), .int .i64 (PC.mov c.inputs to n xn), .int .i64 (PC.mov c.inputs to n xr)] := hd 14 (by decide) (by kernel_rfl)
                          have hsy : X.heap.size ≤ y.heap.size := by have := hsX.out; have hy := hy.1; rw [HC.out] at hy; have := hy.2.2.2; omega
                          (simp only [opens]; try simp only [Nat.reduceAdd])
                          rw [g0]
                          go_wp2_with fail
                          exact ⟨_, rfl, ⟨_, rfl, hsy, heap_alloc_new y _⟩, (Below.refl _ _).alloc (Nat.le_refl _) _⟩
                        · have g0 : vs 1 = .slice au k cu := hd 1 (by decide) (by kernel_rfl)
                          obtain ⟨g, g2, g3, g4⟩ : ∃ g, vs 15 = .slice (some ⟨g, 0, none⟩) 1 1 ∧ X.heap.size ≤ g ∧ y.heap[g]? = some (.cells #[.int .i64 (PC.mov c.inputs to n xl), .int .i64 (PC.mov c.inputs to n xn), .int .i64 (PC.mov c.inputs to n xr)] 35 (0, 0)) := hd 15 (by decide) (by kernel_rfl)
                          have hcl := Lib.hid (cells_of_row3 g4)
                          have hO := Lib.hid (hy.2 (hb rfl))
                          have hCy := Lib.hid hy.1
                          clear hy
                          (simp only [opens]; try simp only [Nat.reduceAdd])
                          rw [g0, g2]
                          refine app_cells rfl _ _ 24 rfl 35 3 24 (.agg #[.int .i64 0, .int .i64 0, .int .i64 0]) Tryz.underlying24 infoGat rfl (by decide) (w0 := y) (B0 := Y.heap.size) rfl hO.out (Below.refl _ _) (Nat.le_refl _) (by have h := hCy.out; rw [HC.out] at h; exact h.1.size) rfl hcl.out (by intro u hu; simp only [List.mem_cons, List.mem_nil_iff, or_false] at hu; rcases hu with rfl | rfl | rfl <;> rfl) (by omega) (by omega) ?_
                          intro v3 w3 hown3 _ _ hgr3
                          refine ⟨_, rfl, hown3, ⟨?_, fun e => by cases e⟩, ?_⟩
                          · have h := hCy.out
                            rw [HC.out] at h ⊢
                            exact ⟨grownBy_two h.1 hgr3 fun j e => Or.inl (hO.out.lt j e).1, h.2.1.grown hgr3 hnq2.out, h.2.2.1.grown hgr3 hne.out, Nat.lt_of_lt_of_le h.2.2.2 hgr3.size⟩
                          · intro j hj hj1 hf
                            obtain rfl | rfl | rfl | rfl | rfl | rfl | rfl | rfl | rfl | rfl | rfl | rfl | rfl | rfl | rfl | rfl | rfl := (by omega : j = 0 ∨ j = 1 ∨ j = 2 ∨ j = 3 ∨ j = 4 ∨ j = 5 ∨ j = 6 ∨ j = 7 ∨ j = 8 ∨ j = 9 ∨ j = 10 ∨ j = 11 ∨ j = 12 ∨ j = 13 ∨ j = 14 ∨ j = 15 ∨ j = 17)
                            all_goals first | exact hf | skip
                            obtain ⟨g', e1, e2, e3⟩ := hf
                            refine ⟨g', e1, e2, (hgr3.block g' (Array.getElem?_eq_some_iff.1 e3).1 fun e => ?_).trans e3⟩
                            have := (hownX.out.lt g' e.symm).2
                            omega
                        · (simp only [opens]; try simp only [Nat.reduceAdd])
                          go_wp2_with fail
                          exact ⟨_, rfl, rfl, Below.refl _ _⟩
                      intro vs y hy hf
                      have g0 : vs 17 = .pointer (some ⟨q, 6, none⟩) := hf 17 (by decide)
                      have g1 : y.ownsRow Y.heap.size 35 3 (vs 16) (k + 1) ((((c.ands.take k).map (PC.movGat c.inputs to n)).flatMap gatCells) ++ [.int .i64 (PC.mov c.inputs to n xl), .int .i64 (PC.mov c.inputs to n xn), .int .i64 (PC.mov c.inputs to n xr)]) := hf 16 (by decide)
                      have hy := hy.1
                      rw [HC.out] at hy
                      have g2 : y.ownsRow Y.heap.size 35 3 (vs 16) (k + 1) (((c.ands.take (k + 1)).map (PC.movGat c.inputs to n)).flatMap gatCells) := by rw [htk.out]; exact g1
                      (simp only [opens]; try simp only [Nat.reduceAdd])
                      rw [g0]
                      generalize vs 16 = u9 at *
                      clear g1 hf
                      have G2 := Lib.hid g2
                      obtain ⟨a9, c9, rfl⟩ := owned_slice g2
                      have hcq := hy.2.1.cell 6 _ rfl
                      have hfq := hy.2.1.frozen 6
                      have hR9 := Lib.hid (hy.2.1.set 6 (.slice a9 (k + 1) c9))
                      have hG9 := set_grown' y q 6 (.slice a9 (k + 1) c9)
                      have hO9 := Lib.hid (G2.out.kept hG9 (Or.inr fun e => hy.2.1.other G2.out (by decide) e.symm))
                      have hG9 := Lib.hid (grownBy_two hy.1 hG9 fun j e => Or.inr (Option.some.inj e).symm)
                      clear hy g2 G2
                      go_wp2_with fail
                      go_roundg (c.ands.length - (k + 1))
                      case measure => exact hmea _ hg
                      case rel => exact ⟨k + 1, _, hk1.out, Nat.le_refl _, by go_num, hG9.out, hR9.out, hO9.out⟩
                    · have hltz : ¬ (k : Int) < (c.ands.length : Int) := by omega
                      obtain rfl : k = c.ands.length := by omega
                      have hown := hown.out
                      rw [List.take_length] at hown
                      obtain ⟨a6, c6, rfl⟩ := owned_slice hown
                      have HRC := Lib.hid (HRZY.out.grown hgr.out fun e => hnq.out.2.1 (Option.some.inj e))
                      have f0 := hrow.out.cell 0 _ rfl
                      have f1 := hrow.out.cell 1 _ rfl
                      have f2 := hrow.out.cell 2 _ rfl
                      have f3 := hrow.out.cell 3 _ rfl
                      have f4 := hrow.out.cell 4 _ rfl
                      have f5 := hrow.out.cell 5 _ rfl
                      have f6 := hrow.out.cell 6 _ rfl
                      have f7 := hrow.out.cell 7 _ rfl
                      have hW : Hid (∀ F : World, wr.grownBy F (some (w.heap.size + 1)) → CircParts F (PC.shiftC c to n) (.slice a1 to.length c1) (.slice a2 c.latches.length c2) (.slice a3 c.outputs.length c3) (.slice a4 c.bads.length c4) (.slice a5 c.invars.length c5) (.slice a6 c.ands.length c6) (.slice none 0 0)) := fun F hF => by
                        have k1 := ((O1Y.out.kept hgr.out HRY.out (by decide)).kept hF HRC.out (by decide)).ints
                        have k3 := ((O3Y.out.kept hgr.out HRY.out (by decide)).kept hF HRC.out (by decide)).ints
                        have k4 := ((O4Y.out.kept hgr.out HRY.out (by decide)).kept hF HRC.out (by decide)).ints
                        have k5 := ((O5Y.out.kept hgr.out HRY.out (by decide)).kept hF HRC.out (by decide)).ints
                        have k2 := Cells.of_owns (owns_other (owns_other HLY.out hgr.out HRY.out (by decide)) hF HRC.out (by decide))
                        have k6 := Cells.of_owns (owns_other hown hF HRC.out (by decide))
                        refine ⟨k1, ⟨by rw [show (PC.shiftC c to n).latches = c.latches.map (PC.movLat c.inputs to n) from rfl, List.length_map]; exact k2, ?_⟩, k3, k4, k5, ⟨by rw [show (PC.shiftC c to n).ands = c.ands.map (PC.movGat c.inputs to n) from rfl, List.length_map]; exact k6, ?_⟩, ⟨Cells.nil _ _, fun x hx => by cases hx⟩⟩
                        · intro x hx
                          obtain ⟨z, hz, rfl⟩ := List.mem_map.1 hx
                          have h1 := HRT.out.defs _ (PC.mem_defs_lat c _ hz)
                          have h2 := PC.known_range c HRT.out _ (HRT.out.latNext _ hz)
                          have h3 := HRT.out.latReset z hz
                          have m1 := mov_rng (ins := c.inputs) (n := n) (l := z.lit) HTo.out (by omega) (by omega) HN.out.1 HN.out.2
                          have m2 := mov_rng (ins := c.inputs) (n := n) (l := z.next) HTo.out (by omega) (by omega) HN.out.1 HN.out.2
                          refine ⟨m1, m2, ?_⟩
                          show rng (PC.movReset _ _ _ _)
                          unfold PC.movReset
                          split
                          · exact m1
                          · unfold rng; omega
                        · intro x hx
                          obtain ⟨z, hz, rfl⟩ := List.mem_map.1 hx
                          have h1 := HRT.out.defs _ (PC.mem_defs_gat c _ hz)
                          obtain ⟨_, _, h3, h4⟩ := HRT.out.gats _ hz
                          have h3 := PC.known_range c HRT.out _ h3
                          have h4 := PC.known_range c HRT.out _ h4
                          exact ⟨mov_rng HTo.out (by omega) (by omega) HN.out.1 HN.out.2, mov_rng HTo.out (by omega) (by omega) HN.out.1 HN.out.2, mov_rng HTo.out (by omega) (by omega) HN.out.1 HN.out.2⟩
                      obtain ⟨⟨k0, k1, k2, k3, k4, k5, k6, k7, k8, k9, k10, k11, k12, k13, k14, k15⟩, hR, hG⟩ := HRC.out.put8 (.int .i64 (c.max + n)) (.slice a1 to.length c1) (.slice a2 c.latches.length c2) (.slice a3 c.outputs.length c3) (.slice a4 c.bads.length c4) (.slice a5 c.invars.length c5) (.slice a6 c.ands.length c6) (.slice none 0 0)
                      have HG := Lib.hid hG
                      have hPF := Lib.hid (hW.out _ hG)
                      have hFb := Lib.hid (HB.out.grown hG HB.out.size fun j e => by cases e; exact Nat.le_succ _)
                      have q0 := hR.cell 0 _ rfl
                      have q1 := hR.cell 1 _ rfl
                      have q2 := hR.cell 2 _ rfl
                      have q3 := hR.cell 3 _ rfl
                      have q4 := hR.cell 4 _ rfl
                      have q5 := hR.cell 5 _ rfl
                      have q6 := hR.cell 6 _ rfl
                      have q7 := hR.cell 7 _ rfl
                      unfold set8 at q0 q1 q2 q3 q4 q5 q6 q7
                      clear hR hG hown hgr hrow hk hg hlt hW
                      go_wp2_with fail
                      refine bodyPost_ret (v := .tuple #[.agg #[.int .i64 (c.max + n), .slice a1 to.length c1, .slice a2 c.latches.length c2, .slice a3 c.outputs.length c3, .slice a4 c.bads.length c4, .slice a5 c.invars.length c5, .slice a6 c.ands.length c6, .slice none 0 0], .int .i64 0]) (by simp [results, Tryz.results8, go_sem, q0, q1, q2, q3, q4, q5, q6, q7]) rfl ?_
                      exact ⟨_, by rw [eE.out], by rw [eD.out]; exact ⟨_, _, _, _, _, _, _, rfl, hPF.out, by show rng (c.max + n); unfold rng; have := HN.out; omega⟩, hFb.out⟩

end Go.Proofs.YtpkaoabpifeigaaGreatDoor
