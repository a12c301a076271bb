/- Contracts: may a witness be printed? Both sides'. -/
import Derived.Test.YtfjejjdkogfelaaDoorWalkX1
import Derived.Test.YtfjejjdkogfelaaDoorPlainX
namespace Go.Proofs.YtfjejjdkogfelaaDoor
open Go.RowKit Go.Shelf
attribute [local simp] mk_get

theorem enters_witFits1 : ∀ args w, (callFunc 21 args).run Tryd.prog w = .ok (.enter 21 args) w := enters_of Tryd.func21 (by kernel_rfl) rfl

theorem headD_get (l : List (List UInt8)) (h : 0 < l.length) : l.headD [] = l[0] := by
  cases l with
  | nil => simp at h
  | cons x r => rfl

set_option maxHeartbeats 1000000 in
theorem witFits1_any (x : List UInt8) (bx : Nat) (ins : List (List UInt8)) (vins : Value) (w : World) (hc : w.cell? ⟨bx, 2, none⟩ = some vins) (hS : Strs w vins ins) (hne : 0 < ins.length) (hx : x.length ≤ 9223372036854775807) :
    Calls Tryd.prog 21 #[.string ⟨x.toArray⟩, .pointer (some ⟨bx, 0, none⟩)] w fun e w' => e = .returned (.bool (!PC.bitsOk x (ins.headD []).length)) ∧ Below w.heap.size w w' := by
  obtain ⟨ao, cap, rfl, h1, h2, h3⟩ := hS.open_
  obtain ⟨b, off, rfl, hbs, hl, hcell⟩ := h3 0 hne
  rw [headD_get _ hne]
  have hB := Lib.hid fun w1 => simBits_any x ins[0].length w1 hx hl
  generalize ins[0] = y at *
  rw [Nat.add_zero] at hcell
  generalize PC.bitsOk x y.length = R at *
  have hltz : (0 : Int) < (ins.length : Int) := by omega
  clear hS h3
  go_enter Tryd.func21, Tryd.ntmps21
  go_wp2_with fail
  refine (hB.out _).mono ?_
  rintro e w1 ⟨rfl, hb⟩
  go_wp2_with fail
  go_ret
  exact ⟨rfl, hb⟩

set_option maxRecDepth 100000 in
set_option maxHeartbeats 4000000 in
theorem witFits_any (bad : Int) (st : List UInt8) (ins : List (List UInt8)) (vins : Value) (w : World) (hS : Strs w vins ins) (hs : st.length ≤ 9223372036854775807) :
    Calls Tryd.prog 12 #[.agg #[.int .i64 bad, .string ⟨st.toArray⟩, vins]] w fun e w' => e = .returned (.bool (PW.fits bad st ins)) ∧ Below w.heap.size w w' := by
  have hmf : ∀ (fn : Fn) (first cap : Array Value) (w : World), (Instr.makeFunc fn first cap).run Tryd.prog w = .ok (.func fn first cap) w := fun _ _ _ _ => rfl
  obtain ⟨R, hR⟩ : ∃ R, R = PW.fits bad st ins := ⟨_, rfl⟩
  rw [← hR]
  have HR := Lib.hid hR
  clear hR
  have hS0 := Lib.hid hS
  obtain ⟨ao, cap, rfl, h1, h2, h3⟩ := hS.open_
  have hb0 := Lib.hid ((Below.refl w.heap.size w).alloc (Nat.le_refl _) (.cells #[.int .i64 bad, .string ⟨st.toArray⟩, .slice ao ins.length cap] 24))
  have hby0 := Lib.hid (Box3.new w (.int .i64 bad) (.string ⟨st.toArray⟩) (.slice ao ins.length cap) 24)
  obtain ⟨q0, q1, q2⟩ := hby0.out
  have H3 := Lib.hid h3
  clear hS h3
  go_enter Tryd.func12, Tryd.ntmps12
  by_cases c1 : bad < 0
  · have d1 : decide (bad < 0) = true := decide_eq_true c1
    have hr : Hid (R = false) := by
      show _ = _
      rw [HR.out, Bool.eq_false_iff]
      intro hf
      have := (PW.fits_iff _ _ _).1 hf
      exact absurd this.1.1 (by omega)
    clear HR c1
    go_wp2_with fail
    go_ret
    exact ⟨by rw [hr.out]; rfl, hb0.out⟩
  have d1 : decide (bad < 0) = false := decide_eq_false c1
  by_cases c2 : 64 ≤ bad
  · have d2 : decide ((64 : Int) ≤ bad) = true := decide_eq_true c2
    have hr : Hid (R = false) := by
      show _ = _
      rw [HR.out, Bool.eq_false_iff]
      intro hf
      have := (PW.fits_iff _ _ _).1 hf
      exact absurd this.1.2.1 (by omega)
    clear HR c2
    go_wp2_with fail
    go_ret
    exact ⟨by rw [hr.out]; rfl, hb0.out⟩
  have d2 : decide ((64 : Int) ≤ bad) = false := decide_eq_false c2
  by_cases c3 : ins.length = 0
  · have d3 : ((ins.length : Int) == 0) = true := by rw [c3]; rfl
    have hr : Hid (R = false) := by
      show _ = _
      rw [HR.out, Bool.eq_false_iff]
      intro hf
      have := (PW.fits_iff _ _ _).1 hf
      exact absurd this.1.2.2.2.1 (by omega)
    clear HR c3
    go_wp2_with fail
    go_ret
    exact ⟨by rw [hr.out]; rfl, hb0.out⟩
  have d3 : ((ins.length : Int) == 0) = false := beq_eq_false_iff_ne.2 (by omega)
  by_cases c4 : 80 < ins.length
  · have d4 : decide ((80 : Int) < (ins.length : Int)) = true := decide_eq_true (by omega)
    have hr : Hid (R = false) := by
      show _ = _
      rw [HR.out, Bool.eq_false_iff]
      intro hf
      have := (PW.fits_iff _ _ _).1 hf
      exact absurd this.1.2.2.2.2.1 (by omega)
    clear HR c4
    go_wp2_with fail
    go_ret
    exact ⟨by rw [hr.out]; rfl, hb0.out⟩
  have d4 : decide ((80 : Int) < (ins.length : Int)) = false := decide_eq_false (by omega)
  by_cases c5 : 64 < st.length
  · have d5 : decide ((64 : Int) < (st.length : Int)) = true := decide_eq_true (by omega)
    have hr : Hid (R = false) := by
      show _ = _
      rw [HR.out, Bool.eq_false_iff]
      intro hf
      have := (PW.fits_iff _ _ _).1 hf
      exact absurd this.1.2.2.1 (by omega)
    clear HR c5
    go_wp2_with fail
    go_ret
    exact ⟨by rw [hr.out]; rfl, hb0.out⟩
  have d5 : decide ((64 : Int) < (st.length : Int)) = false := decide_eq_false (by omega)
  have hne : 0 < ins.length := by omega
  obtain ⟨b, off, rfl, hbs, hl, hcell⟩ := H3.out 0 hne
  rw [Nat.add_zero] at hcell
  have hcell := (hb0.out.cell hbs).trans hcell
  have hcode := PW.fits_code bad st ins (by omega)
  rw [decide_eq_true (show 0 ≤ bad by omega), decide_eq_true (show bad ≤ 63 by omega), decide_eq_true (show st.length ≤ 64 by omega), decide_eq_true (show ins.length ≤ 80 by omega), headD_get _ hne] at hcode
  simp only [Bool.true_and] at hcode
  have hltz : (0 : Int) < (ins.length : Int) := by omega
  have hCF := Lib.hid fun w1 bx (hb : Below w.heap.size w w1) (hc : w1.cell? ⟨bx, 2, none⟩ = some (.slice (some ⟨b, off, none⟩) ins.length cap)) =>
    ContainsFuncS_any (fun s => !PC.bitsOk s (ins.headD []).length) 21 #[.pointer (some ⟨bx, 0, none⟩)] w1 enters_witFits1
      (fun x w2 hx hb2 => witFits1_any x bx ins _ w2 ((hb2.cell (World.block_lt_of_cell? _ _ hc)).trans hc) ((hS0.out.mono hb).mono hb2) hne hx) ins (.slice (some ⟨b, off, none⟩) ins.length cap) (hS0.out.mono hb)
  rw [headD_get _ hne] at hCF
  have hB := Lib.hid fun w1 => simBits_any st st.length w1 hs hs
  generalize hy : ins[0] = y at *
  clear hy H3
  by_cases c6 : 64 < y.length
  · have d6 : decide ((64 : Int) < (y.length : Int)) = true := decide_eq_true (by omega)
    have hr : Hid (R = false) := by show _ = _; rw [HR.out, hcode, decide_eq_false (by omega)]; rfl
    clear HR hcode c6
    go_wp2_with fail
    go_ret
    exact ⟨by rw [hr.out]; rfl, hb0.out⟩
  · have d6 : decide ((64 : Int) < (y.length : Int)) = false := decide_eq_false (by omega)
    rw [decide_eq_true (show y.length ≤ 64 by omega), Bool.true_and] at hcode
    generalize hbo : PC.bitsOk st st.length = B at *
    generalize hca : (ins.any fun s => !PC.bitsOk s y.length) = CA at *
    have hr := Lib.hid (HR.out.trans hcode)
    clear HR hcode hca hbo
    go_wp2_with fail
    cases B with
    | false =>
      refine (hB.out _).mono ?_
      rintro e w1 ⟨rfl, hb⟩
      go_wp2_with fail
      go_ret
      exact ⟨by rw [hr.out]; rfl, Below.of hb0.out hb⟩
    | true =>
      refine (hB.out _).mono ?_
      rintro e w1 ⟨rfl, hb⟩
      have hb1 := Lib.hid (Below.of hb0.out hb)
      have hby1 := Lib.hid (hby0.out.mono hb)
      have hCF1 := Lib.hid (hCF.out w1 w.heap.size hb1.out hby1.out.2.2)
      clear q0 q1 q2 hcell hb hCF
      obtain ⟨q0, q1, q2⟩ := hby1.out
      go_wp2_with fail
      refine hCF1.out.mono ?_
      rintro e w2 ⟨rfl, hb⟩
      go_wp2_with fail
      go_ret
      exact ⟨by rw [hr.out]; simp, Below.of hb1.out hb⟩

end Go.Proofs.YtfjejjdkogfelaaDoor
