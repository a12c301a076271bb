/- The walk of SimTells. -/
import Derived.Test.YtmnionocehflmaaDoorWalkM8
namespace Go.Proofs.YtmnionocehflmaaDoor
open Go.RowKit Go.Shelf
attribute [local simp] mk_get

set_option maxRecDepth 100000 in
set_option maxHeartbeats 8000000 in
theorem tells_walk (c : PC.Circ) (vc : Value) (st inp : List UInt8) (l : Int) (vcl : Value) (clause : List Int) (vals : List UInt8) (w : World) (h : IsCirc w vc c) (hf : Fits c) (hs : st.length ≤ 9223372036854775806) (hi : inp.length ≤ 9223372036854775806)
    (hl : rng l) (hcl : Ints w vcl clause) (hv : vals.length ≤ 9223372036854775806) :
    Calls Tryd.prog 5 #[vc, .string ⟨st.toArray⟩, .string ⟨inp.toArray⟩, .int .i64 l, vcl, .string ⟨vals.toArray⟩] w fun e w' => e = .returned (.bool true) ∧ Below w.heap.size w w' := by
  have h1 := Lib.hid fun w1 (hb : Below w.heap.size w w1) => simValues_any c vc st inp w1 (h.mono hb) (by omega) (by omega)
  have h2 := Lib.hid fun w1 (hb : Below w.heap.size w w1) => rValues_any c vc st inp w1 (h.mono hb) hf hs hi
  have h3 := Lib.hid fun w1 (hb : Below w.heap.size w w1) => simNext_any c vc st inp w1 (h.mono hb) (by omega) (by omega)
  have h4 := Lib.hid fun w1 (hb : Below w.heap.size w w1) => rNext_any c vc st inp w1 (h.mono hb) hf hs hi
  obtain ⟨vi, vl, vo, vb, vv, va, vn, rfl, hp, hm⟩ := h
  obtain ⟨al, capl, rfl, hl1, hl2, _⟩ := hp.latches.open_
  clear hp
  have hb0 : Below w.heap.size w (w.alloc (.cells #[.int .i64 c.max, vi, .slice al c.latches.length capl, vo, vb, vv, va, vn] 27)) := (Below.refl _ _).alloc (Nat.le_refl _) _
  have hbx0 := Lib.hid (Box8.new w (.int .i64 c.max) vi (.slice al c.latches.length capl) vo vb vv va vn 27)
  have hln : c.latches.length ≤ 9223372036854775807 := by omega
  have hRb := Lib.hid fun w1 => rBits_any vals vals.length w1 (by omega)
  obtain ⟨VE, hVE⟩ : ∃ x, x = PC.valuesE c st inp := ⟨_, rfl⟩
  obtain ⟨VS, hVS⟩ : ∃ x, x = PC.valuesS c st inp := ⟨_, rfl⟩
  obtain ⟨NS, hNS⟩ : ∃ x, x = nextS c st inp := ⟨_, rfl⟩
  rw [← hVE, ← hVS] at h1 h2
  rw [← hVE, ← hNS] at h3 h4
  clear hVE hVS hNS
  go_enter Tryd.func5, Tryd.ntmps5
  go_wp2_with fail
  refine (h1.out _ (by exact hb0)).mono ?_
  rintro e w1 ⟨rfl, hb1⟩
  have hbA := Below.of hb0 hb1
  have hbx1 := Lib.hid (hbx0.out.mono hb1)
  clear hb0 hb1 hbx0 h1
  obtain ⟨q0, q1, q2, q3, q4, q5, q6, q7⟩ := hbx1.out
  go_wp2_with fail
  refine (h2.out _ (by exact hbA)).mono ?_
  rintro e w2 ⟨rfl, hb2⟩
  have hbB := Below.of hbA hb2
  have hbx2 := Lib.hid (hbx1.out.mono hb2)
  clear hbA hb2 hbx1 h2 q0 q1 q2 q3 q4 q5 q6 q7
  obtain ⟨q0, q1, q2, q3, q4, q5, q6, q7⟩ := hbx2.out
  go_wp2_with fail
  refine (h3.out _ (by exact hbB)).mono ?_
  rintro e w3 ⟨rfl, hb3⟩
  have hbC := Below.of hbB hb3
  have hbx3 := Lib.hid (hbx2.out.mono hb3)
  clear hbB hb3 hbx2 h3 q0 q1 q2 q3 q4 q5 q6 q7
  obtain ⟨q0, q1, q2, q3, q4, q5, q6, q7⟩ := hbx3.out
  go_wp2_with fail
  refine (h4.out _ (by exact hbC)).mono ?_
  rintro e w4 ⟨rfl, hb4⟩
  have hbD := Lib.hid (Below.of hbC hb4)
  have hbx4 := Lib.hid (hbx3.out.mono hb4)
  clear hbC hb4 hbx3 h4 q0 q1 q2 q3 q4 q5 q6 q7
  have e1 : (VS != VS) = false := by simp
  have e2 : (NS != NS) = false := by simp
  have e3 : (VE != VE) = false := by simp
  go_wp2_with (go_at_call 11; refine (num07_any _ _).mono ?_; rintro e w5 ⟨rfl, rfl⟩)
  refine (alive07_any _).mono ?_
  rintro e w5 ⟨rfl, hb5⟩
  have hbE := Lib.hid (Below.of hbD.out hb5)
  have hbx5 := Lib.hid (hbx4.out.mono hb5)
  clear hbD hb5 hbx4 e1 e2 e3
  cases hvb : PC.bitsOk vals vals.length with
  | false =>
    rw [hvb] at hRb
    clear hvb
    go_wp2_with (go_at_call 17; refine (hRb.out _).mono ?_; rintro e w6 ⟨rfl, rfl⟩)
    go_ret
    exact ⟨rfl, hbE.out⟩
  | true =>
    rw [hvb] at hRb
    have hbit := (PC.bitsOk_mem hvb).1
    clear hvb
    have hT1 : ∀ y : Later w5, _ := fun y => simTrue_any vals l y.at_ hbit hl (by omega)
    have hT2 : ∀ y : Later w5, _ := fun y => rTrue_any vals l y.at_ hl (by omega)
    have hH1 : ∀ y : Later w5, _ := fun y => simHolds_any vals clause vcl y.at_ ((hcl.mono hbE.out).mono y.below) hbit (by omega)
    have hH2 : ∀ y : Later w5, _ := fun y => rHolds_any vals clause vcl y.at_ ((hcl.mono hbE.out).mono y.below) (by omega)
    have hS1 : ∀ y : Later w5, _ := fun y => simBits_any st c.latches.length y.at_ (by omega) hln
    have hS2 : ∀ y : Later w5, _ := fun y => rBits_any st c.latches.length y.at_ (by omega)
    generalize PC.tru vals l = T at *
    generalize PC.holds vals clause = H at *
    generalize PC.bitsOk st c.latches.length = B at *
    have eT : (T == T) = true := by simp
    have eH : (H == H) = true := by simp
    have eB : (B == B) = true := by simp
    clear hbit hcl
    go_wp2_with (go_at_call 17; refine (hRb.out _).mono ?_; rintro e w6 ⟨rfl, rfl⟩)
    obtain ⟨q0, q1, q2, q3, q4, q5, q6, q7⟩ := hbx5.out.later
    refine wp_region_later (by kernel_rfl) (by kernel_rfl) ?_; (repeat (go_big_quiet_step ((first | (go_at_call 12; with_reducible exact Calls.later (hT1 _)) | (go_at_call 18; with_reducible exact Calls.later_same (hT2 _)) | (go_at_call 19; with_reducible exact Calls.later (hH1 _)) | (go_at_call 20; with_reducible exact Calls.later_same (hH2 _)) | (go_at_call 21; with_reducible exact Calls.later (hS1 _)) | (go_at_call 17; with_reducible exact Calls.later_same (hS2 _)))))); refine wpQuiet_nil ?_; rintro w3 ⟨⟨_, hb3⟩, rfl⟩
    clear q0 q1 q2 q3 q4 q5 q6 q7
    go_wp2_with fail
    go_ret
    exact ⟨by cases T <;> cases H <;> cases B <;> rfl, Below.of hbE.out hb3⟩

end Go.Proofs.YtmnionocehflmaaDoor
