/- The walk of ReplayTells. -/
import Derived.Test.YtmnionocehflmaaDoorWalkP7
namespace Go.Proofs.YtmnionocehflmaaDoor
open Go.RowKit Go.Shelf
attribute [local simp] mk_get

set_option maxRecDepth 100000 in
set_option maxHeartbeats 8000000 in
theorem replayTells_walk (c : PC.Circ) (vc va : Value) (A : List (List Int)) (bad : Int) (st : List UInt8) (ins : List (List UInt8)) (vins : Value) (vals : List UInt8) (w : World) (h : IsCirc w vc c) (hf : Fits c) (hA : Lists w va A) (hS : Strs w vins ins)
    (hs : st.length ≤ 9223372036854775807) (hbr : rng bad) (hroom : (ins.length + 1) * 16 ≤ 140737488355328) (hv : vals.length ≤ 9223372036854775806) :
    Calls Tryd.prog 6 #[vc, va, .agg #[.int .i64 bad, .string ⟨st.toArray⟩, vins], .string ⟨vals.toArray⟩] w fun e w' => e = .returned (.bool true) ∧ Below w.heap.size w w' := by
  have h1 := Lib.hid fun w1 (hb : Below w.heap.size w w1) => repCheck_any c vc va A bad st ins vins w1 (h.mono hb) (hA.mono hb) (hS.mono hb) hs hbr hroom
  have h2 := Lib.hid fun w1 (hb : Below w.heap.size w w1) => rPath_any c vc va A bad st ins vins w1 (h.mono hb) hf (hA.mono hb) (hS.mono hb) hs hbr
  have h3 := Lib.hid fun (hbit : ∀ b ∈ vals, b = 48 ∨ b = 49) w1 (hb : Below w.heap.size w w1) => repAllowed_any c vc va A vals w1 (h.mono hb) (hA.mono hb) hbit (by omega)
  have h4 := Lib.hid fun w1 (hb : Below w.heap.size w w1) => rAllowed_any c vc va A vals w1 (h.mono hb) (hA.mono hb) (by omega)
  have hRb := Lib.hid fun w1 => rBits_any vals vals.length w1 (by omega)
  obtain ⟨vi, vl, vo, vb, vv, va', vn, rfl, hp, hm⟩ := h
  clear hp hA hS
  generalize pathE c A bad st ins = PE at *
  have hb0 : Below w.heap.size w (w.alloc (.cells #[.int .i64 c.max, vi, vl, vo, vb, vv, va', vn] 27)) := (Below.refl _ _).alloc (Nat.le_refl _) _
  have hbx0 := Lib.hid (Box8.new w (.int .i64 c.max) vi vl vo vb vv va' vn 27)
  obtain ⟨W0, hW0⟩ : ∃ W, W = w.alloc (.cells #[.int .i64 c.max, vi, vl, vo, vb, vv, va', vn] 27) := ⟨_, rfl⟩
  rw [← hW0] at hb0 hbx0
  have hsz : W0.heap.size = w.heap.size + 1 := by rw [hW0]; simp
  have hby0 := Lib.hid (Box3.new W0 (.int .i64 bad) (.string ⟨st.toArray⟩) vins 46)
  have hb1' := (Below.refl W0.heap.size W0).alloc (Nat.le_refl _) (.cells #[.int .i64 bad, .string ⟨st.toArray⟩, vins] 46)
  obtain ⟨W, hW⟩ : ∃ W, W = W0.alloc (.cells #[.int .i64 bad, .string ⟨st.toArray⟩, vins] 46) := ⟨_, rfl⟩
  rw [← hW] at hby0 hb1'
  rw [hsz] at hby0
  have hbW := Lib.hid (Below.of hb0 hb1')
  have hbx := Lib.hid (hbx0.out.mono hb1')
  have HW0 := Lib.hid hW0
  have HW := Lib.hid hW
  clear hW hW0 hbx0 hb0 hb1' hsz
  have hC1 : ∀ y : Later W, Calls _ _ _ _ _ := fun y => h1.out y.at_ (Below.of hbW.out y.below)
  have hC2 : ∀ y : Later W, Calls _ _ _ _ _ := fun y => h2.out y.at_ (Below.of hbW.out y.below)
  have hC3 : ∀ y : Later W, Calls _ _ _ _ _ := fun y => num09_any PE y.at_
  have hC4 : ∀ y : Later W, Calls _ _ _ _ _ := fun y => alive09_any y.at_
  clear h1 h2
  have e1 : (PE != PE) = false := by simp
  go_enter Tryd.func6, Tryd.ntmps6
  go_wp2_with fail
  rw [← HW0.out, ← HW.out]
  obtain ⟨q0, q1, q2, q3, q4, q5, q6, q7⟩ := hbx.out.later
  obtain ⟨r0, r1, r2⟩ := hby0.out.later
  refine wp_region_later (by kernel_rfl) (by kernel_rfl) ?_; (repeat (go_big_quiet_step ((first | (go_at_call 23; with_reducible exact Calls.later (hC1 _)) | (go_at_call 24; with_reducible exact Calls.later (hC2 _)) | (go_at_call 22; with_reducible exact Calls.later_same (hC3 _)) | (go_at_call 25; with_reducible exact Calls.later (hC4 _)))))); refine wpQuiet_nil ?_; rintro w3 ⟨⟨_, hb3⟩, rfl⟩
  clear q0 q1 q2 q3 q4 q5 q6 q7 r0 r1 r2 hC1 hC2 hC3 hC4 e1
  have hbx5 := Lib.hid (hbx.out.mono hb3)
  have hbW5 := Lib.hid (Below.of hbW.out hb3)
  clear hb3 hbx hby0 hbW
  obtain ⟨W5, hW5⟩ : ∃ W, W = w3 := ⟨_, rfl⟩
  subst hW5
  go_wp2_with fail
  cases hvb : PC.bitsOk vals vals.length with
  | false =>
    rw [hvb] at hRb
    have hR : ∀ y : Later W5, Calls _ _ _ _ _ := fun y => hRb.out y.at_
    clear hvb
    refine wp_region_later (by kernel_rfl) (by kernel_rfl) ?_; (repeat (go_big_quiet_step ((go_at_call 17; with_reducible exact Calls.later_same (hR _))))); refine wpQuiet_nil ?_; rintro w3 ⟨⟨_, hb3⟩, rfl⟩
    go_wp2_with fail
    go_ret
    exact ⟨rfl, Below.of hbW5.out hb3⟩
  | true =>
    rw [hvb] at hRb
    have hR : ∀ y : Later W5, Calls _ _ _ _ _ := fun y => hRb.out y.at_
    have hD1 : ∀ y : Later W5, Calls _ _ _ _ _ := fun y => h3.out (PC.bitsOk_mem hvb).1 y.at_ (Below.of hbW5.out y.below)
    have hD2 : ∀ y : Later W5, Calls _ _ _ _ _ := fun y => h4.out y.at_ (Below.of hbW5.out y.below)
    generalize PC.allowed c A vals = T at *
    have eT : (T == T) = true := by simp
    clear hvb
    obtain ⟨q0, q1, q2, q3, q4, q5, q6, q7⟩ := hbx5.out.later
    refine wp_region_later (by kernel_rfl) (by kernel_rfl) ?_; (repeat (go_big_quiet_step ((first | (go_at_call 17; with_reducible exact Calls.later_same (hR _)) | (go_at_call 26; with_reducible exact Calls.later (hD1 _)) | (go_at_call 27; with_reducible exact Calls.later (hD2 _)))))); refine wpQuiet_nil ?_; rintro w3 ⟨⟨_, hb3⟩, rfl⟩
    clear q0 q1 q2 q3 q4 q5 q6 q7
    go_wp2_with fail
    go_ret
    exact ⟨by cases T <;> rfl, Below.of hbW5.out hb3⟩

end Go.Proofs.YtmnionocehflmaaDoor
