/- Contract: may a witness be printed, by the law's own words. -/
import Derived.Test.YtfjejjdkogfelaaDoorWalkX3
namespace Go.Proofs.YtfjejjdkogfelaaDoor
open Go.RowKit Go.Shelf
attribute [local simp] mk_get

set_option maxRecDepth 100000 in
set_option maxHeartbeats 4000000 in
theorem fits25_any (bad : Int) (st : List UInt8) (ins : List (List UInt8)) (vins : Value) (w : World) (hS : Strs w vins ins) (hs : st.length ≤ 9223372036854775807) :
    Calls Tryd.prog 6 #[.agg #[.int .i64 bad, .string ⟨st.toArray⟩, vins]] w fun e w' => e = .returned (.bool (PW.fits bad st ins)) ∧ Below w.heap.size w w' := by
  obtain ⟨R, hR⟩ : ∃ R, R = PW.fits bad st ins := ⟨_, rfl⟩
  rw [← hR]
  have HR := Lib.hid hR
  clear hR
  obtain ⟨ao, cap, rfl, h1, h2, h3⟩ := hS.open_
  have hb0 := Lib.hid ((Below.refl w.heap.size w).alloc (Nat.le_refl _) (.cells #[.int .i64 bad, .string ⟨st.toArray⟩, .slice ao ins.length cap] 24))
  have hby0 := Lib.hid (Box3.new w (.int .i64 bad) (.string ⟨st.toArray⟩) (.slice ao ins.length cap) 24)
  obtain ⟨q0, q1, q2⟩ := hby0.out
  have H3 := Lib.hid h3
  clear hS h3
  go_enter Tryd.func6, Tryd.ntmps6
  by_cases c1 : bad < 0
  · have d1 : decide (bad < 0) = true := decide_eq_true c1
    have hr : Hid (R = false) := by
      show _ = _
      rw [HR.out, Bool.eq_false_iff]
      intro hf
      have := (PW.fits_iff _ _ _).1 hf
      exact absurd this.1.1 (by omega)
    clear HR c1
    go_wp2_with fail
    go_ret
    exact ⟨by rw [hr.out]; rfl, hb0.out⟩
  have d1 : decide (bad < 0) = false := decide_eq_false c1
  by_cases c2 : 63 < bad
  · have d2 : decide ((63 : Int) < bad) = true := decide_eq_true c2
    have hr : Hid (R = false) := by
      show _ = _
      rw [HR.out, Bool.eq_false_iff]
      intro hf
      have := (PW.fits_iff _ _ _).1 hf
      exact absurd this.1.2.1 (by omega)
    clear HR c2
    go_wp2_with fail
    go_ret
    exact ⟨by rw [hr.out]; rfl, hb0.out⟩
  have d2 : decide ((63 : Int) < bad) = false := decide_eq_false c2
  by_cases c5 : 64 < st.length
  · have d5 : decide ((64 : Int) < (st.length : Int)) = true := decide_eq_true (by omega)
    have hr : Hid (R = false) := by
      show _ = _
      rw [HR.out, Bool.eq_false_iff]
      intro hf
      have := (PW.fits_iff _ _ _).1 hf
      exact absurd this.1.2.2.1 (by omega)
    clear HR c5
    go_wp2_with fail
    go_ret
    exact ⟨by rw [hr.out]; rfl, hb0.out⟩
  have d5 : decide ((64 : Int) < (st.length : Int)) = false := decide_eq_false (by omega)
  by_cases c3 : ins.length < 1
  · have d3 : decide ((ins.length : Int) < 1) = true := decide_eq_true (by omega)
    have hr : Hid (R = false) := by
      show _ = _
      rw [HR.out, Bool.eq_false_iff]
      intro hf
      have := (PW.fits_iff _ _ _).1 hf
      exact absurd this.1.2.2.2.1 (by omega)
    clear HR c3
    go_wp2_with fail
    go_ret
    exact ⟨by rw [hr.out]; rfl, hb0.out⟩
  have d3 : decide ((ins.length : Int) < 1) = false := decide_eq_false (by omega)
  by_cases c4 : 80 < ins.length
  · have d4 : decide ((80 : Int) < (ins.length : Int)) = true := decide_eq_true (by omega)
    have hr : Hid (R = false) := by
      show _ = _
      rw [HR.out, Bool.eq_false_iff]
      intro hf
      have := (PW.fits_iff _ _ _).1 hf
      exact absurd this.1.2.2.2.2.1 (by omega)
    clear HR c4
    go_wp2_with fail
    go_ret
    exact ⟨by rw [hr.out]; rfl, hb0.out⟩
  have d4 : decide ((80 : Int) < (ins.length : Int)) = false := decide_eq_false (by omega)
  have hB := Lib.hid fun w1 => rBits_any st st.length w1 hs
  cases hbo : PC.bitsOk st st.length with
  | false =>
    rw [hbo] at hB
    have hr : Hid (R = false) := by
      show _ = _
      rw [HR.out, Bool.eq_false_iff]
      intro hf
      have := ((PW.fits_iff _ _ _).1 hf).1.2.2.2.2.2
      rw [hbo] at this; cases this
    clear HR hbo c1 c2 c3 c4 c5
    go_wp2_with fail
    refine (hB.out _).mono ?_
    rintro e w1 ⟨rfl, rfl⟩
    go_wp2_with fail
    go_ret
    exact ⟨by rw [hr.out]; rfl, hb0.out⟩
  | true =>
    rw [hbo] at hB
    have hne : 0 < ins.length := by omega
    have hfit : Hid (R = true ↔ ∀ x ∈ ins, PC.bitsOk x (ins.headD []).length = true ∧ x.length ≤ 64) := by
      rw [HR.out, PW.fits_iff]
      exact ⟨fun h => h.2, fun h => ⟨⟨by omega, by omega, by omega, by omega, by omega, hbo⟩, h⟩⟩
    obtain ⟨b, off, rfl, hbs, hl, hcell⟩ := H3.out 0 hne
    rw [headD_get _ hne] at hfit
    rw [Nat.add_zero] at hcell
    obtain ⟨y, hy⟩ : ∃ y, ins[0] = y := ⟨_, rfl⟩
    rw [hy] at hfit hcell hl
    have HY := Lib.hid hy
    have HCY := Lib.hid hcell
    clear HR hbo c1 c2 c3 c4 c5 hy hcell
    obtain ⟨W0, hW0⟩ : ∃ W, W = w.alloc (.cells #[.int .i64 bad, .string ⟨st.toArray⟩, .slice (some ⟨b, off, none⟩) ins.length cap] 24) := ⟨_, rfl⟩
    rw [← hW0] at hb0 hby0 q0 q1 q2
    have HW0 := Lib.hid hW0
    clear hW0
    go_wp2_with fail
    rw [← HW0.out]
    refine (hB.out _).mono ?_
    rintro e w1 ⟨rfl, rfl⟩
    go_wp2_with fail
    clear q0 q1 q2
    go_loopg [3] ins.length (fun gg s3 wr => ∃ k : Nat, k ≤ ins.length ∧ ins.length - k ≤ gg ∧ s3 = .int .i64 k ∧ Below W0.heap.size W0 wr ∧ Aside (∀ j (hj : j < k) (h : j < ins.length), PC.bitsOk ins[j] y.length = true ∧ ins[j].length ≤ 64))
    case atStart => exact ⟨0, Nat.zero_le _, by omega, rfl, Below.refl _ _, fun j hj => absurd hj (Nat.not_lt_zero _)⟩
    case round =>
      obtain ⟨k, hk, hg, rfl, hbr, A⟩ := hrel
      have hbx := Lib.hid (hby0.out.mono hbr)
      have hbR := Lib.hid (Below.of hb0.out hbr)
      by_cases hlt : k < ins.length
      · have hmea : Hid (∀ g : Nat, ins.length - k ≤ g → ins.length - (k + 1) < g) := fun g h => by omega
        have HG := Lib.hid hg
        obtain ⟨b', off', e', hbs', hl', hcell'⟩ := H3.out k hlt
        cases e'
        obtain ⟨x, hx⟩ : ∃ x, ins[k] = x := ⟨_, rfl⟩
        rw [hx] at hl' hcell'
        have HX := Lib.hid hx
        have hltz : (k : Int) < (ins.length : Int) := by omega
        have hltz0 : (0 : Int) < (ins.length : Int) := by omega
        have AA := Lib.hid A.out
        clear hx A hg
        have hcx : ∀ z : Later wr, z.at_.cell? ⟨b, off + k, none⟩ = some (.string ⟨x.toArray⟩) := fun z => z.cell ((hbR.out.cell hbs').trans hcell')
        have hcy : ∀ z : Later wr, z.at_.cell? ⟨b, off, none⟩ = some (.string ⟨y.toArray⟩) := fun z => z.cell ((hbR.out.cell hbs).trans HCY.out)
        have hBk : ∀ z : Later wr, Calls _ _ _ _ _ := fun z => rBits_any x y.length z.at_ hl'
        have hout : Hid (PC.bitsOk x y.length = true ∧ x.length ≤ 64 → ∀ j (hj : j < k + 1) (h : j < ins.length), PC.bitsOk ins[j] y.length = true ∧ ins[j].length ≤ 64) := fun h j hj hj' => by
          by_cases e : j = k
          · subst e; rw [HX.out]; exact h
          · exact AA.out j (by omega) hj'
        have hno : Hid (¬ (PC.bitsOk x y.length = true ∧ x.length ≤ 64) → R = false) := fun h => by
          rw [Bool.eq_false_iff]
          intro hf
          have := hfit.out.1 hf x (by rw [← HX.out]; exact List.getElem_mem hlt)
          exact h this
        obtain ⟨hbx0, hbx1, hbx2⟩ := hbx.out.later
        obtain ⟨q0, q1, q2⟩ := hbx.out
        clear hcell' HX AA
        cases hbk : PC.bitsOk x y.length with
        | false =>
          rw [hbk] at hBk hno
          have hr := Lib.hid (hno.out (by simp))
          clear hout hno hbk
          go_wp2_with fail
          refine wp_region_later (by kernel_rfl) (by kernel_rfl) ?_; (repeat (go_big_quiet_step ((go_at_call 15; with_reducible exact Calls.later_same (hBk _))))); refine wpQuiet_nil ?_; rintro w3 ⟨⟨_, hb3⟩, rfl⟩
          go_wp2_with fail
          go_ret
          exact ⟨by rw [hr.out]; rfl, Below.of hbR.out hb3⟩
        | true =>
          rw [hbk] at hBk hno hout
          clear hbk
          by_cases c6 : 64 < x.length
          · have d6 : decide ((64 : Int) < (x.length : Int)) = true := decide_eq_true (by omega)
            have hr := Lib.hid (hno.out (by simp; omega))
            clear hout hno c6
            go_wp2_with fail
            refine wp_region_later (by kernel_rfl) (by kernel_rfl) ?_; (repeat (go_big_quiet_step ((go_at_call 15; with_reducible exact Calls.later_same (hBk _))))); refine wpQuiet_nil ?_; rintro w3 ⟨⟨_, hb3⟩, rfl⟩
            go_wp2_with fail
            go_ret
            exact ⟨by rw [hr.out]; rfl, Below.of hbR.out hb3⟩
          · have d6 : decide ((64 : Int) < (x.length : Int)) = false := decide_eq_false (by omega)
            have ho := Lib.hid (hout.out ⟨rfl, by omega⟩)
            clear hout hno c6
            go_wp2_with fail
            refine wp_region_later (by kernel_rfl) (by kernel_rfl) ?_; (repeat (go_big_quiet_step ((go_at_call 15; with_reducible exact Calls.later_same (hBk _))))); refine wpQuiet_nil ?_; rintro w3 ⟨⟨_, hb3⟩, rfl⟩
            go_wp2_with fail
            go_roundg (ins.length - (k + 1))
            case measure => exact hmea.out _ HG.out
            case rel => exact ⟨k + 1, by omega, by omega, by go_num, Below.of hbr hb3, ho.out⟩
      · have hltz : ¬ (k : Int) < (ins.length : Int) := by omega
        obtain rfl : k = ins.length := by omega
        have hr : Hid (R = true) := hfit.out.2 fun x hx => by
          obtain ⟨j, hj, rfl⟩ := List.getElem_of_mem hx
          exact A.out j hj hj
        obtain ⟨q0, q1, q2⟩ := hbx.out
        clear hg hk hlt A
        go_wp2_with fail
        go_ret
        exact ⟨by rw [hr.out]; rfl, hbR.out⟩

end Go.Proofs.YtfjejjdkogfelaaDoor
