/- The walk of SimCone. -/
import Derived.Test.YtmnionocehflmaaDoorWalkN3
import Derived.Test.YtmnionocehflmaaDoorWalkM7
namespace Go.Proofs.YtmnionocehflmaaDoor
open Go.RowKit Go.Shelf
attribute [local simp] mk_get

theorem ints_one (w : World) (x : Int) (T : TypeId) (fr : Nat × Nat) (hr : rng x) : Ints (w.alloc (.cells #[.int .i64 x] T fr)) (.slice (some ⟨w.heap.size, 0, none⟩) 1 1) [x] :=
  ⟨⟨_, _, rfl, Nat.le_refl _, by omega, (fun h => by cases h), rfl, fun j hj => ⟨_, _, rfl, by simp, by
    have hj' : j = 0 := by simpa using hj
    subst hj'
    rw [World.cell?_alloc_mark]; rfl⟩⟩, fun y hy => by
      have : y = x := by simpa using hy
      rw [this]; exact hr⟩

theorem take_has (L : List Int) (k : Nat) (h : k < L.length) (v : Int) : (L.take (k + 1)).contains v = ((L.take k).contains v || (L[k] == v)) := by
  rw [List.take_succ_eq_append_getElem h, Bool.eq_iff_iff, List.contains_iff_mem, Bool.or_eq_true, List.contains_iff_mem, List.mem_append, List.mem_singleton, beq_iff_eq]
  exact ⟨fun e => e.imp_right Eq.symm, fun e => e.imp_right Eq.symm⟩

set_option maxRecDepth 100000 in
set_option maxHeartbeats 8000000 in
theorem cone_walk (c : PC.Circ) (vc : Value) (st sa sb : List UInt8) (l : Int) (w : World) (h : IsCirc w vc c) (hs : st.length ≤ 9223372036854775807) (ha : sa.length ≤ 9223372036854775807) (hb : sb.length ≤ 9223372036854775807) (hl : rng l) :
    Calls Tryd.prog 4 #[vc, .string ⟨st.toArray⟩, .string ⟨sa.toArray⟩, .string ⟨sb.toArray⟩, .int .i64 l] w fun e w' => e = .returned (.bool true) ∧ Below w.heap.size w w' := by
  have hVa := Lib.hid fun w1 (hb : Below w.heap.size w w1) => simValues_any c vc st sa w1 (h.mono hb) hs ha
  have hVb := Lib.hid fun w1 (hb1 : Below w.heap.size w w1) => simValues_any c vc st sb w1 (h.mono hb1) hs hb
  have hC := Lib.hid fun w1 T fr (hb : Below w.heap.size w w1) (hR : PC.Right c) => rCone_any c vc _ l (w1.alloc (.cells #[.int .i64 l] T fr)) (h.mono (hb.alloc hb.size _)) hR (ints_one w1 l T fr hl) hl
  obtain ⟨vi, vl, vo, vb, vv, va, vn, rfl, hp, hm⟩ := h
  obtain ⟨ai, capi, rfl, hi1, hi2, hi3⟩ := hp.inputs.open_
  clear hp
  have HI := Lib.hid hi3
  clear hi3
  have hb0 : Below w.heap.size w (w.alloc (.cells #[.int .i64 c.max, .slice ai c.inputs.length capi, vl, vo, vb, vv, va, vn] 27)) := (Below.refl _ _).alloc (Nat.le_refl _) _
  have hbx0 := Lib.hid (Box8.new w (.int .i64 c.max) (.slice ai c.inputs.length capi) vl vo vb vv va vn 27)
  obtain ⟨EA, hEA⟩ : ∃ x, x = PC.valuesE c st sa := ⟨_, rfl⟩
  obtain ⟨SA, hSA⟩ : ∃ x, x = PC.valuesS c st sa := ⟨_, rfl⟩
  obtain ⟨EB, hEB⟩ : ∃ x, x = PC.valuesE c st sb := ⟨_, rfl⟩
  obtain ⟨SB, hSB⟩ : ∃ x, x = PC.valuesS c st sb := ⟨_, rfl⟩
  rw [← hEA, ← hSA] at hVa
  rw [← hEB, ← hSB] at hVb
  have HEA := Lib.hid hEA
  have HSA := Lib.hid hSA
  have HEB := Lib.hid hEB
  have HSB := Lib.hid hSB
  clear hEA hSA hEB hSB
  go_enter Tryd.func4, Tryd.ntmps4
  go_wp2_with fail
  refine (alive07_any _).mono ?_
  rintro e w1 ⟨rfl, hb1⟩
  have hb01 := Below.of hb0 hb1
  have hbx1 := Lib.hid (hbx0.out.mono hb1)
  obtain ⟨q0, q1, q2, q3, q4, q5, q6, q7⟩ := hbx1.out
  clear hb0 hb1 hbx0
  go_wp2_with fail
  refine (hVa.out _ (by exact hb01)).mono ?_
  rintro e w2 ⟨rfl, hb2⟩
  have hb02 := Below.of hb01 hb2
  have hbx2 := Lib.hid (hbx1.out.mono hb2)
  clear hb01 hb2 hbx1 hVa q0 q1 q2 q3 q4 q5 q6 q7
  obtain ⟨q0, q1, q2, q3, q4, q5, q6, q7⟩ := hbx2.out
  go_wp2_with fail
  refine (hVb.out _ (by exact hb02)).mono ?_
  rintro e w3 ⟨rfl, hb3⟩
  have hb03 := Lib.hid (Below.of hb02 hb3)
  have hbx3 := Lib.hid (hbx2.out.mono hb3)
  clear hb02 hb3 hbx2 hVb q0 q1 q2 q3 q4 q5 q6 q7
  by_cases hz : EA = 0
  · by_cases hzb : EB = 0
    · by_cases hl0 : l < 0
      · have hd : decide (l < 0) = true := decide_eq_true hl0
        subst hz
        subst hzb
        go_wp2_with (go_at_call 11; refine (num07_any _ _).mono ?_; rintro e w5 ⟨rfl, rfl⟩)
        go_ret
        exact ⟨rfl, hb03.out⟩
      · have hd : decide (l < 0) = false := decide_eq_false hl0
        have hca := PC.chk_of_valuesE c st sa (HEA.out.symm.trans hz)
        have hcb := PC.chk_of_valuesE c st sb (HEB.out.symm.trans hzb)
        have hR := Lib.hid (PC.right_of c hca.1)
        have hSA0 : Hid (SA = PC.vals c st sa) := by show _ = _; rw [HSA.out, PC.valuesS, ← HEA.out, hz]; rfl
        have hSB0 : Hid (SB = PC.vals c st sb) := by show _ = _; rw [HSB.out, PC.valuesS, ← HEB.out, hzb]; rfl
        have hba : Hid (∀ b ∈ SA, b = 48 ∨ b = 49) := by
          rw [hSA0.out]
          exact PC.vals_bits c st sa (PC.bitsOk_mem hca.2.1).1 (PC.bitsOk_mem hca.2.2).1
        have hbb : Hid (∀ b ∈ SB, b = 48 ∨ b = 49) := by
          rw [hSB0.out]
          exact PC.vals_bits c st sb (PC.bitsOk_mem hcb.2.1).1 (PC.bitsOk_mem hcb.2.2).1
        have hla : SA.length ≤ 9223372036854775807 := by rw [hSA0.out, PC.vals_length]; have := hR.out.max1; omega
        have hlb : SB.length ≤ 9223372036854775807 := by rw [hSB0.out, PC.vals_length]; have := hR.out.max1; omega
        have hTa : Hid (∀ w1, Calls _ _ _ _ _) := fun w1 => simTrue_any SA l w1 hba.out hl hla
        have hTb : Hid (∀ w1, Calls _ _ _ _ _) := fun w1 => simTrue_any SB l w1 hbb.out hl hlb
        have hna : sa.length = c.inputs.length := (PC.bitsOk_mem hca.2.2).2
        have hnb : sb.length = c.inputs.length := (PC.bitsOk_mem hcb.2.2).2
        have hbs := Lib.hid hca.2.1
        have hbsa := Lib.hid hca.2.2
        have hbsb := Lib.hid hcb.2.2
        clear hca hcb hla hlb
        subst hz
        subst hzb
        obtain ⟨q0, q1, q2, q3, q4, q5, q6, q7⟩ := hbx3.out
        go_wp2_with (go_at_call 11; refine (num07_any _ _).mono ?_; rintro e w5 ⟨rfl, rfl⟩)
        refine (hC.out w3 _ _ (by exact hb03.out) hR.out).mono ?_
        rintro e w4 ⟨u, rfl, L, hL, hOk, hCl, hin, hb4⟩
        have hb04 := Lib.hid (Below.of (hb03.out.alloc hb03.out.size (.cells #[.int .i64 l] 3)) hb4)
        have hbx4 := Lib.hid ((hbx3.out.mono ((Below.refl w3.heap.size w3).alloc (Nat.le_refl _) (.cells #[.int .i64 l] 3))).mono hb4)
        obtain ⟨ul, capu, rfl, hu1, hu2, hu3⟩ := hL.open_
        have HU := Lib.hid hu3
        have HOk := Lib.hid hOk
        have HCl := Lib.hid hCl
        have HIn := Lib.hid hin
        clear hL hOk hCl hin hu3 q0 q1 q2 q3 q4 q5 q6 q7 hb4 hbx3 hb03 hC
        go_wp2_with fail
        go_loopg [16] c.inputs.length (fun gg s16 wr => ∃ k : Nat, k ≤ c.inputs.length ∧ c.inputs.length - k ≤ gg ∧ s16 = .int .i64 k ∧ Below w4.heap.size w4 wr ∧ Aside (∀ j (hj : j < k) (h : j < c.inputs.length), (PC.varOf c.inputs[j] : Int) ∈ L → sa[j]? = sb[j]?))
        case atStart => exact ⟨0, Nat.zero_le _, by omega, rfl, Below.refl _ _, fun j hj => absurd hj (Nat.not_lt_zero _)⟩
        case round =>
          obtain ⟨k, hk, hg, rfl, hbr, A⟩ := hrel
          have hbxr := Lib.hid (hbx4.out.mono hbr)
          by_cases hlt : k < c.inputs.length
          · have hmea : Hid (∀ g : Nat, c.inputs.length - k ≤ g → c.inputs.length - (k + 1) < g) := fun g h => by omega
            have HG := Lib.hid hg
            obtain ⟨b, off, rfl, hbs', hxr, c0⟩ := HI.out k hlt
            have c0 : Hid (wr.cell? ⟨b, off + k, none⟩ = some (.int .i64 c.inputs[k])) := ((Below.of hb04.out hbr).cell hbs').trans c0
            have hxd := hR.out.defs _ (PC.mem_defs_in c _ (List.getElem_mem hlt))
            have hmx := hR.out.max1
            have hstep : Hid (((PC.varOf c.inputs[k] : Int) ∈ L → sa[k]? = sb[k]?) → ∀ j (hj : j < k + 1) (h : j < c.inputs.length), (PC.varOf c.inputs[j] : Int) ∈ L → sa[j]? = sb[j]?) := fun hh j hj h => by
              by_cases e : j = k
              · subst e; exact hh
              · exact A.out j (by omega) h
            generalize hx : c.inputs[k] = x at *
            clear hx
            obtain ⟨u, rfl⟩ : ∃ u : Nat, x = 2 * (u : Int) := ⟨(x / 2).toNat, by omega⟩
            have hvo : PC.varOf (2 * (u : Int)) = u := by unfold PC.varOf; omega
            rw [hvo] at hstep
            have hq1 : (2 * (u : Int)).tdiv 2 = (u : Int) := Int.mul_tdiv_cancel_left _ (by omega)
            have hwu := Lib.hid (show wrap64 (u : Int) = (u : Int) by unfold wrap64; omega)
            have hltz : (k : Int) < (c.inputs.length : Int) := by omega
            have hka : k < sa.length := by omega
            have hkb : k < sb.length := by omega
            have hkz : (k : Int) < (sa.length : Int) := by omega
            have hkzb : (k : Int) < (sb.length : Int) := by omega
            obtain ⟨ya, hya⟩ : ∃ y, sa[k] = y := ⟨_, rfl⟩
            obtain ⟨yb, hyb⟩ : ∃ y, sb[k] = y := ⟨_, rfl⟩
            have hsa : Hid (sa[k]? = some ya) := by show _ = _; rw [List.getElem?_eq_getElem hka, hya]
            have hsb : Hid (sb[k]? = some yb) := by show _ = _; rw [List.getElem?_eq_getElem hkb, hyb]
            have HYA := Lib.hid hya
            have HYB := Lib.hid hyb
            clear hxd hmx hg hvo hya hyb A
            obtain ⟨q0, q1, q2, q3, q4, q5, q6, q7⟩ := hbxr.out
            obtain ⟨W2, hW2⟩ : ∃ W2, W2 = wr := ⟨_, rfl⟩
            subst hW2
            go_wp2_with fail
            clear q0 q1 q2 q3 q4 q5 q6 q7
            go_loopg [17, 18] L.length (fun gg s17 s18 wr => ∃ i : Nat, i ≤ L.length ∧ L.length - i ≤ gg ∧ s18 = .int .i64 i ∧ s17 = .bool ((L.take i).contains (u : Int)) ∧ Below W2.heap.size W2 wr)
            case atStart => exact ⟨0, Nat.zero_le _, by omega, rfl, by simp, Below.refl _ _⟩
            case round =>
              obtain ⟨i, hi, hgi, rfl, rfl, hbi⟩ := hrel
              have hbwi := Lib.hid (Below.of hbr hbi)
              have hbxi := Lib.hid (hbx4.out.mono hbwi.out)
              by_cases hlti : i < L.length
              · have hmei : Hid (∀ g : Nat, L.length - i ≤ g → L.length - (i + 1) < g) := fun g h => by omega
                obtain ⟨bu, offu, rfl, hbu, hur, d0⟩ := HU.out i hlti
                have d0 : ∀ y : Later wr, y.at_.cell? ⟨bu, offu + i, none⟩ = some (.int .i64 L[i]) := fun y => y.cell ((hbwi.out.cell hbu).trans d0)
                have hth := take_has L i hlti u
                generalize L[i] = z at *
                have c0 : ∀ y : Later wr, y.at_.cell? ⟨b, off + k, none⟩ = some (.int .i64 (2 * (u : Int))) := fun y => y.cell ((hbi.cell (World.block_lt_of_cell? _ _ c0.out)).trans c0.out)
                have hltiz : (i : Int) < (L.length : Int) := by omega
                cases ht : (L.take i).contains (u : Int) with
                | true =>
                  rw [ht] at hth
                  have HTH := Lib.hid hth
                  clear hth
                  go_wp2_with fail
                  refine wp_region_later (by kernel_rfl) (by kernel_rfl) ?_; (repeat (go_big_quiet_step (fail))); refine wpQuiet_nil ?_; rintro w3 ⟨⟨_, hb3⟩, rfl⟩
                  go_wp2_with fail
                  go_roundg (L.length - (i + 1))
                  case measure => exact hmei.out _ hgi
                  case rel => exact ⟨i + 1, by omega, by omega, by go_num, by rw [HTH.out]; rfl, Below.of hbi hb3⟩
                | false =>
                  rw [ht] at hth
                  have HTH := Lib.hid hth
                  clear hth
                  go_wp2_with fail
                  obtain ⟨q0, q1, q2, q3, q4, q5, q6, q7⟩ := hbxi.out.later
                  have hwu := hwu.out
                  refine wp_region_later (by kernel_rfl) (by kernel_rfl) ?_; (repeat (go_big_quiet_step (fail))); refine wpQuiet_nil ?_; rintro w3 ⟨⟨_, hb3⟩, rfl⟩
                  clear hwu q0 q1 q2 q3 q4 q5 q6 q7
                  go_wp2_with fail
                  go_roundg (L.length - (i + 1))
                  case measure => exact hmei.out _ hgi
                  case rel => exact ⟨i + 1, by omega, by omega, by go_num, by rw [HTH.out]; rfl, Below.of hbi hb3⟩
              · have hltiz : ¬ (i : Int) < (L.length : Int) := by omega
                obtain rfl : i = L.length := by omega
                rw [List.take_length]
                cases ht : L.contains (u : Int) with
                | false =>
                  have hnx : Hid (∀ j (hj : j < k + 1) (h : j < c.inputs.length), (PC.varOf c.inputs[j] : Int) ∈ L → sa[j]? = sb[j]?) := hstep.out fun hm => by
                    rw [List.contains_iff_mem.2 hm] at ht; cases ht
                  clear ht hstep
                  go_wp2_with fail
                  refine wp_region_later (by kernel_rfl) (by kernel_rfl) ?_; (repeat (go_big_quiet_step (fail))); refine wpQuiet_nil ?_; rintro w3 ⟨⟨_, hb3⟩, rfl⟩
                  go_wp2_with fail
                  go_roundg (c.inputs.length - (k + 1))
                  case measure => exact hmea.out _ HG.out
                  case rel => exact ⟨k + 1, by omega, by omega, by go_num, Below.of hbwi.out hb3, hnx.out⟩
                | true =>
                  by_cases hy : ya = yb
                  · have hnx : Hid (∀ j (hj : j < k + 1) (h : j < c.inputs.length), (PC.varOf c.inputs[j] : Int) ∈ L → sa[j]? = sb[j]?) := hstep.out fun _ => by
                      rw [hsa.out, hsb.out, hy]
                    have hne : ((ya.toNat : Int) != (yb.toNat : Int)) = false := by rw [hy]; simp
                    clear ht hstep
                    have hya := HYA.out
                    have hyb := HYB.out
                    go_wp2_with fail
                    refine wp_region_later (by kernel_rfl) (by kernel_rfl) ?_; (repeat (go_big_quiet_step (fail))); refine wpQuiet_nil ?_; rintro w3 ⟨⟨_, hb3⟩, rfl⟩
                    go_wp2_with fail
                    go_roundg (c.inputs.length - (k + 1))
                    case measure => exact hmea.out _ HG.out
                    case rel => exact ⟨k + 1, by omega, by omega, by go_num, Below.of hbwi.out hb3, hnx.out⟩
                  · have hne : ((ya.toNat : Int) != (yb.toNat : Int)) = true := by
                      have : ya.toNat ≠ yb.toNat := fun e => hy (UInt8.toNat_inj.1 e)
                      simp; omega
                    clear ht hstep
                    have hya := HYA.out
                    have hyb := HYB.out
                    go_wp2_with fail
                    refine wp_region_later (by kernel_rfl) (by kernel_rfl) ?_; (repeat (go_big_quiet_step (fail))); refine wpQuiet_nil ?_; rintro w3 ⟨⟨_, hb3⟩, rfl⟩
                    go_wp2_with fail
                    go_ret
                    exact ⟨rfl, Below.of hb04.out (Below.of hbwi.out hb3)⟩
          · have hltz : ¬ (k : Int) < (c.inputs.length : Int) := by omega
            obtain rfl : k = c.inputs.length := by omega
            have hT := PC.cone_tru c hR.out st sa sb L HCl.out hbs.out hbsa.out hbsb.out (fun j hj hm => A.out j hj hj hm) l HIn.out
            rw [← hSA0.out, ← hSB0.out] at hT
            rw [hT] at hTa
            generalize PC.tru SB l = T at *
            clear hT A
            obtain ⟨q0, q1, q2, q3, q4, q5, q6, q7⟩ := hbxr.out
            go_wp2_with fail
            refine (hTa.out _).mono ?_
            rintro e w5 ⟨rfl, hb5⟩
            go_wp2_with fail
            refine (hTb.out _).mono ?_
            rintro e w6 ⟨rfl, hb6⟩
            have eT : (T == T) = true := by simp
            go_wp2_with fail
            go_ret
            exact ⟨rfl, Below.of (Below.of (Below.of hb04.out hbr) hb5) hb6⟩
    · have hz1 : (EB == 0) = false := by simpa using hzb
      have hz2 : (EB != 0) = true := by simpa using hzb
      subst hz
      go_wp2_with (go_at_call 11; refine (num07_any _ _).mono ?_; rintro e w5 ⟨rfl, rfl⟩)
      go_ret
      exact ⟨rfl, hb03.out⟩
  · have hz1 : (EA == 0) = false := by simpa using hz
    have hz2 : (EA != 0) = true := by simpa using hz
    go_wp2_with (go_at_call 11; refine (num07_any _ _).mono ?_; rintro e w5 ⟨rfl, rfl⟩)
    go_ret
    exact ⟨rfl, hb03.out⟩

end Go.Proofs.YtmnionocehflmaaDoor
