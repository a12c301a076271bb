/- The walk of TernaryTells. -/
import Derived.Test.YtlakfaalpijhiaaDoorWalkY5
namespace Go.Proofs.YtlakfaalpijhiaaDoor
open Go.RowKit Go.Shelf
attribute [local simp] mk_get

/-- covers, up to a place -/
def covN (a b : List UInt8) (k : Nat) : Bool := decide (a.length = b.length) && ((a.zip b).take k).all fun p => p.1 == p.2 || p.1 == 120

theorem covN_step (a b : List UInt8) (k : Nat) (h : k < a.length) (h' : k < b.length) : covN a b (k + 1) = (covN a b k && (a[k] == b[k] || a[k] == 120)) := by
  unfold covN
  rw [List.take_succ_eq_append_getElem (by rw [List.length_zip]; omega), List.all_append]
  simp [Bool.and_assoc]

theorem covN_end (a b : List UInt8) : covN a b a.length = PC.covers a b := by
  unfold covN PC.covers
  by_cases h : a.length = b.length
  · rw [List.take_of_length_le (by rw [List.length_zip]; omega)]
  · rw [decide_eq_false h]; rfl

theorem covN_false (a b : List UInt8) (k : Nat) (h : covN a b k = false) : PC.covers a b = false := by
  unfold covN at h
  unfold PC.covers
  by_cases hl : a.length = b.length
  · rw [decide_eq_true hl, Bool.true_and] at *
    rw [List.all_eq_false] at *
    obtain ⟨x, hx, hp⟩ := h
    exact ⟨x, List.mem_of_mem_take hx, hp⟩
  · rw [decide_eq_false hl]; rfl

set_option maxRecDepth 100000 in
set_option maxHeartbeats 8000000 in
theorem terTells_walk (c : PC.Circ) (vc : Value) (st inp : List UInt8) (l : Int) (w : World) (h : IsCirc w vc c) (hf : Fits c) (hs : st.length ≤ 9223372036854775806) (hi : inp.length ≤ 9223372036854775806) (hl : rng l) :
    Calls Tryd.prog 4 #[vc, .string ⟨st.toArray⟩, .string ⟨inp.toArray⟩, .int .i64 l] w fun e w' => e = .returned (.bool true) ∧ Below w.heap.size w w' := by
  have hV := Lib.hid fun w1 (hb : Below w.heap.size w w1) => terValues_any c vc st inp w1 (h.mono hb) (by omega) (by omega)
  have hR := Lib.hid fun w1 (hb : Below w.heap.size w w1) => rTernary_any c vc st inp w1 (h.mono hb) hf hs hi
  have hN := Lib.hid fun w1 (hb : Below w.heap.size w w1) => terNext_any c vc st inp w1 (h.mono hb) (by omega) (by omega)
  have hCv := Lib.hid fun w1 => terCovers_any st inp w1 (by omega) (by omega)
  obtain ⟨vi, vl, vo, vb, vv, va, vn, rfl, hp, hm⟩ := h
  obtain ⟨al, capl, rfl, hl1, hl2, hl3⟩ := hp.latches.open_
  have HL := Lib.hid hl3
  clear hp hl3
  have hT1 := Lib.hid fun w1 => terTrits_any st c.latches.length w1 (by omega) (by omega)
  have hT2 := Lib.hid fun w1 => rTrits_any st c.latches.length w1 (by omega)
  have hb0 := Lib.hid ((Below.refl w.heap.size w).alloc (Nat.le_refl _) (.cells #[.int .i64 c.max, vi, .slice al c.latches.length capl, vo, vb, vv, va, vn] 27))
  have hbx0 := Lib.hid (Box8.new w (.int .i64 c.max) vi (.slice al c.latches.length capl) vo vb vv va vn 27)
  obtain ⟨VE, hVE⟩ : ∃ x, x = PC.ternE c st inp := ⟨_, rfl⟩
  obtain ⟨VS, hVS⟩ : ∃ x, x = PC.ternS c st inp := ⟨_, rfl⟩
  obtain ⟨NS, hNS⟩ : ∃ x, x = PC.tnextS c st inp := ⟨_, rfl⟩
  rw [← hVE, ← hVS] at hV hR
  rw [← hVE, ← hNS] at hN
  have HVE := Lib.hid hVE
  have HVS := Lib.hid hVS
  have HNS := Lib.hid hNS
  clear hVE hVS hNS
  generalize PC.tritsOk st c.latches.length = TB at *
  go_enter Tryd.func4, Tryd.ntmps4
  go_wp2_with fail
  refine (hV.out _ hb0.out).mono ?_
  rintro e w1 ⟨rfl, hb1⟩
  have hbA := Lib.hid (Below.of hb0.out hb1)
  have hbx1 := Lib.hid (hbx0.out.mono hb1)
  clear hb0 hb1 hbx0 hV
  obtain ⟨q0, q1, q2, q3, q4, q5, q6, q7⟩ := hbx1.out
  go_wp2_with fail
  refine (hR.out _ hbA.out).mono ?_
  rintro e w2 ⟨rfl, hb2⟩
  have hbB := Lib.hid (Below.of hbA.out hb2)
  have hbx2 := Lib.hid (hbx1.out.mono hb2)
  clear hbA hb2 hbx1 hR q0 q1 q2 q3 q4 q5 q6 q7
  obtain ⟨q0, q1, q2, q3, q4, q5, q6, q7⟩ := hbx2.out
  go_wp2_with fail
  refine (hN.out _ hbB.out).mono ?_
  rintro e w3 ⟨rfl, hb3⟩
  have hbC := Lib.hid (Below.of hbB.out hb3)
  have hbx3 := Lib.hid (hbx2.out.mono hb3)
  clear hbB hb3 hbx2 hN q0 q1 q2 q3 q4 q5 q6 q7
  obtain ⟨W3, hW3⟩ : ∃ W, W = w3 := ⟨_, rfl⟩
  subst hW3
  have hNum := Lib.hid fun W => num08_any VE W
  have eV : (VS != VS) = false := by simp
  have eN : (NS != NS) = false := by simp
  have eE : (VE != VE) = false := by simp
  have eB : (TB != TB) = false := by simp
  by_cases hz : VE = 0
  · have e0 := HVE.out.symm.trans hz
    have hck := PC.chk_of_ternE c st inp e0
    have hRt := PC.right_of c hck.1
    have hll := hRt.lats
    have eVS : VS = PC.tvals c st inp := by rw [HVS.out, PC.ternS, if_pos e0]
    have hVl : VS.length ≤ 9223372036854775807 := by rw [eVS, PC.tvals_length]; have := hRt.max1; omega
    have hVt : Hid (∀ b ∈ VS, PC.isTrit b = true) := by
      rw [eVS]
      exact PC.tvals_trits c st inp (PC.tritsOk_mem hck.2.1).1 (PC.tritsOk_mem hck.2.2).1
    have hNS0 : Hid (NS = c.latches.map fun x => PC.ofT VS x.next) := by
      show _ = _
      rw [HNS.out, PC.tnextS, if_pos e0, ← eVS]; rfl
    have HNl : Hid (NS.length = c.latches.length) := by show _ = _; rw [hNS0.out, List.length_map]
    clear e0 hck hRt eVS
    have hO1 := Lib.hid fun w1 => terOf_any VS l w1 hl hVl
    have hO2 := Lib.hid fun w1 => rOf_any VS l w1 hl hVl hVt.out
    generalize PC.ofT VS l = ox at *
    have eX : ((ox.toNat : Int) == (ox.toNat : Int)) = true := by simp
    subst hz
    go_wp2_with fail
    go_loopg [15, 16] c.latches.length (fun gg s15 s16 wr => ∃ k : Nat, k ≤ c.latches.length ∧ c.latches.length - k ≤ gg ∧ s15 = .string ⟨(NS.take k).toArray⟩ ∧ s16 = .int .i64 k ∧ Below W3.heap.size W3 wr)
    case atStart => exact ⟨0, Nat.zero_le _, by omega, rfl, rfl, Below.refl _ _⟩
    case round =>
      obtain ⟨k, hk, hg, rfl, rfl, hbr⟩ := hrel
      have hbWr := Lib.hid (Below.of hbC.out hbr)
      have hbxr := Lib.hid (hbx3.out.mono hbr)
      obtain ⟨q0, q1, q2, q3, q4, q5, q6, q7⟩ := hbxr.out
      by_cases hlt : k < c.latches.length
      · have hmea : Hid (∀ g : Nat, c.latches.length - k ≤ g → c.latches.length - (k + 1) < g) := fun g h => by omega
        have HG := Lib.hid hg
        obtain ⟨b, off, rfl, hbs', ⟨_, hnr, _⟩, c0, c1, c2⟩ := HL.out k hlt
        have c1 := (hbWr.out.cell hbs').trans c1
        clear c0 c2
        have hkn : k < NS.length := by rw [HNl.out]; exact hlt
        have hnx : NS[k] = PC.ofT VS c.latches[k].next := by simp only [hNS0.out, List.getElem_map]
        generalize hx : c.latches[k].next = xn at *
        clear hx
        have hst : NS.take (k + 1) = NS.take k ++ [PC.ofT VS xn] := by rw [List.take_succ_eq_append_getElem hkn, hnx]
        have hcat : (ByteArray.mk (NS.take k).toArray) ++ (ByteArray.mk #[PC.ofT VS xn]) = ⟨(NS.take (k + 1)).toArray⟩ := by rw [hst]; exact cat_eq _ [_]
        have htl : (NS.take k).length = k := by rw [List.length_take]; omega
        have hk1 : k + 1 ≤ 9223372036854775807 := by omega
        have hk2 : (k : Int) + 1 ≤ 9223372036854775807 := by omega
        have hltz : (k : Int) < (c.latches.length : Int) := by omega
        have hO := Lib.hid (rOf_any VS xn wr hnr hVl hVt.out)
        generalize PC.ofT VS xn = y at *
        have hcv : (convert 45 9 (.slice (some ⟨wr.heap.size, 0, none⟩) 1 1)).run Tryd.prog (wr.alloc (.cells #[.int .u8 (y.toNat : Int)] 5)) = .ok (.string ⟨#[y]⟩) (wr.alloc (.cells #[.int .u8 (y.toNat : Int)] 5)) := by
          refine run_convert_bytes_back (wr.alloc (.cells #[.int .u8 (y.toNat : Int)] 5)) 45 9 5 ⟨wr.heap.size, 0, none⟩ 1 [y] Tryd.underlying45 Tryd.underlying5 Tryd.underlying9 fun j hj => ?_
          have hj0 : j = 0 := by simp at hj; omega
          subst hj0
          exact World.cell?_alloc_mark _ _ _ _ _
        obtain ⟨X, hX⟩ : ∃ X, X = NS.take k := ⟨_, rfl⟩
        rw [← hX] at hcat htl ⊢
        clear hnx hst hX hg
        go_wp2_with (go_at_call 18; refine hO.out.mono ?_; rintro e w4 ⟨rfl, rfl⟩)
        go_roundg (c.latches.length - (k + 1))
        case measure => exact hmea.out _ HG.out
        case rel => exact ⟨k + 1, by omega, by omega, rfl, by go_num, hbr.alloc hbr.size _⟩
      · have hltz : ¬ (k : Int) < (c.latches.length : Int) := by omega
        obtain rfl : k = c.latches.length := by omega
        have hnl := HNl.out
        have hNk : NS.take c.latches.length = NS := by rw [← hnl, List.take_length]
        rw [hNk]
        clear hnl hNk hg hk hlt
        obtain ⟨V1, hV1⟩ : ∃ V, V = wr := ⟨_, rfl⟩
        subst hV1
        by_cases hle : st.length = inp.length
        · have hleb : ((st.length : Int) == (inp.length : Int)) = true := by simp [hle]
          have hc0 : Hid (covN st inp 0 = true) := by show _ = _; simp [covN, hle]
          go_wp2_with fail
          clear q0 q1 q2 q3 q4 q5 q6 q7
          go_loopg [17, 18] st.length (fun gg s17 s18 wr => ∃ k : Nat, k ≤ st.length ∧ st.length - k ≤ gg ∧ s18 = .int .i64 k ∧ s17 = .bool (covN st inp k) ∧ Below V1.heap.size V1 wr)
          case atStart => exact ⟨0, Nat.zero_le _, by omega, rfl, by rw [hc0.out], Below.refl _ _⟩
          case round =>
            obtain ⟨k2, hk2, hg2, rfl, rfl, hbr2⟩ := hrel
            have hbW2 := Lib.hid (Below.of hbWr.out hbr2)
            have hbX2 := Lib.hid (hbxr.out.mono hbr2)
            obtain ⟨V, hVV⟩ : ∃ V, V = wr := ⟨_, rfl⟩
            subst hVV
            by_cases hlt2 : k2 < st.length
            · have hltz2 : (k2 : Int) < (st.length : Int) := by omega
              have hlti2 : (k2 : Int) < (inp.length : Int) := by omega
              have hlti2' : k2 < inp.length := by omega
              cases hcn : covN st inp k2 with
              | true =>
                have hmea2 : Hid (∀ g : Nat, st.length - k2 ≤ g → st.length - (k2 + 1) < g) := fun g h => by omega
                have HG2 := Lib.hid hg2
                have hstp := covN_step st inp k2 hlt2 hlti2'
                rw [hcn, Bool.true_and] at hstp
                obtain ⟨x, hx⟩ : ∃ x, st[k2] = x := ⟨_, rfl⟩
                obtain ⟨y, hy⟩ : ∃ y, inp[k2] = y := ⟨_, rfl⟩
                rw [hx, hy] at hstp
                clear hcn hg2
                by_cases h1 : x = y
                · have e1 : ((x.toNat : Int) == (y.toNat : Int)) = true := by rw [h1]; simp
                  have hs1 : Hid (covN st inp (k2 + 1) = true) := by show _ = _; rw [hstp, h1]; simp
                  clear h1 hstp
                  go_wp2_with fail
                  refine wp_region_later (by kernel_rfl) (by kernel_rfl) ?_; (repeat (go_big_quiet_step (fail))); refine wpQuiet_nil ?_; rintro w3 ⟨⟨_, hb3⟩, rfl⟩
                  go_wp2_with fail
                  go_roundg (st.length - (k2 + 1))
                  case measure => exact hmea2.out _ HG2.out
                  case rel => exact ⟨k2 + 1, by omega, by omega, by go_num, by rw [hs1.out], Below.of hbr2 hb3⟩
                · have e1 : ((x.toNat : Int) == (y.toNat : Int)) = false := beq_eq_false_iff_ne.2 fun e => h1 (UInt8.toNat_inj.1 (by omega))
                  by_cases h2 : x = 120
                  · have hs1 : Hid (covN st inp (k2 + 1) = true) := by show _ = _; rw [hstp, h2]; simp
                    have e2 : ((x.toNat : Int) == 120) = true := by rw [h2]; rfl
                    clear h1 h2 hstp
                    go_wp2_with fail
                    refine wp_region_later (by kernel_rfl) (by kernel_rfl) ?_; (repeat (go_big_quiet_step (fail))); refine wpQuiet_nil ?_; rintro w3 ⟨⟨_, hb3⟩, rfl⟩
                    go_wp2_with fail
                    go_roundg (st.length - (k2 + 1))
                    case measure => exact hmea2.out _ HG2.out
                    case rel => exact ⟨k2 + 1, by omega, by omega, by go_num, by rw [hs1.out], Below.of hbr2 hb3⟩
                  · have hs1 : Hid (covN st inp (k2 + 1) = false) := by
                      show _ = _
                      rw [hstp, Bool.or_eq_false_iff]
                      exact ⟨beq_eq_false_iff_ne.2 h1, beq_eq_false_iff_ne.2 h2⟩
                    have e2 : ((x.toNat : Int) == 120) = false := beq_eq_false_iff_ne.2 fun e => h2 ((u8_120 x).1 e)
                    clear h1 h2 hstp
                    go_wp2_with fail
                    refine wp_region_later (by kernel_rfl) (by kernel_rfl) ?_; (repeat (go_big_quiet_step (fail))); refine wpQuiet_nil ?_; rintro w3 ⟨⟨_, hb3⟩, rfl⟩
                    go_wp2_with fail
                    go_roundg (st.length - (k2 + 1))
                    case measure => exact hmea2.out _ HG2.out
                    case rel => exact ⟨k2 + 1, by omega, by omega, by go_num, by rw [hs1.out], Below.of hbr2 hb3⟩
              | false =>
                have hcf := covN_false st inp k2 hcn
                rw [hcf] at hCv
                clear hcf hcn
                have hA1 : ∀ y : Later V, Calls _ _ _ _ _ := fun y => hNum.out y.at_
                have hA2 : ∀ y : Later V, Calls _ _ _ _ _ := fun y => hCv.out y.at_
                have hA3 : ∀ y : Later V, Calls _ _ _ _ _ := fun y => hT1.out y.at_
                have hA4 : ∀ y : Later V, Calls _ _ _ _ _ := fun y => hT2.out y.at_
                have hA5 : ∀ y : Later V, Calls _ _ _ _ _ := fun y => alive08_any y.at_
                obtain ⟨q0, q1, q2, q3, q4, q5, q6, q7⟩ := hbX2.out.later
                go_wp2_with fail
                refine wp_region_later (by kernel_rfl) (by kernel_rfl) ?_; (repeat (go_big_quiet_step ((first | (go_at_call 10; with_reducible exact Calls.later_same (hA1 _)) | (go_at_call 13; with_reducible exact Calls.later (hA2 _)) | (go_at_call 19; with_reducible exact Calls.later (hA3 _)) | (go_at_call 20; with_reducible exact Calls.later_same (hA4 _)) | (go_at_call 8; with_reducible exact Calls.later (hA5 _)))))); refine wpQuiet_nil ?_; rintro w3 ⟨⟨_, hb3⟩, rfl⟩
                clear hA1 hA2 hA3 hA4 hA5 q0 q1 q2 q3 q4 q5 q6 q7
                go_wp2_with (first | (go_at_call 21; refine (hO1.out _).mono ?_; rintro e w9 ⟨rfl, rfl⟩) | (go_at_call 18; refine (hO2.out _).mono ?_; rintro e w9 ⟨rfl, rfl⟩))
                go_ret
                exact ⟨rfl, Below.of hbW2.out hb3⟩
            · have hltz2 : ¬ (k2 : Int) < (st.length : Int) := by omega
              obtain rfl : k2 = st.length := by omega
              have hce := covN_end st inp
              cases hcn : covN st inp st.length with
              | true =>
                rw [← hce, hcn] at hCv
                clear hce hcn
                have hA1 : ∀ y : Later V, Calls _ _ _ _ _ := fun y => hNum.out y.at_
                have hA2 : ∀ y : Later V, Calls _ _ _ _ _ := fun y => hCv.out y.at_
                have hA3 : ∀ y : Later V, Calls _ _ _ _ _ := fun y => hT1.out y.at_
                have hA4 : ∀ y : Later V, Calls _ _ _ _ _ := fun y => hT2.out y.at_
                have hA5 : ∀ y : Later V, Calls _ _ _ _ _ := fun y => alive08_any y.at_
                obtain ⟨q0, q1, q2, q3, q4, q5, q6, q7⟩ := hbX2.out.later
                go_wp2_with fail
                refine wp_region_later (by kernel_rfl) (by kernel_rfl) ?_; (repeat (go_big_quiet_step ((first | (go_at_call 10; with_reducible exact Calls.later_same (hA1 _)) | (go_at_call 13; with_reducible exact Calls.later (hA2 _)) | (go_at_call 19; with_reducible exact Calls.later (hA3 _)) | (go_at_call 20; with_reducible exact Calls.later_same (hA4 _)) | (go_at_call 8; with_reducible exact Calls.later (hA5 _)))))); refine wpQuiet_nil ?_; rintro w3 ⟨⟨_, hb3⟩, rfl⟩
                clear hA1 hA2 hA3 hA4 hA5 q0 q1 q2 q3 q4 q5 q6 q7
                go_wp2_with (first | (go_at_call 21; refine (hO1.out _).mono ?_; rintro e w9 ⟨rfl, rfl⟩) | (go_at_call 18; refine (hO2.out _).mono ?_; rintro e w9 ⟨rfl, rfl⟩))
                go_ret
                exact ⟨rfl, Below.of hbW2.out hb3⟩
              | false =>
                rw [← hce, hcn] at hCv
                clear hce hcn
                have hA1 : ∀ y : Later V, Calls _ _ _ _ _ := fun y => hNum.out y.at_
                have hA2 : ∀ y : Later V, Calls _ _ _ _ _ := fun y => hCv.out y.at_
                have hA3 : ∀ y : Later V, Calls _ _ _ _ _ := fun y => hT1.out y.at_
                have hA4 : ∀ y : Later V, Calls _ _ _ _ _ := fun y => hT2.out y.at_
                have hA5 : ∀ y : Later V, Calls _ _ _ _ _ := fun y => alive08_any y.at_
                obtain ⟨q0, q1, q2, q3, q4, q5, q6, q7⟩ := hbX2.out.later
                go_wp2_with fail
                refine wp_region_later (by kernel_rfl) (by kernel_rfl) ?_; (repeat (go_big_quiet_step ((first | (go_at_call 10; with_reducible exact Calls.later_same (hA1 _)) | (go_at_call 13; with_reducible exact Calls.later (hA2 _)) | (go_at_call 19; with_reducible exact Calls.later (hA3 _)) | (go_at_call 20; with_reducible exact Calls.later_same (hA4 _)) | (go_at_call 8; with_reducible exact Calls.later (hA5 _)))))); refine wpQuiet_nil ?_; rintro w3 ⟨⟨_, hb3⟩, rfl⟩
                clear hA1 hA2 hA3 hA4 hA5 q0 q1 q2 q3 q4 q5 q6 q7
                go_wp2_with (first | (go_at_call 21; refine (hO1.out _).mono ?_; rintro e w9 ⟨rfl, rfl⟩) | (go_at_call 18; refine (hO2.out _).mono ?_; rintro e w9 ⟨rfl, rfl⟩))
                go_ret
                exact ⟨rfl, Below.of hbW2.out hb3⟩
        · have hleb : ((st.length : Int) == (inp.length : Int)) = false := beq_eq_false_iff_ne.2 (by omega)
          have hcf : PC.covers st inp = false := by unfold PC.covers; rw [decide_eq_false hle]; rfl
          rw [hcf] at hCv
          clear hcf
          go_wp2_with fail
          clear q0 q1 q2 q3 q4 q5 q6 q7
          go_loopg [17, 18] 0 (fun _ s17 s18 wr => s18 = .int .i64 0 ∧ s17 = .bool false ∧ V1 = wr)
          case atStart => exact ⟨rfl, rfl, rfl⟩
          case round =>
            obtain ⟨rfl, rfl, rfl⟩ := hrel
            by_cases h0 : st.length = 0
            · have hltz2 : ¬ (0 : Int) < (st.length : Int) := by omega
              have hA1 : ∀ y : Later V1, Calls _ _ _ _ _ := fun y => hNum.out y.at_
              have hA2 : ∀ y : Later V1, Calls _ _ _ _ _ := fun y => hCv.out y.at_
              have hA3 : ∀ y : Later V1, Calls _ _ _ _ _ := fun y => hT1.out y.at_
              have hA4 : ∀ y : Later V1, Calls _ _ _ _ _ := fun y => hT2.out y.at_
              have hA5 : ∀ y : Later V1, Calls _ _ _ _ _ := fun y => alive08_any y.at_
              obtain ⟨q0, q1, q2, q3, q4, q5, q6, q7⟩ := hbxr.out.later
              go_wp2_with fail
              refine wp_region_later (by kernel_rfl) (by kernel_rfl) ?_; (repeat (go_big_quiet_step ((first | (go_at_call 10; with_reducible exact Calls.later_same (hA1 _)) | (go_at_call 13; with_reducible exact Calls.later (hA2 _)) | (go_at_call 19; with_reducible exact Calls.later (hA3 _)) | (go_at_call 20; with_reducible exact Calls.later_same (hA4 _)) | (go_at_call 8; with_reducible exact Calls.later (hA5 _)))))); refine wpQuiet_nil ?_; rintro w3 ⟨⟨_, hb3⟩, rfl⟩
              clear hA1 hA2 hA3 hA4 hA5 q0 q1 q2 q3 q4 q5 q6 q7
              go_wp2_with (first | (go_at_call 21; refine (hO1.out _).mono ?_; rintro e w9 ⟨rfl, rfl⟩) | (go_at_call 18; refine (hO2.out _).mono ?_; rintro e w9 ⟨rfl, rfl⟩))
              go_ret
              exact ⟨rfl, Below.of hbWr.out hb3⟩
            · have hltz2 : (0 : Int) < (st.length : Int) := by omega
              have hA1 : ∀ y : Later V1, Calls _ _ _ _ _ := fun y => hNum.out y.at_
              have hA2 : ∀ y : Later V1, Calls _ _ _ _ _ := fun y => hCv.out y.at_
              have hA3 : ∀ y : Later V1, Calls _ _ _ _ _ := fun y => hT1.out y.at_
              have hA4 : ∀ y : Later V1, Calls _ _ _ _ _ := fun y => hT2.out y.at_
              have hA5 : ∀ y : Later V1, Calls _ _ _ _ _ := fun y => alive08_any y.at_
              obtain ⟨q0, q1, q2, q3, q4, q5, q6, q7⟩ := hbxr.out.later
              go_wp2_with fail
              refine wp_region_later (by kernel_rfl) (by kernel_rfl) ?_; (repeat (go_big_quiet_step ((first | (go_at_call 10; with_reducible exact Calls.later_same (hA1 _)) | (go_at_call 13; with_reducible exact Calls.later (hA2 _)) | (go_at_call 19; with_reducible exact Calls.later (hA3 _)) | (go_at_call 20; with_reducible exact Calls.later_same (hA4 _)) | (go_at_call 8; with_reducible exact Calls.later (hA5 _)))))); refine wpQuiet_nil ?_; rintro w3 ⟨⟨_, hb3⟩, rfl⟩
              clear hA1 hA2 hA3 hA4 hA5 q0 q1 q2 q3 q4 q5 q6 q7
              go_wp2_with (first | (go_at_call 21; refine (hO1.out _).mono ?_; rintro e w9 ⟨rfl, rfl⟩) | (go_at_call 18; refine (hO2.out _).mono ?_; rintro e w9 ⟨rfl, rfl⟩))
              go_ret
              exact ⟨rfl, Below.of hbWr.out hb3⟩
  · have hz2 : (VE != 0) = true := by simpa using hz
    have hz1 : (VE == 0) = false := by simpa using hz
    have hNn : NS = [] := by rw [HNS.out, PC.tnextS, ← HVE.out, if_neg hz]
    subst hNn
    clear hz
    go_wp2_with fail
    go_loopg [15, 16] 0 (fun _ s15 s16 wr => s15 = .string ⟨#[]⟩ ∧ s16 = .int .i64 0 ∧ W3 = wr)
    case atStart => exact ⟨rfl, rfl, rfl⟩
    case round =>
      obtain ⟨rfl, rfl, rfl⟩ := hrel
      obtain ⟨q0, q1, q2, q3, q4, q5, q6, q7⟩ := hbx3.out
      by_cases h0 : c.latches.length = 0
      · have hltz : ¬ (0 : Int) < (c.latches.length : Int) := by omega
        clear h0
        by_cases hle : st.length = inp.length
        · have hleb : ((st.length : Int) == (inp.length : Int)) = true := by simp [hle]
          have hc0 : Hid (covN st inp 0 = true) := by show _ = _; simp [covN, hle]
          go_wp2_with fail
          clear q0 q1 q2 q3 q4 q5 q6 q7
          go_loopg [17, 18] st.length (fun gg s17 s18 wr => ∃ k : Nat, k ≤ st.length ∧ st.length - k ≤ gg ∧ s18 = .int .i64 k ∧ s17 = .bool (covN st inp k) ∧ Below W3.heap.size W3 wr)
          case atStart => exact ⟨0, Nat.zero_le _, by omega, rfl, by rw [hc0.out], Below.refl _ _⟩
          case round =>
            obtain ⟨k2, hk2, hg2, rfl, rfl, hbr2⟩ := hrel
            have hbW2 := Lib.hid (Below.of hbC.out hbr2)
            have hbX2 := Lib.hid (hbx3.out.mono hbr2)
            obtain ⟨V, hVV⟩ : ∃ V, V = wr := ⟨_, rfl⟩
            subst hVV
            by_cases hlt2 : k2 < st.length
            · have hltz2 : (k2 : Int) < (st.length : Int) := by omega
              have hlti2 : (k2 : Int) < (inp.length : Int) := by omega
              have hlti2' : k2 < inp.length := by omega
              cases hcn : covN st inp k2 with
              | true =>
                have hmea2 : Hid (∀ g : Nat, st.length - k2 ≤ g → st.length - (k2 + 1) < g) := fun g h => by omega
                have HG2 := Lib.hid hg2
                have hstp := covN_step st inp k2 hlt2 hlti2'
                rw [hcn, Bool.true_and] at hstp
                obtain ⟨x, hx⟩ : ∃ x, st[k2] = x := ⟨_, rfl⟩
                obtain ⟨y, hy⟩ : ∃ y, inp[k2] = y := ⟨_, rfl⟩
                rw [hx, hy] at hstp
                clear hcn hg2
                by_cases h1 : x = y
                · have e1 : ((x.toNat : Int) == (y.toNat : Int)) = true := by rw [h1]; simp
                  have hs1 : Hid (covN st inp (k2 + 1) = true) := by show _ = _; rw [hstp, h1]; simp
                  clear h1 hstp
                  go_wp2_with fail
                  refine wp_region_later (by kernel_rfl) (by kernel_rfl) ?_; (repeat (go_big_quiet_step (fail))); refine wpQuiet_nil ?_; rintro w3 ⟨⟨_, hb3⟩, rfl⟩
                  go_wp2_with fail
                  go_roundg (st.length - (k2 + 1))
                  case measure => exact hmea2.out _ HG2.out
                  case rel => exact ⟨k2 + 1, by omega, by omega, by go_num, by rw [hs1.out], Below.of hbr2 hb3⟩
                · have e1 : ((x.toNat : Int) == (y.toNat : Int)) = false := beq_eq_false_iff_ne.2 fun e => h1 (UInt8.toNat_inj.1 (by omega))
                  by_cases h2 : x = 120
                  · have hs1 : Hid (covN st inp (k2 + 1) = true) := by show _ = _; rw [hstp, h2]; simp
                    have e2 : ((x.toNat : Int) == 120) = true := by rw [h2]; rfl
                    clear h1 h2 hstp
                    go_wp2_with fail
                    refine wp_region_later (by kernel_rfl) (by kernel_rfl) ?_; (repeat (go_big_quiet_step (fail))); refine wpQuiet_nil ?_; rintro w3 ⟨⟨_, hb3⟩, rfl⟩
                    go_wp2_with fail
                    go_roundg (st.length - (k2 + 1))
                    case measure => exact hmea2.out _ HG2.out
                    case rel => exact ⟨k2 + 1, by omega, by omega, by go_num, by rw [hs1.out], Below.of hbr2 hb3⟩
                  · have hs1 : Hid (covN st inp (k2 + 1) = false) := by
                      show _ = _
                      rw [hstp, Bool.or_eq_false_iff]
                      exact ⟨beq_eq_false_iff_ne.2 h1, beq_eq_false_iff_ne.2 h2⟩
                    have e2 : ((x.toNat : Int) == 120) = false := beq_eq_false_iff_ne.2 fun e => h2 ((u8_120 x).1 e)
                    clear h1 h2 hstp
                    go_wp2_with fail
                    refine wp_region_later (by kernel_rfl) (by kernel_rfl) ?_; (repeat (go_big_quiet_step (fail))); refine wpQuiet_nil ?_; rintro w3 ⟨⟨_, hb3⟩, rfl⟩
                    go_wp2_with fail
                    go_roundg (st.length - (k2 + 1))
                    case measure => exact hmea2.out _ HG2.out
                    case rel => exact ⟨k2 + 1, by omega, by omega, by go_num, by rw [hs1.out], Below.of hbr2 hb3⟩
              | false =>
                have hcf := covN_false st inp k2 hcn
                rw [hcf] at hCv
                clear hcf hcn
                have hA1 : ∀ y : Later V, Calls _ _ _ _ _ := fun y => hNum.out y.at_
                have hA2 : ∀ y : Later V, Calls _ _ _ _ _ := fun y => hCv.out y.at_
                have hA3 : ∀ y : Later V, Calls _ _ _ _ _ := fun y => hT1.out y.at_
                have hA4 : ∀ y : Later V, Calls _ _ _ _ _ := fun y => hT2.out y.at_
                have hA5 : ∀ y : Later V, Calls _ _ _ _ _ := fun y => alive08_any y.at_
                obtain ⟨q0, q1, q2, q3, q4, q5, q6, q7⟩ := hbX2.out.later
                go_wp2_with fail
                refine wp_region_later (by kernel_rfl) (by kernel_rfl) ?_; (repeat (go_big_quiet_step ((first | (go_at_call 10; with_reducible exact Calls.later_same (hA1 _)) | (go_at_call 13; with_reducible exact Calls.later (hA2 _)) | (go_at_call 19; with_reducible exact Calls.later (hA3 _)) | (go_at_call 20; with_reducible exact Calls.later_same (hA4 _)) | (go_at_call 8; with_reducible exact Calls.later (hA5 _)))))); refine wpQuiet_nil ?_; rintro w3 ⟨⟨_, hb3⟩, rfl⟩
                clear hA1 hA2 hA3 hA4 hA5 q0 q1 q2 q3 q4 q5 q6 q7
                go_wp2_with fail
                go_ret
                exact ⟨rfl, Below.of hbW2.out hb3⟩
            · have hltz2 : ¬ (k2 : Int) < (st.length : Int) := by omega
              obtain rfl : k2 = st.length := by omega
              have hce := covN_end st inp
              cases hcn : covN st inp st.length with
              | true =>
                rw [← hce, hcn] at hCv
                clear hce hcn
                have hA1 : ∀ y : Later V, Calls _ _ _ _ _ := fun y => hNum.out y.at_
                have hA2 : ∀ y : Later V, Calls _ _ _ _ _ := fun y => hCv.out y.at_
                have hA3 : ∀ y : Later V, Calls _ _ _ _ _ := fun y => hT1.out y.at_
                have hA4 : ∀ y : Later V, Calls _ _ _ _ _ := fun y => hT2.out y.at_
                have hA5 : ∀ y : Later V, Calls _ _ _ _ _ := fun y => alive08_any y.at_
                obtain ⟨q0, q1, q2, q3, q4, q5, q6, q7⟩ := hbX2.out.later
                go_wp2_with fail
                refine wp_region_later (by kernel_rfl) (by kernel_rfl) ?_; (repeat (go_big_quiet_step ((first | (go_at_call 10; with_reducible exact Calls.later_same (hA1 _)) | (go_at_call 13; with_reducible exact Calls.later (hA2 _)) | (go_at_call 19; with_reducible exact Calls.later (hA3 _)) | (go_at_call 20; with_reducible exact Calls.later_same (hA4 _)) | (go_at_call 8; with_reducible exact Calls.later (hA5 _)))))); refine wpQuiet_nil ?_; rintro w3 ⟨⟨_, hb3⟩, rfl⟩
                clear hA1 hA2 hA3 hA4 hA5 q0 q1 q2 q3 q4 q5 q6 q7
                go_wp2_with fail
                go_ret
                exact ⟨rfl, Below.of hbW2.out hb3⟩
              | false =>
                rw [← hce, hcn] at hCv
                clear hce hcn
                have hA1 : ∀ y : Later V, Calls _ _ _ _ _ := fun y => hNum.out y.at_
                have hA2 : ∀ y : Later V, Calls _ _ _ _ _ := fun y => hCv.out y.at_
                have hA3 : ∀ y : Later V, Calls _ _ _ _ _ := fun y => hT1.out y.at_
                have hA4 : ∀ y : Later V, Calls _ _ _ _ _ := fun y => hT2.out y.at_
                have hA5 : ∀ y : Later V, Calls _ _ _ _ _ := fun y => alive08_any y.at_
                obtain ⟨q0, q1, q2, q3, q4, q5, q6, q7⟩ := hbX2.out.later
                go_wp2_with fail
                refine wp_region_later (by kernel_rfl) (by kernel_rfl) ?_; (repeat (go_big_quiet_step ((first | (go_at_call 10; with_reducible exact Calls.later_same (hA1 _)) | (go_at_call 13; with_reducible exact Calls.later (hA2 _)) | (go_at_call 19; with_reducible exact Calls.later (hA3 _)) | (go_at_call 20; with_reducible exact Calls.later_same (hA4 _)) | (go_at_call 8; with_reducible exact Calls.later (hA5 _)))))); refine wpQuiet_nil ?_; rintro w3 ⟨⟨_, hb3⟩, rfl⟩
                clear hA1 hA2 hA3 hA4 hA5 q0 q1 q2 q3 q4 q5 q6 q7
                go_wp2_with fail
                go_ret
                exact ⟨rfl, Below.of hbW2.out hb3⟩
        · have hleb : ((st.length : Int) == (inp.length : Int)) = false := beq_eq_false_iff_ne.2 (by omega)
          have hcf : PC.covers st inp = false := by unfold PC.covers; rw [decide_eq_false hle]; rfl
          rw [hcf] at hCv
          clear hcf
          go_wp2_with fail
          clear q0 q1 q2 q3 q4 q5 q6 q7
          go_loopg [17, 18] 0 (fun _ s17 s18 wr => s18 = .int .i64 0 ∧ s17 = .bool false ∧ W3 = wr)
          case atStart => exact ⟨rfl, rfl, rfl⟩
          case round =>
            obtain ⟨rfl, rfl, rfl⟩ := hrel
            by_cases h0 : st.length = 0
            · have hltz2 : ¬ (0 : Int) < (st.length : Int) := by omega
              have hA1 : ∀ y : Later W3, Calls _ _ _ _ _ := fun y => hNum.out y.at_
              have hA2 : ∀ y : Later W3, Calls _ _ _ _ _ := fun y => hCv.out y.at_
              have hA3 : ∀ y : Later W3, Calls _ _ _ _ _ := fun y => hT1.out y.at_
              have hA4 : ∀ y : Later W3, Calls _ _ _ _ _ := fun y => hT2.out y.at_
              have hA5 : ∀ y : Later W3, Calls _ _ _ _ _ := fun y => alive08_any y.at_
              obtain ⟨q0, q1, q2, q3, q4, q5, q6, q7⟩ := hbx3.out.later
              go_wp2_with fail
              refine wp_region_later (by kernel_rfl) (by kernel_rfl) ?_; (repeat (go_big_quiet_step ((first | (go_at_call 10; with_reducible exact Calls.later_same (hA1 _)) | (go_at_call 13; with_reducible exact Calls.later (hA2 _)) | (go_at_call 19; with_reducible exact Calls.later (hA3 _)) | (go_at_call 20; with_reducible exact Calls.later_same (hA4 _)) | (go_at_call 8; with_reducible exact Calls.later (hA5 _)))))); refine wpQuiet_nil ?_; rintro w3 ⟨⟨_, hb3⟩, rfl⟩
              clear hA1 hA2 hA3 hA4 hA5 q0 q1 q2 q3 q4 q5 q6 q7
              go_wp2_with fail
              go_ret
              exact ⟨rfl, Below.of hbC.out hb3⟩
            · have hltz2 : (0 : Int) < (st.length : Int) := by omega
              have hA1 : ∀ y : Later W3, Calls _ _ _ _ _ := fun y => hNum.out y.at_
              have hA2 : ∀ y : Later W3, Calls _ _ _ _ _ := fun y => hCv.out y.at_
              have hA3 : ∀ y : Later W3, Calls _ _ _ _ _ := fun y => hT1.out y.at_
              have hA4 : ∀ y : Later W3, Calls _ _ _ _ _ := fun y => hT2.out y.at_
              have hA5 : ∀ y : Later W3, Calls _ _ _ _ _ := fun y => alive08_any y.at_
              obtain ⟨q0, q1, q2, q3, q4, q5, q6, q7⟩ := hbx3.out.later
              go_wp2_with fail
              refine wp_region_later (by kernel_rfl) (by kernel_rfl) ?_; (repeat (go_big_quiet_step ((first | (go_at_call 10; with_reducible exact Calls.later_same (hA1 _)) | (go_at_call 13; with_reducible exact Calls.later (hA2 _)) | (go_at_call 19; with_reducible exact Calls.later (hA3 _)) | (go_at_call 20; with_reducible exact Calls.later_same (hA4 _)) | (go_at_call 8; with_reducible exact Calls.later (hA5 _)))))); refine wpQuiet_nil ?_; rintro w3 ⟨⟨_, hb3⟩, rfl⟩
              clear hA1 hA2 hA3 hA4 hA5 q0 q1 q2 q3 q4 q5 q6 q7
              go_wp2_with fail
              go_ret
              exact ⟨rfl, Below.of hbC.out hb3⟩
      · have hltz : (0 : Int) < (c.latches.length : Int) := by omega
        clear h0
        by_cases hle : st.length = inp.length
        · have hleb : ((st.length : Int) == (inp.length : Int)) = true := by simp [hle]
          have hc0 : Hid (covN st inp 0 = true) := by show _ = _; simp [covN, hle]
          go_wp2_with fail
          clear q0 q1 q2 q3 q4 q5 q6 q7
          go_loopg [17, 18] st.length (fun gg s17 s18 wr => ∃ k : Nat, k ≤ st.length ∧ st.length - k ≤ gg ∧ s18 = .int .i64 k ∧ s17 = .bool (covN st inp k) ∧ Below W3.heap.size W3 wr)
          case atStart => exact ⟨0, Nat.zero_le _, by omega, rfl, by rw [hc0.out], Below.refl _ _⟩
          case round =>
            obtain ⟨k2, hk2, hg2, rfl, rfl, hbr2⟩ := hrel
            have hbW2 := Lib.hid (Below.of hbC.out hbr2)
            have hbX2 := Lib.hid (hbx3.out.mono hbr2)
            obtain ⟨V, hVV⟩ : ∃ V, V = wr := ⟨_, rfl⟩
            subst hVV
            by_cases hlt2 : k2 < st.length
            · have hltz2 : (k2 : Int) < (st.length : Int) := by omega
              have hlti2 : (k2 : Int) < (inp.length : Int) := by omega
              have hlti2' : k2 < inp.length := by omega
              cases hcn : covN st inp k2 with
              | true =>
                have hmea2 : Hid (∀ g : Nat, st.length - k2 ≤ g → st.length - (k2 + 1) < g) := fun g h => by omega
                have HG2 := Lib.hid hg2
                have hstp := covN_step st inp k2 hlt2 hlti2'
                rw [hcn, Bool.true_and] at hstp
                obtain ⟨x, hx⟩ : ∃ x, st[k2] = x := ⟨_, rfl⟩
                obtain ⟨y, hy⟩ : ∃ y, inp[k2] = y := ⟨_, rfl⟩
                rw [hx, hy] at hstp
                clear hcn hg2
                by_cases h1 : x = y
                · have e1 : ((x.toNat : Int) == (y.toNat : Int)) = true := by rw [h1]; simp
                  have hs1 : Hid (covN st inp (k2 + 1) = true) := by show _ = _; rw [hstp, h1]; simp
                  clear h1 hstp
                  go_wp2_with fail
                  refine wp_region_later (by kernel_rfl) (by kernel_rfl) ?_; (repeat (go_big_quiet_step (fail))); refine wpQuiet_nil ?_; rintro w3 ⟨⟨_, hb3⟩, rfl⟩
                  go_wp2_with fail
                  go_roundg (st.length - (k2 + 1))
                  case measure => exact hmea2.out _ HG2.out
                  case rel => exact ⟨k2 + 1, by omega, by omega, by go_num, by rw [hs1.out], Below.of hbr2 hb3⟩
                · have e1 : ((x.toNat : Int) == (y.toNat : Int)) = false := beq_eq_false_iff_ne.2 fun e => h1 (UInt8.toNat_inj.1 (by omega))
                  by_cases h2 : x = 120
                  · have hs1 : Hid (covN st inp (k2 + 1) = true) := by show _ = _; rw [hstp, h2]; simp
                    have e2 : ((x.toNat : Int) == 120) = true := by rw [h2]; rfl
                    clear h1 h2 hstp
                    go_wp2_with fail
                    refine wp_region_later (by kernel_rfl) (by kernel_rfl) ?_; (repeat (go_big_quiet_step (fail))); refine wpQuiet_nil ?_; rintro w3 ⟨⟨_, hb3⟩, rfl⟩
                    go_wp2_with fail
                    go_roundg (st.length - (k2 + 1))
                    case measure => exact hmea2.out _ HG2.out
                    case rel => exact ⟨k2 + 1, by omega, by omega, by go_num, by rw [hs1.out], Below.of hbr2 hb3⟩
                  · have hs1 : Hid (covN st inp (k2 + 1) = false) := by
                      show _ = _
                      rw [hstp, Bool.or_eq_false_iff]
                      exact ⟨beq_eq_false_iff_ne.2 h1, beq_eq_false_iff_ne.2 h2⟩
                    have e2 : ((x.toNat : Int) == 120) = false := beq_eq_false_iff_ne.2 fun e => h2 ((u8_120 x).1 e)
                    clear h1 h2 hstp
                    go_wp2_with fail
                    refine wp_region_later (by kernel_rfl) (by kernel_rfl) ?_; (repeat (go_big_quiet_step (fail))); refine wpQuiet_nil ?_; rintro w3 ⟨⟨_, hb3⟩, rfl⟩
                    go_wp2_with fail
                    go_roundg (st.length - (k2 + 1))
                    case measure => exact hmea2.out _ HG2.out
                    case rel => exact ⟨k2 + 1, by omega, by omega, by go_num, by rw [hs1.out], Below.of hbr2 hb3⟩
              | false =>
                have hcf := covN_false st inp k2 hcn
                rw [hcf] at hCv
                clear hcf hcn
                have hA1 : ∀ y : Later V, Calls _ _ _ _ _ := fun y => hNum.out y.at_
                have hA2 : ∀ y : Later V, Calls _ _ _ _ _ := fun y => hCv.out y.at_
                have hA3 : ∀ y : Later V, Calls _ _ _ _ _ := fun y => hT1.out y.at_
                have hA4 : ∀ y : Later V, Calls _ _ _ _ _ := fun y => hT2.out y.at_
                have hA5 : ∀ y : Later V, Calls _ _ _ _ _ := fun y => alive08_any y.at_
                obtain ⟨q0, q1, q2, q3, q4, q5, q6, q7⟩ := hbX2.out.later
                go_wp2_with fail
                refine wp_region_later (by kernel_rfl) (by kernel_rfl) ?_; (repeat (go_big_quiet_step ((first | (go_at_call 10; with_reducible exact Calls.later_same (hA1 _)) | (go_at_call 13; with_reducible exact Calls.later (hA2 _)) | (go_at_call 19; with_reducible exact Calls.later (hA3 _)) | (go_at_call 20; with_reducible exact Calls.later_same (hA4 _)) | (go_at_call 8; with_reducible exact Calls.later (hA5 _)))))); refine wpQuiet_nil ?_; rintro w3 ⟨⟨_, hb3⟩, rfl⟩
                clear hA1 hA2 hA3 hA4 hA5 q0 q1 q2 q3 q4 q5 q6 q7
                go_wp2_with fail
                go_ret
                exact ⟨rfl, Below.of hbW2.out hb3⟩
            · have hltz2 : ¬ (k2 : Int) < (st.length : Int) := by omega
              obtain rfl : k2 = st.length := by omega
              have hce := covN_end st inp
              cases hcn : covN st inp st.length with
              | true =>
                rw [← hce, hcn] at hCv
                clear hce hcn
                have hA1 : ∀ y : Later V, Calls _ _ _ _ _ := fun y => hNum.out y.at_
                have hA2 : ∀ y : Later V, Calls _ _ _ _ _ := fun y => hCv.out y.at_
                have hA3 : ∀ y : Later V, Calls _ _ _ _ _ := fun y => hT1.out y.at_
                have hA4 : ∀ y : Later V, Calls _ _ _ _ _ := fun y => hT2.out y.at_
                have hA5 : ∀ y : Later V, Calls _ _ _ _ _ := fun y => alive08_any y.at_
                obtain ⟨q0, q1, q2, q3, q4, q5, q6, q7⟩ := hbX2.out.later
                go_wp2_with fail
                refine wp_region_later (by kernel_rfl) (by kernel_rfl) ?_; (repeat (go_big_quiet_step ((first | (go_at_call 10; with_reducible exact Calls.later_same (hA1 _)) | (go_at_call 13; with_reducible exact Calls.later (hA2 _)) | (go_at_call 19; with_reducible exact Calls.later (hA3 _)) | (go_at_call 20; with_reducible exact Calls.later_same (hA4 _)) | (go_at_call 8; with_reducible exact Calls.later (hA5 _)))))); refine wpQuiet_nil ?_; rintro w3 ⟨⟨_, hb3⟩, rfl⟩
                clear hA1 hA2 hA3 hA4 hA5 q0 q1 q2 q3 q4 q5 q6 q7
                go_wp2_with fail
                go_ret
                exact ⟨rfl, Below.of hbW2.out hb3⟩
              | false =>
                rw [← hce, hcn] at hCv
                clear hce hcn
                have hA1 : ∀ y : Later V, Calls _ _ _ _ _ := fun y => hNum.out y.at_
                have hA2 : ∀ y : Later V, Calls _ _ _ _ _ := fun y => hCv.out y.at_
                have hA3 : ∀ y : Later V, Calls _ _ _ _ _ := fun y => hT1.out y.at_
                have hA4 : ∀ y : Later V, Calls _ _ _ _ _ := fun y => hT2.out y.at_
                have hA5 : ∀ y : Later V, Calls _ _ _ _ _ := fun y => alive08_any y.at_
                obtain ⟨q0, q1, q2, q3, q4, q5, q6, q7⟩ := hbX2.out.later
                go_wp2_with fail
                refine wp_region_later (by kernel_rfl) (by kernel_rfl) ?_; (repeat (go_big_quiet_step ((first | (go_at_call 10; with_reducible exact Calls.later_same (hA1 _)) | (go_at_call 13; with_reducible exact Calls.later (hA2 _)) | (go_at_call 19; with_reducible exact Calls.later (hA3 _)) | (go_at_call 20; with_reducible exact Calls.later_same (hA4 _)) | (go_at_call 8; with_reducible exact Calls.later (hA5 _)))))); refine wpQuiet_nil ?_; rintro w3 ⟨⟨_, hb3⟩, rfl⟩
                clear hA1 hA2 hA3 hA4 hA5 q0 q1 q2 q3 q4 q5 q6 q7
                go_wp2_with fail
                go_ret
                exact ⟨rfl, Below.of hbW2.out hb3⟩
        · have hleb : ((st.length : Int) == (inp.length : Int)) = false := beq_eq_false_iff_ne.2 (by omega)
          have hcf : PC.covers st inp = false := by unfold PC.covers; rw [decide_eq_false hle]; rfl
          rw [hcf] at hCv
          clear hcf
          go_wp2_with fail
          clear q0 q1 q2 q3 q4 q5 q6 q7
          go_loopg [17, 18] 0 (fun _ s17 s18 wr => s18 = .int .i64 0 ∧ s17 = .bool false ∧ W3 = wr)
          case atStart => exact ⟨rfl, rfl, rfl⟩
          case round =>
            obtain ⟨rfl, rfl, rfl⟩ := hrel
            by_cases h0 : st.length = 0
            · have hltz2 : ¬ (0 : Int) < (st.length : Int) := by omega
              have hA1 : ∀ y : Later W3, Calls _ _ _ _ _ := fun y => hNum.out y.at_
              have hA2 : ∀ y : Later W3, Calls _ _ _ _ _ := fun y => hCv.out y.at_
              have hA3 : ∀ y : Later W3, Calls _ _ _ _ _ := fun y => hT1.out y.at_
              have hA4 : ∀ y : Later W3, Calls _ _ _ _ _ := fun y => hT2.out y.at_
              have hA5 : ∀ y : Later W3, Calls _ _ _ _ _ := fun y => alive08_any y.at_
              obtain ⟨q0, q1, q2, q3, q4, q5, q6, q7⟩ := hbx3.out.later
              go_wp2_with fail
              refine wp_region_later (by kernel_rfl) (by kernel_rfl) ?_; (repeat (go_big_quiet_step ((first | (go_at_call 10; with_reducible exact Calls.later_same (hA1 _)) | (go_at_call 13; with_reducible exact Calls.later (hA2 _)) | (go_at_call 19; with_reducible exact Calls.later (hA3 _)) | (go_at_call 20; with_reducible exact Calls.later_same (hA4 _)) | (go_at_call 8; with_reducible exact Calls.later (hA5 _)))))); refine wpQuiet_nil ?_; rintro w3 ⟨⟨_, hb3⟩, rfl⟩
              clear hA1 hA2 hA3 hA4 hA5 q0 q1 q2 q3 q4 q5 q6 q7
              go_wp2_with fail
              go_ret
              exact ⟨rfl, Below.of hbC.out hb3⟩
            · have hltz2 : (0 : Int) < (st.length : Int) := by omega
              have hA1 : ∀ y : Later W3, Calls _ _ _ _ _ := fun y => hNum.out y.at_
              have hA2 : ∀ y : Later W3, Calls _ _ _ _ _ := fun y => hCv.out y.at_
              have hA3 : ∀ y : Later W3, Calls _ _ _ _ _ := fun y => hT1.out y.at_
              have hA4 : ∀ y : Later W3, Calls _ _ _ _ _ := fun y => hT2.out y.at_
              have hA5 : ∀ y : Later W3, Calls _ _ _ _ _ := fun y => alive08_any y.at_
              obtain ⟨q0, q1, q2, q3, q4, q5, q6, q7⟩ := hbx3.out.later
              go_wp2_with fail
              refine wp_region_later (by kernel_rfl) (by kernel_rfl) ?_; (repeat (go_big_quiet_step ((first | (go_at_call 10; with_reducible exact Calls.later_same (hA1 _)) | (go_at_call 13; with_reducible exact Calls.later (hA2 _)) | (go_at_call 19; with_reducible exact Calls.later (hA3 _)) | (go_at_call 20; with_reducible exact Calls.later_same (hA4 _)) | (go_at_call 8; with_reducible exact Calls.later (hA5 _)))))); refine wpQuiet_nil ?_; rintro w3 ⟨⟨_, hb3⟩, rfl⟩
              clear hA1 hA2 hA3 hA4 hA5 q0 q1 q2 q3 q4 q5 q6 q7
              go_wp2_with fail
              go_ret
              exact ⟨rfl, Below.of hbC.out hb3⟩

end Go.Proofs.YtlakfaalpijhiaaDoor
