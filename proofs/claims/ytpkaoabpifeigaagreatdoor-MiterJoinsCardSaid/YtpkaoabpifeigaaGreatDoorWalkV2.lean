/- Contract: the page's values. -/
import Derived.Test.YtpkaoabpifeigaaGreatDoorWalkV1
import Derived.Test.YtpkaoabpifeigaaGreatDoorWalkR5
import Derived.Test.YtpkaoabpifeigaaGreatDoorPlainU
namespace Go.Proofs.YtpkaoabpifeigaaGreatDoor
open Go.RowKit Go.Shelf
attribute [local simp] mk_get

theorem cat_eq (a b : List UInt8) : (ByteArray.mk a.toArray) ++ (ByteArray.mk b.toArray) = ⟨(a ++ b).toArray⟩ := by
  apply ByteArray.ext
  simp [ByteArray.data_append]

namespace PC
/-- the first k octets laid -/
theorem setAll_take_succ (l : List (Int × UInt8)) (k : Nat) (h : k < l.length) (s : Bs) : setAll s (l.take (k + 1)) = (setAll s (l.take k)).set (varOf l[k].1) l[k].2 := by
  induction l generalizing s k with
  | nil => simp at h
  | cons p r ih =>
    cases k with
    | zero => rfl
    | succ k =>
      simp only [List.take_succ_cons, setAll, List.getElem_cons_succ]
      exact ih k (by simpa using h) _
theorem setGats_take_succ (l : List Gat) (k : Nat) (h : k < l.length) (s : Bs) :
    setGats s (l.take (k + 1)) = if tru (setGats s (l.take k)) l[k].left && tru (setGats s (l.take k)) l[k].right then (setGats s (l.take k)).set (varOf l[k].lit) 49 else setGats s (l.take k) := by
  induction l generalizing s k with
  | nil => simp at h
  | cons p r ih =>
    cases k with
    | zero => rfl
    | succ k =>
      simp only [List.take_succ_cons, setGats, List.getElem_cons_succ]
      exact ih k (by simpa using h) _
end PC

/-- so many noughts -/
def zeros (k : Nat) : List UInt8 := List.replicate k 48
theorem zeros_succ (k : Nat) : (ByteArray.mk (zeros k).toArray) ++ (ByteArray.mk #[48]) = ⟨(zeros (k + 1)).toArray⟩ := by
  rw [show (ByteArray.mk #[48]) = ⟨([48] : List UInt8).toArray⟩ from rfl, cat_eq]
  unfold zeros
  rw [List.replicate_succ']

/-- what a circuit's size asks -/
def Fits (c : PC.Circ) : Prop := c.ands.length * 8 ≤ 140737488351232

set_option maxRecDepth 100000 in
set_option maxHeartbeats 8000000 in
theorem rValues_any (c : PC.Circ) (vc : Value) (st inp : List UInt8) (w : World) (h : IsCirc w vc c) (hf : Fits c) (hs : st.length ≤ 9223372036854775806) (hi : inp.length ≤ 9223372036854775806) :
    Calls Tryz.prog 16 #[vc, .string ⟨st.toArray⟩, .string ⟨inp.toArray⟩] w fun e w' => e = .returned (.tuple #[.string ⟨(PC.valuesS c st inp).toArray⟩, .int .i64 (PC.valuesE c st inp)]) ∧ Below w.heap.size w w' := by
  have hCk : ∀ w1, Below w.heap.size w w1 → _ := fun w1 hb => rCheck_any c vc w1 (h.mono hb) hf
  have hB1 := fun w1 => rBits_any st c.latches.length w1 (by omega)
  have hB2 := fun w1 => rBits_any inp c.inputs.length w1 (by omega)
  clear hf
  obtain ⟨vi, vl, vo, vb, vv, va, vn, rfl, hp, hm⟩ := h
  obtain ⟨ai, capi, rfl, hi1, hi2, hi3⟩ := hp.inputs.open_
  obtain ⟨al, capl, rfl, hl1, hl2, hl3⟩ := hp.latches.open_
  obtain ⟨aa, capa, rfl, ha1, ha2, ha3⟩ := hp.ands.open_
  clear hp
  have HI := Lib.hid hi3
  have HL := Lib.hid hl3
  have HG := Lib.hid ha3
  clear hl3 ha3 hi3
  obtain ⟨RS, hRS⟩ : ∃ R, R = PC.valuesS c st inp := ⟨_, rfl⟩
  obtain ⟨RE, hRE⟩ : ∃ R, R = PC.valuesE c st inp := ⟨_, rfl⟩
  rw [← hRS, ← hRE]
  have HRS := Lib.hid hRS
  have HRE := Lib.hid hRE
  clear hRS hRE
  have hb0 : Below w.heap.size w (w.alloc (.cells #[.int .i64 c.max, .slice ai c.inputs.length capi, .slice al c.latches.length capl, vo, vb, vv, .slice aa c.ands.length capa, vn] 27)) := (Below.refl _ _).alloc (Nat.le_refl _) _
  have hbx0 := Lib.hid (Box8.new w (.int .i64 c.max) (.slice ai c.inputs.length capi) (.slice al c.latches.length capl) vo vb vv (.slice aa c.ands.length capa) vn 27)
  cases hck : PC.chk c with
  | false =>
    rw [hck] at hCk
    have HCK := Lib.hid hck
    clear hck
    go_enter Tryz.func16, Tryz.ntmps16
    go_wp2_with (go_at_call 9; refine (hCk _ (by exact hb0)).mono ?_; rintro e w1 ⟨rfl, hb1⟩)
    go_ret2
    have e1 : RE = 9 := by rw [HRE.out, PC.valuesE, if_pos HCK.out]
    have e2 : RS = [] := by rw [HRS.out, PC.valuesS, ← HRE.out, e1]; rfl
    exact ⟨by rw [e1, e2]; rfl, Below.of hb0 hb1⟩
  | true =>
    rw [hck] at hCk
    have HR := Lib.hid (PC.right_of c hck)
    have HCK := Lib.hid hck
    clear hck
    cases d1 : PC.bitsOk st c.latches.length with
    | false =>
      rw [d1] at hB1
      have D1 := Lib.hid d1
      clear d1
      go_enter Tryz.func16, Tryz.ntmps16
      go_wp2_with (first | (go_at_call 9; refine (hCk _ (by exact hb0)).mono ?_; rintro e w1 ⟨rfl, hb1⟩; obtain ⟨q0, q1, q2, q3, q4, q5, q6, q7⟩ := hbx0.out.mono hb1) | (go_at_call 22; refine (hB1 _).mono ?_; rintro e w2 ⟨rfl, rfl⟩))
      go_ret2
      have e1 : RE = 5 := by rw [HRE.out, PC.valuesE, if_neg (by rw [HCK.out]; decide), if_pos (Or.inl D1.out)]
      have e2 : RS = [] := by rw [HRS.out, PC.valuesS, ← HRE.out, e1]; rfl
      exact ⟨by rw [e1, e2]; rfl, Below.of hb0 hb1⟩
    | true =>
      rw [d1] at hB1
      have D1 := Lib.hid d1
      clear d1
      cases d2 : PC.bitsOk inp c.inputs.length with
      | false =>
        rw [d2] at hB2
        have D2 := Lib.hid d2
        clear d2
        go_enter Tryz.func16, Tryz.ntmps16
        go_wp2_with (first | (go_at_call 9; refine (hCk _ (by exact hb0)).mono ?_; rintro e w1 ⟨rfl, hb1⟩; obtain ⟨q0, q1, q2, q3, q4, q5, q6, q7⟩ := hbx0.out.mono hb1) | (go_at_call 22; have _ := hdone; refine (hB2 _).mono ?_; rintro e w2 ⟨rfl, rfl⟩) | (go_at_call 22; refine (hB1 _).mono ?_; rintro e w2 ⟨rfl, rfl⟩; have hdone : True := trivial))
        go_ret2
        have e1 : RE = 5 := by rw [HRE.out, PC.valuesE, if_neg (by rw [HCK.out]; decide), if_pos (Or.inr D2.out)]
        have e2 : RS = [] := by rw [HRS.out, PC.valuesS, ← HRE.out, e1]; rfl
        exact ⟨by rw [e1, e2]; rfl, Below.of hb0 hb1⟩
      | true =>
        rw [d2] at hB2
        have D2 := Lib.hid d2
        clear d2
        have e1 : RE = 0 := by rw [HRE.out, PC.valuesE, if_neg (by rw [HCK.out]; decide), if_neg (by rw [D1.out, D2.out]; decide)]
        have e2 : RS = PC.setGats (PC.setAll (PC.setAll (List.replicate (c.max.toNat + 1) 48) (c.inputs.zip inp)) ((c.latches.map (·.lit)).zip st)) c.ands := by rw [HRS.out, PC.valuesS, ← HRE.out, e1]; rfl
        subst e1
        have E2 := Lib.hid e2
        clear e2
        go_enter Tryz.func16, Tryz.ntmps16
        go_wp2_with (first | (go_at_call 9; refine (hCk _ (by exact hb0)).mono ?_; rintro e w1 ⟨rfl, hb1⟩; obtain ⟨q0, q1, q2, q3, q4, q5, q6, q7⟩ := hbx0.out.mono hb1) | (go_at_call 22; have _ := hdone; refine (hB2 _).mono ?_; rintro e w2 ⟨rfl, rfl⟩) | (go_at_call 22; refine (hB1 _).mono ?_; rintro e w2 ⟨rfl, rfl⟩; have hdone : True := trivial))
        have hb01 := Lib.hid (Below.of hb0 hb1)
        have hbx1 := Lib.hid (hbx0.out.mono hb1)
        obtain ⟨hm0, hm1⟩ : 0 ≤ c.max ∧ c.max ≤ 2048 := ⟨HR.out.max0, HR.out.max1⟩
        have hN := Lib.hid (show ((c.max.toNat + 1 : Nat) : Int) = c.max + 1 by omega)
        obtain ⟨N, hNe⟩ : ∃ N, N = c.max.toNat + 1 := ⟨_, rfl⟩
        rw [← hNe] at hN
        have HNE := Lib.hid hNe
        clear hNe hb1 hbx0 hCk hB1 hB2
        go_loopg [8, 9] N (fun gg s8 s9 wr => ∃ k : Nat, k ≤ N ∧ N - k ≤ gg ∧ s8 = .string ⟨(zeros k).toArray⟩ ∧ s9 = .int .i64 k ∧ w1 = wr)
        case atStart => exact ⟨0, Nat.zero_le _, by omega, rfl, rfl, rfl⟩
        case round =>
          obtain ⟨k, hk, hg, rfl, rfl, rfl⟩ := hrel
          have hNz := hN.out
          by_cases hlt : k < N
          · have hltz : (k : Int) ≤ c.max := by omega
            have hcat := zeros_succ k
            have hzl : (zeros k).length = k := by simp [zeros]
            have hzb : k + 1 ≤ 9223372036854775807 := by omega
            have hzc : (k : Int) + 1 ≤ 9223372036854775807 := by omega
            go_wp2
            go_roundg (N - (k + 1))
            case measure => omega
            case rel => exact ⟨k + 1, by omega, by omega, rfl, by go_num, rfl⟩
          · have hltz : ¬ (k : Int) ≤ c.max := by omega
            obtain rfl : k = N := by omega
            clear hg hk hlt hNz
            obtain ⟨S0, hS0⟩ : ∃ l, l = zeros k := ⟨_, rfl⟩
            rw [← hS0]
            have HS0 := Lib.hid hS0
            have hS0l : Hid (S0.length = k) := by rw [hS0]; exact List.length_replicate
            clear hS0
            go_wp2_with fail
            obtain ⟨M, hMk⟩ : ∃ M, M = k := ⟨_, rfl⟩
            subst hMk
            obtain ⟨f1, hf1⟩ : ∃ f : Nat → List UInt8, ∀ j, f j = PC.setAll S0 ((c.inputs.zip inp).take j) := ⟨_, fun _ => rfl⟩
            have hf1l : Hid (∀ j, (f1 j).length = M) := fun j => by rw [hf1, PC.setAll_length, hS0l.out]
            have hf10 : Hid (f1 0 = S0) := by rw [hf1]; rfl
            have hin : Hid (inp.length = c.inputs.length) := ((bitsOk_step _ _).1 D2.out).2
            have hf1s : Hid (∀ j (h : j < c.inputs.length) (h' : j < inp.length), f1 (j + 1) = (f1 j).set (PC.varOf c.inputs[j]) inp[j]) := fun j h h' => by
              rw [hf1, hf1, PC.setAll_take_succ _ _ (by rw [List.length_zip]; omega)]
              simp
            have hf1e : Hid (f1 c.inputs.length = PC.setAll S0 (c.inputs.zip inp)) := by
              show _ = _
              rw [hf1, List.take_of_length_le (by rw [List.length_zip]; omega)]
            clear hf1
            go_loopg [8, 10] c.inputs.length (fun gg s8 s10 wr => ∃ k : Nat, k ≤ c.inputs.length ∧ c.inputs.length - k ≤ gg ∧ s8 = .string ⟨(f1 k).toArray⟩ ∧ s10 = .int .i64 k ∧ Below w1.heap.size w1 wr)
            case atStart => exact ⟨0, Nat.zero_le _, by omega, by rw [hf10.out], rfl, Below.refl _ _⟩
            case round =>
              clear q0 q1 q2 q3 q4 q5 q6 q7 hltz
              obtain ⟨k, hk, hg, rfl, rfl, hbr⟩ := hrel
              have hbxr := Lib.hid (hbx1.out.mono hbr)
              by_cases hlt : k < c.inputs.length
              · obtain ⟨q0, q1, q2, q3, q4, q5, q6, q7⟩ := hbxr.out
                have hmea : ∀ g : Nat, c.inputs.length - k ≤ g → c.inputs.length - (k + 1) < g := fun g h => by omega
                have hlti : k < inp.length := by rw [hin.out]; exact hlt
                obtain ⟨b, off, rfl, hbs', hxr, c0⟩ := HI.out k hlt
                have hbwr := Below.of hb01.out hbr
                have c0 : ∀ x1 : Later wr, x1.at_.cell? ⟨b, off + k, none⟩ = some (.int .i64 c.inputs[k]) := fun x1 => x1.cell ((hbwr.cell hbs').trans c0)
                have hxd := HR.out.defs _ (PC.mem_defs_in c _ (List.getElem_mem hlt))
                have hst := hf1s.out k hlt hlti
                generalize hx : c.inputs[k] = x at *
                clear hx
                obtain ⟨y, hy⟩ : ∃ y, inp[k] = y := ⟨_, rfl⟩
                rw [hy] at hst
                obtain ⟨v, hv⟩ : ∃ v, v = PC.varOf x := ⟨_, rfl⟩
                have hxv : x = 2 * (v : Int) := by rw [hv]; unfold PC.varOf; omega
                have hvM : v < M := by have := hN.out; omega
                rw [← hv] at hst
                clear hv
                subst hxv
                have hset : ∀ x1 : Later wr, _ := fun x1 => rset_any (f1 k) v y x1.at_ (by rw [hf1l.out]; exact hvM) (by rw [hf1l.out]; have := hN.out; omega)
                rw [← hst] at hset
                clear hst hxd hxr
                have hwv : wrap64 (v : Int) = (v : Int) := by have := hN.out; unfold wrap64; omega
                have hq2 : (2 * (v : Int)).tdiv 2 = (v : Int) := Int.mul_tdiv_cancel_left _ (by omega)
                clear q0 q1 q2 q3 q4 q5 q6 q7
                obtain ⟨q0, q1, q2, q3, q4, q5, q6, q7⟩ := hbxr.out
                have hltz : (k : Int) < (c.inputs.length : Int) := by omega
                have hltiz : (k : Int) < (inp.length : Int) := by omega
                go_wp2_with fail
                clear q0 q1 q2 q3 q4 q5 q6 q7
                obtain ⟨q0, q1, q2, q3, q4, q5, q6, q7⟩ := hbxr.out.later
                refine wp_region_later (by kernel_rfl) (by kernel_rfl) ?_; (repeat (go_big_quiet_step ((go_at_call 48; with_reducible exact Calls.later (hset _))))); refine wpQuiet_nil ?_; rintro w3 ⟨⟨_, hb3⟩, rfl⟩
                go_wp2
                go_roundg (c.inputs.length - (k + 1))
                case measure => exact hmea _ hg
                case rel => exact ⟨k + 1, by omega, by omega, rfl, by go_num, Below.of hbr hb3⟩
              · obtain ⟨q0, q1, q2, q3, q4, q5, q6, q7⟩ := hbxr.out
                have hltz : ¬ (k : Int) < (c.inputs.length : Int) := by omega
                obtain rfl : k = c.inputs.length := by omega
                go_wp2_with fail
                obtain ⟨f2, hf2⟩ : ∃ f : Nat → List UInt8, ∀ j, f j = PC.setAll (f1 c.inputs.length) (((c.latches.map (·.lit)).zip st).take j) := ⟨_, fun _ => rfl⟩
                have hf2l : Hid (∀ j, (f2 j).length = M) := fun j => by rw [hf2, PC.setAll_length, hf1l.out]
                have hf20 : Hid (f2 0 = f1 c.inputs.length) := by rw [hf2]; rfl
                have hst0 : Hid (st.length = c.latches.length) := ((bitsOk_step _ _).1 D1.out).2
                have hf2s : Hid (∀ j (h : j < c.latches.length) (h' : j < st.length), f2 (j + 1) = (f2 j).set (PC.varOf c.latches[j].lit) st[j]) := fun j h h' => by
                  rw [hf2, hf2, PC.setAll_take_succ _ _ (by rw [List.length_zip, List.length_map]; omega)]
                  simp
                have hf2e : Hid (f2 c.latches.length = PC.setAll (PC.setAll S0 (c.inputs.zip inp)) ((c.latches.map (·.lit)).zip st)) := by
                  show _ = _
                  rw [hf2, List.take_of_length_le (by rw [List.length_zip, List.length_map]; omega), hf1e.out]
                clear hf2 hf1s
                go_loopg [8, 11] c.latches.length (fun gg s8 s11 wr => ∃ k : Nat, k ≤ c.latches.length ∧ c.latches.length - k ≤ gg ∧ s8 = .string ⟨(f2 k).toArray⟩ ∧ s11 = .int .i64 k ∧ Below w1.heap.size w1 wr)
                case atStart => exact ⟨0, Nat.zero_le _, by omega, by rw [hf20.out], rfl, hbr⟩
                case round =>
                  clear q0 q1 q2 q3 q4 q5 q6 q7 hltz hbr hbxr hg hk hlt
                  obtain ⟨k, hk, hg, rfl, rfl, hbr⟩ := hrel
                  have hbxr := Lib.hid (hbx1.out.mono hbr)
                  by_cases hlt : k < c.latches.length
                  · obtain ⟨q0, q1, q2, q3, q4, q5, q6, q7⟩ := hbxr.out
                    have hmea : ∀ g : Nat, c.latches.length - k ≤ g → c.latches.length - (k + 1) < g := fun g h => by omega
                    have hlti : k < st.length := by rw [hst0.out]; exact hlt
                    obtain ⟨b, off, rfl, hbs', ⟨hxr, _, _⟩, c0, c1, c2⟩ := HL.out k hlt
                    have hbwr := Below.of hb01.out hbr
                    have c0 : ∀ x1 : Later wr, x1.at_.cell? ⟨b, off + k * 3, none⟩ = some (.int .i64 c.latches[k].lit) := fun x1 => x1.cell ((hbwr.cell hbs').trans c0)
                    clear c1 c2
                    have hxd := HR.out.defs _ (PC.mem_defs_lat c _ (List.getElem_mem hlt))
                    have hst := hf2s.out k hlt hlti
                    generalize hx : c.latches[k].lit = x at *
                    clear hx
                    obtain ⟨y, hy⟩ : ∃ y, st[k] = y := ⟨_, rfl⟩
                    rw [hy] at hst
                    obtain ⟨v, hv⟩ : ∃ v, v = PC.varOf x := ⟨_, rfl⟩
                    have hxv : x = 2 * (v : Int) := by rw [hv]; unfold PC.varOf; omega
                    have hvM : v < M := by have := hN.out; omega
                    rw [← hv] at hst
                    clear hv
                    subst hxv
                    have hset : ∀ x1 : Later wr, _ := fun x1 => rset_any (f2 k) v y x1.at_ (by rw [hf2l.out]; exact hvM) (by rw [hf2l.out]; have := hN.out; omega)
                    rw [← hst] at hset
                    clear hst hxd hxr
                    have hwv : wrap64 (v : Int) = (v : Int) := by have := hN.out; unfold wrap64; omega
                    have hq2 : (2 * (v : Int)).tdiv 2 = (v : Int) := Int.mul_tdiv_cancel_left _ (by omega)
                    have hltz : (k : Int) < (c.latches.length : Int) := by omega
                    have hltiz : (k : Int) < (st.length : Int) := by omega
                    go_wp2_with fail
                    clear q0 q1 q2 q3 q4 q5 q6 q7
                    obtain ⟨q0, q1, q2, q3, q4, q5, q6, q7⟩ := hbxr.out.later
                    refine wp_region_later (by kernel_rfl) (by kernel_rfl) ?_; (repeat (go_big_quiet_step ((go_at_call 48; with_reducible exact Calls.later (hset _))))); refine wpQuiet_nil ?_; rintro w3 ⟨⟨_, hb3⟩, rfl⟩
                    go_wp2
                    go_roundg (c.latches.length - (k + 1))
                    case measure => exact hmea _ hg
                    case rel => exact ⟨k + 1, by omega, by omega, rfl, by go_num, Below.of hbr hb3⟩
                  · obtain ⟨q0, q1, q2, q3, q4, q5, q6, q7⟩ := hbxr.out
                    have hltz : ¬ (k : Int) < (c.latches.length : Int) := by omega
                    obtain rfl : k = c.latches.length := by omega
                    go_wp2_with fail
                    clear hf1l hf10 hf1e hf2s hS0l HI HL
                    obtain ⟨f3, hf3⟩ : ∃ f : Nat → List UInt8, ∀ j, f j = PC.setGats (f2 c.latches.length) (c.ands.take j) := ⟨_, fun _ => rfl⟩
                    have hf3l : Hid (∀ j, (f3 j).length = M) := fun j => by rw [hf3, PC.setGats_length, hf2l.out]
                    have hf30 : Hid (f3 0 = f2 c.latches.length) := by rw [hf3]; rfl
                    have hf3s : Hid (∀ j (h : j < c.ands.length), f3 (j + 1) = if PC.tru (f3 j) c.ands[j].left && PC.tru (f3 j) c.ands[j].right then (f3 j).set (PC.varOf c.ands[j].lit) 49 else f3 j) := fun j h => by
                      rw [hf3, hf3, PC.setGats_take_succ _ _ h]
                    have hf3e : Hid (f3 c.ands.length = RS) := by
                      show _ = _
                      rw [hf3, List.take_of_length_le (Nat.le_refl _), E2.out, hf2e.out, ← HNE.out, HS0.out]; rfl
                    clear hf3 hf2e hf2l
                    go_loopg [8, 12] c.ands.length (fun gg s8 s12 wr => ∃ k : Nat, k ≤ c.ands.length ∧ c.ands.length - k ≤ gg ∧ s8 = .string ⟨(f3 k).toArray⟩ ∧ s12 = .int .i64 k ∧ Below w1.heap.size w1 wr)
                    case atStart => exact ⟨0, Nat.zero_le _, by omega, by rw [hf30.out], rfl, hbr⟩
                    case round =>
                      clear q0 q1 q2 q3 q4 q5 q6 q7 hltz hbr hbxr hg hk hlt
                      obtain ⟨k, hk, hg, rfl, rfl, hbr⟩ := hrel
                      have hbxr := Lib.hid (hbx1.out.mono hbr)
                      by_cases hlt : k < c.ands.length
                      · obtain ⟨q0, q1, q2, q3, q4, q5, q6, q7⟩ := hbxr.out
                        have hmea : ∀ g : Nat, c.ands.length - k ≤ g → c.ands.length - (k + 1) < g := fun g h => by omega
                        obtain ⟨b, off, rfl, hbs', ⟨hxr, hyr, hzr⟩, c0, c1, c2⟩ := HG.out k hlt
                        have hbwr := Below.of hb01.out hbr
                        have c0 := (hbwr.cell hbs').trans c0
                        have c1 := (hbwr.cell hbs').trans c1
                        have c2 := (hbwr.cell hbs').trans c2
                        have hxd := HR.out.defs _ (PC.mem_defs_gat c _ (List.getElem_mem hlt))
                        have hst := hf3s.out k hlt
                        generalize hx : c.ands[k] = x at *
                        clear hx
                        obtain ⟨x, xl, xr⟩ := x
                        simp only at hxr hyr hzr c0 c1 c2 hxd hst
                        obtain ⟨v, hv⟩ : ∃ v, v = PC.varOf x := ⟨_, rfl⟩
                        have hxv : x = 2 * (v : Int) := by rw [hv]; unfold PC.varOf; omega
                        have hvM : v < M := by have := hN.out; omega
                        rw [← hv] at hst
                        clear hv
                        subst hxv
                        have hlen := hf3l.out k
                        have hset := fun w1 => rset_any (f3 k) v 49 w1 (by rw [hlen]; exact hvM) (by rw [hlen]; have := hN.out; omega)
                        have hTl := fun w1 => rTrue_any (f3 k) xl w1 hyr (by rw [hlen]; have := hN.out; omega)
                        have hTr := fun w1 => rTrue_any (f3 k) xr w1 hzr (by rw [hlen]; have := hN.out; omega)
                        clear hlen hxd
                        have hwv : wrap64 (v : Int) = (v : Int) := by have := hN.out; unfold wrap64; omega
                        have hq2 : (2 * (v : Int)).tdiv 2 = (v : Int) := Int.mul_tdiv_cancel_left _ (by omega)
                        have hltz : (k : Int) < (c.ands.length : Int) := by omega
                        cases dl : PC.tru (f3 k) xl with
                        | false =>
                          rw [dl] at hTl hst
                          have hst : f3 (k + 1) = f3 k := by rw [hst]; rfl
                          have hst := Lib.hid hst
                          clear dl
                          go_wp2_with (go_at_call 20; refine (hTl _).mono ?_; rintro e w5 ⟨rfl, rfl⟩)
                          go_roundg (c.ands.length - (k + 1))
                          case measure => exact hmea _ hg
                          case rel => exact ⟨k + 1, by omega, by omega, by rw [hst.out], by go_num, hbr⟩
                        | true =>
                          rw [dl] at hTl hst
                          clear dl
                          cases dr : PC.tru (f3 k) xr with
                          | false =>
                            rw [dr] at hTr hst
                            have hst : f3 (k + 1) = f3 k := by rw [hst]; rfl
                            have hst := Lib.hid hst
                            clear dr
                            go_wp2_with (first | (go_at_call 20; have _ := hdone2; refine (hTr _).mono ?_; rintro e w5 ⟨rfl, rfl⟩) | (go_at_call 20; refine (hTl _).mono ?_; rintro e w5 ⟨rfl, rfl⟩; have hdone2 : True := trivial))
                            go_roundg (c.ands.length - (k + 1))
                            case measure => exact hmea _ hg
                            case rel => exact ⟨k + 1, by omega, by omega, by rw [hst.out], by go_num, hbr⟩
                          | true =>
                            rw [dr] at hTr hst
                            have hst : f3 (k + 1) = (f3 k).set v 49 := by rw [hst]; rfl
                            have hst := Lib.hid hst
                            clear dr
                            change ∀ w1, Calls _ _ #[_, _, .int .u8 49] w1 _ at hset
                            go_wp2_with (first | (go_at_call 20; have _ := hdone2; refine (hTr _).mono ?_; rintro e w5 ⟨rfl, rfl⟩) | (go_at_call 20; refine (hTl _).mono ?_; rintro e w5 ⟨rfl, rfl⟩; have hdone2 : True := trivial) | (go_at_call 48; refine (hset _).mono ?_; rintro e w6 ⟨rfl, hb6⟩))
                            go_roundg (c.ands.length - (k + 1))
                            case measure => exact hmea _ hg
                            case rel => exact ⟨k + 1, by omega, by omega, by rw [hst.out], by go_num, Below.of hbr hb6⟩
                      · obtain ⟨q0, q1, q2, q3, q4, q5, q6, q7⟩ := hbxr.out
                        have hltz : ¬ (k : Int) < (c.ands.length : Int) := by omega
                        obtain rfl : k = c.ands.length := by omega
                        go_wp2
                        go_ret2
                        exact ⟨by rw [← hf3e.out]; rfl, Below.of hb01.out hbr⟩

end Go.Proofs.YtpkaoabpifeigaaGreatDoor
