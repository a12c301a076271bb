/- Contract: sim.Values. -/
import Derived.Test.YtpkaoabpifeigaaGreatDoorWalkM2
import Derived.Test.YtpkaoabpifeigaaGreatDoorWalkC8
namespace Go.Proofs.YtpkaoabpifeigaaGreatDoor
open Go.RowKit Go.Shelf
attribute [local simp] mk_get

/-- the bits in their block: a row of the call's own -/
def OwnB (w : World) (B g N : Nat) (xs : List UInt8) : Prop := xs.length = N ∧ w.ownsRow B 5 1 (.slice (some ⟨g, 0, none⟩) N N) N (xs.map octV)

theorem OwnB.octs {w : World} {B g N : Nat} {xs : List UInt8} (h : OwnB w B g N xs) (hN : N ≤ 9223372036854775807) : Octs w (.slice (some ⟨g, 0, none⟩) N N) xs := by
  obtain ⟨rfl, h⟩ := h
  exact Octs.of_owns h hN

theorem OwnB.alloc {w : World} {B g N : Nat} {xs : List UInt8} (h : OwnB w B g N xs) (o : Obj) : OwnB (w.alloc o) B g N xs := ⟨h.1, h.2.alloc o⟩
theorem OwnB.drew {w : World} {B g N : Nat} {xs : List UInt8} (h : OwnB w B g N xs) : OwnB w.drew B g N xs := h

theorem bset_own {w : World} {B g N : Nat} {xs : List UInt8} (h : OwnB w B g N xs) (l : Int) (x : UInt8) (hr : rng l) (hl : PC.varOf l < N) (hN : N ≤ 9223372036854775807) :
    Calls Tryz.prog 98 #[.slice (some ⟨g, 0, none⟩) N N, .int .i64 l, .int .u8 (x.toNat : Int)] w fun e w' => e = .returned (.tuple #[]) ∧ OwnB w' B g N (xs.set (PC.varOf l) x) ∧ w.grownBy w' (some g) := by
  obtain ⟨rfl, h⟩ := h
  refine (bset_any B g _ xs l x w h hr hl hN).mono ?_
  rintro e w' ⟨he, h1, h2⟩
  rw [List.length_set] at h1
  exact ⟨he, ⟨by rw [List.length_set], h1⟩, h2⟩

theorem bof_own {w : World} {B g N : Nat} {xs : List UInt8} (h : OwnB w B g N xs) (l : Int) (hb : ∀ b ∈ xs, b = 48 ∨ b = 49) (hr : rng l) (hN : N ≤ 9223372036854775807) :
    Calls Tryz.prog 99 #[.slice (some ⟨g, 0, none⟩) N N, .int .i64 l] w fun e w' => e = .returned (.int .u8 ((PC.bitB (PC.tru xs l)).toNat : Int)) ∧ w' = w :=
  bof_any xs l _ w (h.octs hN) hb hr

theorem PC.start_bits (c : PC.Circ) (st i : PC.Bs) (h1 : ∀ b ∈ st, b = 48 ∨ b = 49) (h2 : ∀ b ∈ i, b = 48 ∨ b = 49) : ∀ b ∈ PC.start c st i, b = 48 ∨ b = 49 :=
  PC.setAll_bits _ _ (PC.setAll_bits _ _ (fun _ hb => Or.inl (List.eq_of_mem_replicate hb)) fun _ hp => h2 _ (List.of_mem_zip hp).2) fun _ hp => h1 _ (List.of_mem_zip hp).2

set_option maxRecDepth 100000 in
set_option maxHeartbeats 8000000 in
theorem simValues_any (c : PC.Circ) (vc : Value) (st inp : List UInt8) (w : World) (h : IsCirc w vc c) (hs : st.length ≤ 9223372036854775807) (hi : inp.length ≤ 9223372036854775807) :
    Calls Tryz.prog 68 #[vc, .string ⟨st.toArray⟩, .string ⟨inp.toArray⟩] w fun e w' => e = .returned (.tuple #[.string ⟨(PC.valuesS c st inp).toArray⟩, .int .i64 (PC.valuesE c st inp)]) ∧ Below w.heap.size w w' := by
  have hCk : ∀ w1, Below w.heap.size w w1 → _ := fun w1 hb => cCheck_any c vc w1 (h.mono hb)
  rw [PC.pchk_eq] at hCk
  obtain ⟨vi, vl, vo, vb, vv, va, vn, rfl, hp, hm⟩ := h
  obtain ⟨ai, capi, rfl, hi1, hi2, hi3⟩ := hp.inputs.open_
  obtain ⟨al, capl, rfl, hl1, hl2, hl3⟩ := hp.latches.open_
  obtain ⟨aa, capa, rfl, ha1, ha2, ha3⟩ := hp.ands.open_
  clear hp
  have hB1 := fun w1 => simBits_any st c.latches.length w1 hs (by omega)
  have hB2 := fun w1 => simBits_any inp c.inputs.length w1 hi (by omega)
  have HI := Lib.hid hi3
  have HL := Lib.hid hl3
  have HG := Lib.hid ha3
  clear hl3 ha3 hi3
  obtain ⟨RS, hRS⟩ : ∃ R, R = PC.valuesS c st inp := ⟨_, rfl⟩
  obtain ⟨RE, hRE⟩ : ∃ R, R = PC.valuesE c st inp := ⟨_, rfl⟩
  rw [← hRS, ← hRE]
  have HRS := Lib.hid hRS
  have HRE := Lib.hid hRE
  clear hRS hRE
  have hb0 : Below w.heap.size w (w.alloc (.cells #[.int .i64 c.max, .slice ai c.inputs.length capi, .slice al c.latches.length capl, vo, vb, vv, .slice aa c.ands.length capa, vn] 27)) := (Below.refl _ _).alloc (Nat.le_refl _) _
  have hbx0 := Lib.hid (Box8.new w (.int .i64 c.max) (.slice ai c.inputs.length capi) (.slice al c.latches.length capl) vo vb vv (.slice aa c.ands.length capa) vn 27)
  cases hck : PC.chk c with
  | false =>
    rw [hck] at hCk
    have HCK := Lib.hid hck
    clear hck
    go_enter Tryz.func68, Tryz.ntmps68
    go_wp2_with fail
    refine (hCk _ (by exact hb0)).mono ?_
    rintro e w1 ⟨rfl, hb1⟩
    go_wp2_with fail
    go_ret2
    have e1 : RE = 9 := by rw [HRE.out, PC.valuesE, if_pos HCK.out]
    have e2 : RS = [] := by rw [HRS.out, PC.valuesS, ← HRE.out, e1]; rfl
    exact ⟨by rw [e1, e2]; rfl, Below.of hb0 hb1⟩
  | true =>
    rw [hck] at hCk
    have HR := Lib.hid (PC.right_of c hck)
    have HCK := Lib.hid hck
    clear hck
    cases d1 : PC.bitsOk st c.latches.length with
    | false =>
      rw [d1] at hB1
      have D1 := Lib.hid d1
      clear d1 hB2
      go_enter Tryz.func68, Tryz.ntmps68
      go_wp2_with fail
      refine (hCk _ (by exact hb0)).mono ?_
      rintro e w1 ⟨rfl, hb1⟩
      obtain ⟨q0, q1, q2, q3, q4, q5, q6, q7⟩ := hbx0.out.mono hb1
      go_wp2_with fail
      refine (hB1 _).mono ?_
      rintro e w2 ⟨rfl, hb2⟩
      go_wp2_with fail
      go_ret2
      have e1 : RE = 5 := by rw [HRE.out, PC.valuesE, if_neg (by rw [HCK.out]; decide), if_pos (Or.inl D1.out)]
      have e2 : RS = [] := by rw [HRS.out, PC.valuesS, ← HRE.out, e1]; rfl
      exact ⟨by rw [e1, e2]; rfl, Below.of (Below.of hb0 hb1) hb2⟩
    | true =>
      rw [d1] at hB1
      have D1 := Lib.hid d1
      clear d1
      go_enter Tryz.func68, Tryz.ntmps68
      go_wp2_with fail
      refine (hCk _ (by exact hb0)).mono ?_
      rintro e w1 ⟨rfl, hb1⟩
      have hbx1 := Lib.hid (hbx0.out.mono hb1)
      have hb01 := Below.of hb0 hb1
      obtain ⟨q0, q1, q2, q3, q4, q5, q6, q7⟩ := hbx1.out
      clear hbx0 hb0 hb1 hCk
      go_wp2_with fail
      refine (hB1 _).mono ?_
      rintro e w2 ⟨rfl, hb2⟩
      have hbx2 := Lib.hid (hbx1.out.mono hb2)
      have hb02 := Below.of hb01 hb2
      clear q0 q1 q2 q3 q4 q5 q6 q7 hbx1 hb01 hb2 hB1
      obtain ⟨q0, q1, q2, q3, q4, q5, q6, q7⟩ := hbx2.out
      cases d2 : PC.bitsOk inp c.inputs.length with
      | false =>
        rw [d2] at hB2
        have D2 := Lib.hid d2
        clear d2
        go_wp2_with fail
        refine (hB2 _).mono ?_
        rintro e w3 ⟨rfl, hb3⟩
        go_wp2_with fail
        go_ret2
        have e1 : RE = 5 := by rw [HRE.out, PC.valuesE, if_neg (by rw [HCK.out]; decide), if_pos (Or.inr D2.out)]
        have e2 : RS = [] := by rw [HRS.out, PC.valuesS, ← HRE.out, e1]; rfl
        exact ⟨by rw [e1, e2]; rfl, Below.of hb02 hb3⟩
      | true =>
        rw [d2] at hB2
        have D2 := Lib.hid d2
        clear d2
        have e1 : RE = 0 := by rw [HRE.out, PC.valuesE, if_neg (by rw [HCK.out]; decide), if_neg (by rw [D1.out, D2.out]; decide)]
        have e2 : RS = PC.vals c st inp := by rw [HRS.out, PC.valuesS, ← HRE.out, e1]; rfl
        subst e1
        have E2 := Lib.hid e2
        clear e2
        go_wp2_with fail
        refine (hB2 _).mono ?_
        rintro e w3 ⟨rfl, hb3⟩
        have hbx3 := Lib.hid (hbx2.out.mono hb3)
        have hb03 := Lib.hid (Below.of hb02 hb3)
        clear q0 q1 q2 q3 q4 q5 q6 q7 hbx2 hb02 hb3 hB2
        obtain ⟨hm0, hm1⟩ : 0 ≤ c.max ∧ c.max ≤ 2048 := ⟨HR.out.max0, HR.out.max1⟩
        have hN := Lib.hid (show ((c.max.toNat + 1 : Nat) : Int) = c.max + 1 by omega)
        obtain ⟨N, hNe⟩ : ∃ N, N = c.max.toNat + 1 := ⟨_, rfl⟩
        rw [← hNe] at hN
        have HNE := Lib.hid hNe
        have hN1 : 1 ≤ N ∧ N ≤ 2049 := by omega
        clear hNe
        obtain ⟨q0, q1, q2, q3, q4, q5, q6, q7⟩ := hbx3.out
        have hbs3 : w.heap.size < w3.heap.size := World.block_lt_of_cell? w3 _ q0
        have r0 := past1 q0
        have hRp := Lib.hid (Repeat_any N w3.heap.size (w3.alloc (.cells #[.int .u8 48] 5)) (by simp) (by rw [World.cell?_alloc_mark]; rfl) hN1.1 (by omega))
        rw [World.size_alloc, hN.out] at hRp
        go_wp2_with fail
        refine hRp.out.mono ?_
        rintro e w4 ⟨rfl, hown, hb4⟩
        obtain ⟨g, hgd⟩ : ∃ g, g = w3.heap.size + 1 := ⟨_, rfl⟩
        rw [← hgd] at hown ⊢
        have hg3 : Hid (w3.heap.size ≤ g) := by show _ ≤ _; omega
        have hb34 : Hid (Below w3.heap.size w3 w4) := Below.of ((Below.refl _ _).alloc (Nat.le_refl _) _) (by rw [World.size_alloc]; exact hb4)
        have hO4 : Hid (OwnB w4 g g N (List.replicate N 48)) := ⟨List.length_replicate, hown⟩
        have hNm : N ≤ 9223372036854775807 := by omega
        clear hb4 hown hgd hRp r0 q0 q1 q2 q3 q4 q5 q6 q7
        obtain ⟨q0, q1, q2, q3, q4, q5, q6, q7⟩ := hbx3.out.mono hb34.out
        go_wp2_with fail
        clear q0 q1 q2 q3 q4 q5 q6 q7
        obtain ⟨S0, hS0⟩ : ∃ l, l = List.replicate N (48 : UInt8) := ⟨_, rfl⟩
        rw [← hS0] at hO4
        have HS0 := Lib.hid hS0
        have hS0l : Hid (S0.length = N) := hO4.out.1
        clear hS0
        obtain ⟨f1, hf1⟩ : ∃ f : Nat → List UInt8, ∀ j, f j = PC.setAll S0 ((c.inputs.zip inp).take j) := ⟨_, fun _ => rfl⟩
        have hf10 : Hid (f1 0 = S0) := by rw [hf1]; rfl
        have hin : Hid (inp.length = c.inputs.length) := (PC.bitsOk_mem D2.out).2
        have hf1s : Hid (∀ j (h : j < c.inputs.length) (h' : j < inp.length), f1 (j + 1) = (f1 j).set (PC.varOf c.inputs[j]) inp[j]) := fun j h h' => by
          rw [hf1, hf1, PC.setAll_take_next _ _ (by rw [List.length_zip]; omega)]
          simp
        have hf1e : Hid (f1 c.inputs.length = PC.setAll S0 (c.inputs.zip inp)) := by
          show _ = _
          rw [hf1, List.take_of_length_le (by rw [List.length_zip]; omega)]
        clear hf1
        go_loopg [10, 11, 43] c.inputs.length (fun gg s10 s11 s43 wr => ∃ k : Nat, k ≤ c.inputs.length ∧ c.inputs.length - k ≤ gg ∧ s43 = .int .i64 k ∧ Below w3.heap.size w3 wr ∧ Hid (OwnB wr g g N (f1 k)))
        case atStart => exact ⟨0, Nat.zero_le _, by omega, rfl, hb34.out, by rw [hf10.out]; exact hO4⟩
        case round =>
          obtain ⟨k, hk, hg, rfl, hbr, hO⟩ := hrel
          by_cases hlt : k < c.inputs.length
          · have hmea : ∀ g : Nat, c.inputs.length - k ≤ g → c.inputs.length - (k + 1) < g := fun g h => by omega
            have hlti : k < inp.length := by rw [hin.out]; exact hlt
            obtain ⟨b, off, rfl, hbs', hxr, c0⟩ := HI.out k hlt
            have hbwr := Below.of hb03.out hbr
            have c0 := (hbwr.cell hbs').trans c0
            have hxd := HR.out.defs _ (PC.mem_defs_in c _ (List.getElem_mem hlt))
            have hxl := PC.def_lt c HR.out _ (PC.mem_defs_in c _ (List.getElem_mem hlt))
            rw [← HNE.out] at hxl
            have hst := hf1s.out k hlt hlti
            generalize hx : c.inputs[k] = x at *
            clear hx
            obtain ⟨y, hy⟩ : ∃ y, inp[k] = y := ⟨_, rfl⟩
            rw [hy] at hst
            have hset := Lib.hid (bset_own hO.out x y hxr hxl hNm)
            rw [← hst] at hset
            clear hst hxd hxl hxr
            have hltz : (k : Int) < (c.inputs.length : Int) := by omega
            have hltiz : (k : Int) < (inp.length : Int) := by omega
            go_wp2_with (go_at_call 98; refine hset.out.mono ?_; rintro e w5 ⟨rfl, hO5, hg5⟩)
            have hb5 := hbr.grown hg5 hbr.size (fun k e => by cases e; exact hg3.out)
            have hO5 := Lib.hid hO5
            go_roundg (c.inputs.length - (k + 1))
            case measure => exact hmea _ hg
            case rel => exact ⟨k + 1, by omega, by omega, by go_num, hb5, hO5⟩
          · have hltz : ¬ (k : Int) < (c.inputs.length : Int) := by omega
            obtain rfl : k = c.inputs.length := by omega
            clear hg hk hlt
            obtain ⟨q0, q1, q2, q3, q4, q5, q6, q7⟩ := hbx3.out.mono hbr
            go_wp2_with fail
            clear q0 q1 q2 q3 q4 q5 q6 q7
            obtain ⟨f2, hf2⟩ : ∃ f : Nat → List UInt8, ∀ j, f j = PC.setAll (f1 c.inputs.length) (((c.latches.map (·.lit)).zip st).take j) := ⟨_, fun _ => rfl⟩
            have hf20 : Hid (f2 0 = f1 c.inputs.length) := by rw [hf2]; rfl
            have hst0 : Hid (st.length = c.latches.length) := (PC.bitsOk_mem D1.out).2
            have hf2s : Hid (∀ j (h : j < c.latches.length) (h' : j < st.length), f2 (j + 1) = (f2 j).set (PC.varOf c.latches[j].lit) st[j]) := fun j h h' => by
              rw [hf2, hf2, PC.setAll_take_next _ _ (by rw [List.length_zip, List.length_map]; omega)]
              simp
            have hf2e : Hid (f2 c.latches.length = PC.start c st inp) := by
              show _ = _
              rw [hf2, List.take_of_length_le (by rw [List.length_zip, List.length_map]; omega), hf1e.out, HS0.out, HNE.out]; rfl
            clear hf2 hf1s
            go_loopg [12, 13, 58] c.latches.length (fun gg s12 s13 s58 wr => ∃ k : Nat, k ≤ c.latches.length ∧ c.latches.length - k ≤ gg ∧ s58 = .int .i64 k ∧ Below w3.heap.size w3 wr ∧ Hid (OwnB wr g g N (f2 k)))
            case atStart => exact ⟨0, Nat.zero_le _, by omega, rfl, hbr, by rw [hf20.out]; exact hO⟩
            case round =>
              clear hltz hbr hO
              obtain ⟨k, hk, hg, rfl, hbr, hO⟩ := hrel
              by_cases hlt : k < c.latches.length
              · have hmea : ∀ g : Nat, c.latches.length - k ≤ g → c.latches.length - (k + 1) < g := fun g h => by omega
                have hlti : k < st.length := by rw [hst0.out]; exact hlt
                obtain ⟨b, off, rfl, hbs', ⟨hxr, _, _⟩, c0, c1, c2⟩ := HL.out k hlt
                have hbwr := Below.of hb03.out hbr
                have c0 := (hbwr.cell hbs').trans c0
                have c1 := (hbwr.cell hbs').trans c1
                have c2 := (hbwr.cell hbs').trans c2
                have hxd := HR.out.defs _ (PC.mem_defs_lat c _ (List.getElem_mem hlt))
                have hxl := PC.def_lt c HR.out _ (PC.mem_defs_lat c _ (List.getElem_mem hlt))
                rw [← HNE.out] at hxl
                have hst := hf2s.out k hlt hlti
                generalize hx : c.latches[k] = x at *
                clear hx
                obtain ⟨x, xn, xr⟩ := x
                simp only at hxr c0 c1 c2 hxd hxl hst
                obtain ⟨y, hy⟩ : ∃ y, st[k] = y := ⟨_, rfl⟩
                rw [hy] at hst
                have hset : Hid (∀ W, OwnB W g g N (f2 k) → _) := fun W hW => bset_own hW x y hxr hxl hNm
                rw [← hst] at hset
                clear hst hxd hxl hxr
                have hltz : (k : Int) < (c.latches.length : Int) := by omega
                have hltiz : (k : Int) < (st.length : Int) := by omega
                have hn0 : (wr.alloc (.cells #[.int .i64 x, .int .i64 xn, .int .i64 xr] 38)).cell? ⟨wr.heap.size, 0, none⟩ = some (.int .i64 x) := by rw [World.cell?_alloc_mark]; rfl
                have hOa := Lib.hid (hO.out.alloc (.cells #[.int .i64 x, .int .i64 xn, .int .i64 xr] 38)).drew
                have hba := Lib.hid (hbr.alloc hbr.size (.cells #[.int .i64 x, .int .i64 xn, .int .i64 xr] 38)).drew
                obtain ⟨W, hW⟩ : ∃ W, W = wr.alloc (.cells #[.int .i64 x, .int .i64 xn, .int .i64 xr] 38) := ⟨_, rfl⟩
                rw [← hW] at hn0 hOa hba
                have HW := Lib.hid hW
                clear hW
                go_wp2_with fail
                rw [← HW.out]
                go_still_tail 6, (by kernel_rfl)
                change wpList _ _ _ _ _ W.drew
                go_wp2_with (go_at_call 98; refine (hset.out _ (by exact hOa.out)).mono ?_; rintro e w5 ⟨rfl, hO5, hg5⟩)
                have hb5 := hba.out.grown hg5 hba.out.size (fun k e => by cases e; exact hg3.out)
                have hO5 := Lib.hid hO5
                go_roundg (c.latches.length - (k + 1))
                case measure => exact hmea _ hg
                case rel => exact ⟨k + 1, by omega, by omega, by go_num, hb5, hO5⟩
              · have hltz : ¬ (k : Int) < (c.latches.length : Int) := by omega
                obtain rfl : k = c.latches.length := by omega
                clear hg hk hlt
                obtain ⟨q0, q1, q2, q3, q4, q5, q6, q7⟩ := hbx3.out.mono hbr
                go_wp2_with fail
                clear q0 q1 q2 q3 q4 q5 q6 q7
                obtain ⟨f3, hf3⟩ : ∃ f : Nat → List UInt8, ∀ j, f j = PC.setGats (PC.start c st inp) (c.ands.take j) := ⟨_, fun _ => rfl⟩
                have hf30 : Hid (f3 0 = f2 c.latches.length) := by show _ = _; rw [hf3, hf2e.out]; rfl
                have hf3s : Hid (∀ j (h : j < c.ands.length), f3 (j + 1) = (f3 j).set (PC.varOf c.ands[j].lit) (PC.bitB (PC.tru (f3 j) c.ands[j].left && PC.tru (f3 j) c.ands[j].right))) := fun j h => by
                  rw [hf3, hf3, PC.gate_step c HR.out st inp j h, PC.bit_min]
                have hf3b : Hid (∀ j, ∀ b ∈ f3 j, b = 48 ∨ b = 49) := fun j => by
                  rw [hf3]
                  exact PC.setGats_bits _ _ (PC.start_bits c st inp (PC.bitsOk_mem D1.out).1 (PC.bitsOk_mem D2.out).1)
                have hf3e : Hid (f3 c.ands.length = RS) := by
                  show _ = _
                  rw [hf3, List.take_of_length_le (Nat.le_refl _), E2.out]; rfl
                clear hf3 hf2e
                go_loopg [15, 74] c.ands.length (fun gg s15 s74 wr => ∃ k : Nat, k ≤ c.ands.length ∧ c.ands.length - k ≤ gg ∧ s74 = .int .i64 k ∧ Below w3.heap.size w3 wr ∧ Hid (OwnB wr g g N (f3 k)))
                case atStart => exact ⟨0, Nat.zero_le _, by omega, rfl, hbr, by rw [hf30.out]; exact hO⟩
                case round =>
                  clear hltz hbr hO
                  obtain ⟨k, hk, hg, rfl, hbr, hO⟩ := hrel
                  by_cases hlt : k < c.ands.length
                  · have hmea : ∀ g : Nat, c.ands.length - k ≤ g → c.ands.length - (k + 1) < g := fun g h => by omega
                    obtain ⟨b, off, rfl, hbs', ⟨hxr, hyr, hzr⟩, c0, c1, c2⟩ := HG.out k hlt
                    have hbwr := Below.of hb03.out hbr
                    have c0 := (hbwr.cell hbs').trans c0
                    have c1 := (hbwr.cell hbs').trans c1
                    have c2 := (hbwr.cell hbs').trans c2
                    have hxl := PC.def_lt c HR.out _ (PC.mem_defs_gat c _ (List.getElem_mem hlt))
                    rw [← HNE.out] at hxl
                    have hst := hf3s.out k hlt
                    have HSb := Lib.hid (hf3b.out k)
                    generalize hx : c.ands[k] = x at *
                    clear hx
                    obtain ⟨x, xl, xr⟩ := x
                    simp only at hxr hyr hzr c0 c1 c2 hxl hst
                    have hset : Hid (∀ W, OwnB W g g N (f3 k) → _) := fun W hW => bset_own hW x (PC.bitB (PC.tru (f3 k) xl && PC.tru (f3 k) xr)) hxr hxl hNm
                    rw [← hst] at hset
                    clear hst hxl hxr
                    have hltz : (k : Int) < (c.ands.length : Int) := by omega
                    have hn0 : (wr.alloc (.cells #[.int .i64 x, .int .i64 xl, .int .i64 xr] 35)).cell? ⟨wr.heap.size, 0, none⟩ = some (.int .i64 x) := by rw [World.cell?_alloc_mark]; rfl
                    have hn1 : (wr.alloc (.cells #[.int .i64 x, .int .i64 xl, .int .i64 xr] 35)).cell? ⟨wr.heap.size, 1, none⟩ = some (.int .i64 xl) := by rw [World.cell?_alloc_mark]; rfl
                    have hn2 : (wr.alloc (.cells #[.int .i64 x, .int .i64 xl, .int .i64 xr] 35)).cell? ⟨wr.heap.size, 2, none⟩ = some (.int .i64 xr) := by rw [World.cell?_alloc_mark]; rfl
                    have hOa := Lib.hid (hO.out.alloc (.cells #[.int .i64 x, .int .i64 xl, .int .i64 xr] 35)).drew
                    have hba := Lib.hid (hbr.alloc hbr.size (.cells #[.int .i64 x, .int .i64 xl, .int .i64 xr] 35)).drew
                    obtain ⟨W, hW⟩ : ∃ W, W = wr.alloc (.cells #[.int .i64 x, .int .i64 xl, .int .i64 xr] 35) := ⟨_, rfl⟩
                    rw [← hW] at hn0 hn1 hn2 hOa hba
                    have HW := Lib.hid hW
                    clear hW
                    obtain ⟨S, hS⟩ : ∃ S, S = f3 k := ⟨_, rfl⟩
                    rw [← hS] at HSb hOa hset
                    clear hS
                    cases dl : PC.tru S xl with
                    | true =>
                      rw [dl] at hset
                      cases dr : PC.tru S xr with
                      | true =>
                        rw [dr] at hset
                        have hofl : Hid (∀ W, OwnB W g g N S → _) := fun W hW => bof_own hW xl HSb.out hyr hNm
                        have hofr : Hid (∀ W, OwnB W g g N S → _) := fun W hW => bof_own hW xr HSb.out hzr hNm
                        rw [dl] at hofl
                        rw [dr] at hofr
                        have hofl : Calls Tryz.prog 99 #[.slice (some ⟨g, 0, none⟩) N N, .int .i64 xl] W.drew fun e w' => e = .returned (.int .u8 49) ∧ w' = W.drew := hofl.out W.drew hOa.out
                        have hofr : Calls Tryz.prog 99 #[.slice (some ⟨g, 0, none⟩) N N, .int .i64 xr] W.drew fun e w' => e = .returned (.int .u8 49) ∧ w' = W.drew := hofr.out W.drew hOa.out
                        go_wp2_with fail
                        rw [← HW.out]
                        refine wp_region_still_tail 12 (by kernel_rfl) (by kernel_rfl) ?_
                        simp only [List.take_succ_cons, List.take_zero, List.drop_succ_cons, List.drop_zero]
                        repeat still_step
                        still_call hofl
                        repeat still_step
                        still_call hofr
                        repeat still_step
                        refine wpStill_nil ?_
                        change wpList _ _ _ _ _ W.drew
                        go_wp2_with (go_at_call 98; refine (hset.out _ (by exact hOa.out)).mono ?_; rintro e w5 ⟨rfl, hO5, hg5⟩)
                        have hb5 := hba.out.grown hg5 hba.out.size (fun k e => by cases e; exact hg3.out)
                        have hO5 := Lib.hid hO5
                        go_roundg (c.ands.length - (k + 1))
                        case measure => exact hmea _ hg
                        case rel => exact ⟨k + 1, by omega, by omega, by go_num, hb5, hO5⟩
                      | false =>
                        rw [dr] at hset
                        have hofl : Hid (∀ W, OwnB W g g N S → _) := fun W hW => bof_own hW xl HSb.out hyr hNm
                        have hofr : Hid (∀ W, OwnB W g g N S → _) := fun W hW => bof_own hW xr HSb.out hzr hNm
                        rw [dl] at hofl
                        rw [dr] at hofr
                        have hofl : Calls Tryz.prog 99 #[.slice (some ⟨g, 0, none⟩) N N, .int .i64 xl] W.drew fun e w' => e = .returned (.int .u8 49) ∧ w' = W.drew := hofl.out W.drew hOa.out
                        have hofr : Calls Tryz.prog 99 #[.slice (some ⟨g, 0, none⟩) N N, .int .i64 xr] W.drew fun e w' => e = .returned (.int .u8 48) ∧ w' = W.drew := hofr.out W.drew hOa.out
                        go_wp2_with fail
                        rw [← HW.out]
                        refine wp_region_still_tail 12 (by kernel_rfl) (by kernel_rfl) ?_
                        simp only [List.take_succ_cons, List.take_zero, List.drop_succ_cons, List.drop_zero]
                        repeat still_step
                        still_call hofl
                        repeat still_step
                        still_call hofr
                        repeat still_step
                        refine wpStill_nil ?_
                        change wpList _ _ _ _ _ W.drew
                        go_wp2_with (go_at_call 98; refine (hset.out _ (by exact hOa.out)).mono ?_; rintro e w5 ⟨rfl, hO5, hg5⟩)
                        have hb5 := hba.out.grown hg5 hba.out.size (fun k e => by cases e; exact hg3.out)
                        have hO5 := Lib.hid hO5
                        go_roundg (c.ands.length - (k + 1))
                        case measure => exact hmea _ hg
                        case rel => exact ⟨k + 1, by omega, by omega, by go_num, hb5, hO5⟩
                    | false =>
                      rw [dl] at hset
                      cases dr : PC.tru S xr with
                      | true =>
                        rw [dr] at hset
                        have hofl : Hid (∀ W, OwnB W g g N S → _) := fun W hW => bof_own hW xl HSb.out hyr hNm
                        have hofr : Hid (∀ W, OwnB W g g N S → _) := fun W hW => bof_own hW xr HSb.out hzr hNm
                        rw [dl] at hofl
                        rw [dr] at hofr
                        have hofl : Calls Tryz.prog 99 #[.slice (some ⟨g, 0, none⟩) N N, .int .i64 xl] W.drew fun e w' => e = .returned (.int .u8 48) ∧ w' = W.drew := hofl.out W.drew hOa.out
                        have hofr : Calls Tryz.prog 99 #[.slice (some ⟨g, 0, none⟩) N N, .int .i64 xr] W.drew fun e w' => e = .returned (.int .u8 49) ∧ w' = W.drew := hofr.out W.drew hOa.out
                        go_wp2_with fail
                        rw [← HW.out]
                        refine wp_region_still_tail 12 (by kernel_rfl) (by kernel_rfl) ?_
                        simp only [List.take_succ_cons, List.take_zero, List.drop_succ_cons, List.drop_zero]
                        repeat still_step
                        still_call hofl
                        repeat still_step
                        still_call hofr
                        repeat still_step
                        refine wpStill_nil ?_
                        change wpList _ _ _ _ _ W.drew
                        go_wp2_with (go_at_call 98; refine (hset.out _ (by exact hOa.out)).mono ?_; rintro e w5 ⟨rfl, hO5, hg5⟩)
                        have hb5 := hba.out.grown hg5 hba.out.size (fun k e => by cases e; exact hg3.out)
                        have hO5 := Lib.hid hO5
                        go_roundg (c.ands.length - (k + 1))
                        case measure => exact hmea _ hg
                        case rel => exact ⟨k + 1, by omega, by omega, by go_num, hb5, hO5⟩
                      | false =>
                        rw [dr] at hset
                        have hofl : Hid (∀ W, OwnB W g g N S → _) := fun W hW => bof_own hW xl HSb.out hyr hNm
                        have hofr : Hid (∀ W, OwnB W g g N S → _) := fun W hW => bof_own hW xr HSb.out hzr hNm
                        rw [dl] at hofl
                        rw [dr] at hofr
                        have hofl : Calls Tryz.prog 99 #[.slice (some ⟨g, 0, none⟩) N N, .int .i64 xl] W.drew fun e w' => e = .returned (.int .u8 48) ∧ w' = W.drew := hofl.out W.drew hOa.out
                        have hofr : Calls Tryz.prog 99 #[.slice (some ⟨g, 0, none⟩) N N, .int .i64 xr] W.drew fun e w' => e = .returned (.int .u8 48) ∧ w' = W.drew := hofr.out W.drew hOa.out
                        go_wp2_with fail
                        rw [← HW.out]
                        refine wp_region_still_tail 12 (by kernel_rfl) (by kernel_rfl) ?_
                        simp only [List.take_succ_cons, List.take_zero, List.drop_succ_cons, List.drop_zero]
                        repeat still_step
                        still_call hofl
                        repeat still_step
                        still_call hofr
                        repeat still_step
                        refine wpStill_nil ?_
                        change wpList _ _ _ _ _ W.drew
                        go_wp2_with (go_at_call 98; refine (hset.out _ (by exact hOa.out)).mono ?_; rintro e w5 ⟨rfl, hO5, hg5⟩)
                        have hb5 := hba.out.grown hg5 hba.out.size (fun k e => by cases e; exact hg3.out)
                        have hO5 := Lib.hid hO5
                        go_roundg (c.ands.length - (k + 1))
                        case measure => exact hmea _ hg
                        case rel => exact ⟨k + 1, by omega, by omega, by go_num, hb5, hO5⟩
                  · have hltz : ¬ (k : Int) < (c.ands.length : Int) := by omega
                    obtain rfl : k = c.ands.length := by omega
                    clear hg hk hlt
                    have hO9 := hO.out
                    rw [hf3e.out] at hO9
                    have hoct := hO9.octs hNm
                    have hconv : (convert 142 9 (.slice (some ⟨g, 0, none⟩) N N)).run Tryz.prog wr = .ok (.string ⟨RS.toArray⟩) wr := by
                      have := run_convert_bytes_back (P := Tryz.prog) wr 142 9 5 ⟨g, 0, none⟩ N RS Tryz.underlying142 Tryz.underlying5 Tryz.underlying9 (fun j hj => by
                        obtain ⟨ao, cap, e, _, hh⟩ := hoct
                        obtain ⟨b, off, e2, _, h4⟩ := hh j hj
                        cases e
                        cases e2
                        rw [Nat.zero_add] at h4
                        rw [Go.WideShapes.add_plain, Nat.zero_add]
                        exact h4)
                      rw [hO9.1] at this
                      exact this
                    clear hoct hO9
                    go_wp2_with fail
                    go_ret2
                    exact ⟨rfl, Below.of hb03.out hbr⟩

end Go.Proofs.YtpkaoabpifeigaaGreatDoor
