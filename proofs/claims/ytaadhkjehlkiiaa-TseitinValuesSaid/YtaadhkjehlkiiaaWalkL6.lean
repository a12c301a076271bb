/- The walk of TseitinValues, whole. -/
import Derived.Test.YtaadhkjehlkiiaaWalkL5
namespace Go.Proofs.Ytaadhkjehlkiiaa
open Go.RowKit Go.Shelf
attribute [local simp] mk_get

/-- what was laid so far: the values, some that may be turned are turned -/
structure VInv (c : PC.Circ) (VS : List UInt8) (k g : Nat) (W : List UInt8) (sm : Bool) : Prop where
  g_le : g ≤ k
  len : W.length = k
  keep : ∀ j, j < k → free c j = false → W[j]? = VS[j]?
  bits : ∀ x ∈ W, x = 48 ∨ x = 49
  same : sm = true ↔ W = VS.take k

theorem VInv.zero (c : PC.Circ) (VS : List UInt8) : VInv c VS 0 0 [] true := ⟨Nat.le_refl _, rfl, fun j hj => absurd hj (Nat.not_lt_zero _), fun x hx => by simp at hx, by simp⟩

theorem VInv.step {c : PC.Circ} {VS : List UInt8} {k g g' : Nat} {W : List UInt8} {sm : Bool} (h : VInv c VS k g W sm) (hk : k < VS.length) (hg : g' ≤ k + 1) (hb : VS[k] = 48 ∨ VS[k] = 49) : VInv c VS (k + 1) g' (W ++ [VS[k]]) sm := by
  refine ⟨hg, by rw [List.length_append, h.len]; rfl, fun j hj hf => ?_, fun x hx => ?_, ?_⟩
  · by_cases e : j < k
    · rw [List.getElem?_append_left (by rw [h.len]; exact e)]
      exact h.keep j e hf
    · have e1 : j = k := by omega
      subst e1
      rw [List.getElem?_append_right (by rw [h.len]; exact Nat.le_refl _), h.len, Nat.sub_self, List.getElem?_eq_getElem hk]
      rfl
  · rcases List.mem_append.1 hx with hx | hx
    · exact h.bits x hx
    · have : x = VS[k] := by simpa using hx
      rw [this]; exact hb
  · rw [h.same, List.take_succ_eq_append_getElem hk]
    constructor
    · intro e; rw [e]
    · intro e
      exact (List.append_inj e (by rw [h.len, List.length_take]; omega)).1

theorem VInv.turn {c : PC.Circ} {VS : List UInt8} {k g g' : Nat} {W : List UInt8} {sm : Bool} {y : UInt8} (h : VInv c VS k g W sm) (hk : k < VS.length) (hg : g' ≤ k + 1) (hf : free c k = true) (hy : y = 48 ∨ y = 49) (hne : y ≠ VS[k]) : VInv c VS (k + 1) g' (W ++ [y]) false := by
  refine ⟨hg, by rw [List.length_append, h.len]; rfl, fun j hj hfj => ?_, fun x hx => ?_, ?_⟩
  · by_cases e : j < k
    · rw [List.getElem?_append_left (by rw [h.len]; exact e)]
      exact h.keep j e hfj
    · have e1 : j = k := by omega
      subst e1
      rw [hf] at hfj; cases hfj
  · rcases List.mem_append.1 hx with hx | hx
    · exact h.bits x hx
    · have : x = y := by simpa using hx
      rw [this]; exact hy
  · constructor
    · intro e; cases e
    · intro e
      exfalso
      rw [List.take_succ_eq_append_getElem hk] at e
      have := (List.append_inj e (by rw [h.len, List.length_take]; omega)).2
      simp at this
      exact hne this

theorem VInv.done {c : PC.Circ} {st i : List UInt8} {g : Nat} {W : List UInt8} {sm : Bool} (h : PC.Right c) (hv : VInv c (PC.vals c st i) (PC.vals c st i).length g W sm) (b1 : ∀ b ∈ st, b = 48 ∨ b = 49) (b2 : ∀ b ∈ i, b = 48 ∨ b = 49) :
    (PC.gatesT c 0).all (PC.one W) = sm := by
  have hlen := PC.vals_length c st i
  cases sm with
  | true =>
    have e := hv.same.1 rfl
    rw [List.take_length] at e
    rw [e]
    exact PC.vals_models c h st i
  | false =>
    rw [Bool.eq_false_iff]
    intro hall
    have hu := PC.models_unique c h W (PC.vals c st i) (by rw [hv.len, hlen]) hlen hv.bits (PC.vals_bits c st i b1 b2) (fun d hd => hv.keep _ (by
      rw [hlen]
      refine PC.def_lt c h d ?_
      unfold PC.Circ.defs
      rcases hd with hd | hd
      · exact List.mem_append_left _ (List.mem_append_left _ hd)
      · exact List.mem_append_left _ (List.mem_append_right _ hd)) (free_def c h d hd)) hall (PC.vals_models c h st i)
    have := hv.same.2 (by rw [List.take_length]; exact hu)
    cases this

theorem cat_oct (a : List UInt8) (x : UInt8) : (ByteArray.mk a.toArray) ++ (ByteArray.mk #[x]) = ⟨(a ++ [x]).toArray⟩ := by
  rw [show (ByteArray.mk #[x]) = ⟨([x] : List UInt8).toArray⟩ from rfl, cat_eq]

theorem conv_one (y : Int) (x : UInt8) (hy : y = (x.toNat : Int)) (w : World) : (convert 49 9 (.slice (some ⟨w.heap.size, 0, none⟩) 1 1)).run Try.prog (w.alloc (.cells #[.int .u8 y] 5)) = .ok (.string ⟨#[x]⟩) (w.alloc (.cells #[.int .u8 y] 5)) := by
  subst hy
  refine run_convert_bytes_back (w.alloc (.cells #[.int .u8 (x.toNat : Int)] 5)) 49 9 5 ⟨w.heap.size, 0, none⟩ 1 [x] Try.underlying49 Try.underlying5 Try.underlying9 fun j hj => ?_
  have hj0 : j = 0 := by simp at hj; omega
  subst hj0
  exact World.cell?_alloc_mark _ _ _ _ _

set_option maxRecDepth 100000 in
set_option maxHeartbeats 8000000 in
theorem values_walk (c : PC.Circ) (vc : Value) (st inp : List UInt8) (turn : Int) (w : World) (h : IsCirc w vc c) (hf : Fits c) (hs : st.length ≤ 9223372036854775806) (hi : inp.length ≤ 9223372036854775806) (ht0 : 0 ≤ turn) (ht1 : turn ≤ 18446744073709551615) :
    Calls Try.prog 6 #[vc, .string ⟨st.toArray⟩, .string ⟨inp.toArray⟩, .int .u64 turn] w fun e w' => e = .returned (.bool true) ∧ Below w.heap.size w w' := by
  have hVal := Lib.hid fun w1 (hb : Below w.heap.size w w1) => rValues_any c vc st inp w1 (h.mono hb) hf hs hi
  have hGb := Lib.hid fun w1 (hb : Below w.heap.size w w1) (hE : rightE c 0 ≠ 0) => tGates_bad c vc 0 w1 (h.mono hb) hE
  have hGg := Lib.hid fun w1 (hb : Below w.heap.size w w1) (hE : rightE c 0 = 0) => tGates_good c vc 0 w1 (h.mono hb) hE
  have hGt := Lib.hid fun k hk w1 (hb : Below w.heap.size w w1) => gate12_any c vc k w1 (h.mono hb) hk
  have hKd := Lib.hid fun v hv w1 (hb : Below w.heap.size w w1) => rKind_any c vc v w1 hv (h.mono hb)
  obtain ⟨vi, vl, vo, vb, vv, va, vn, rfl, hp, hmx⟩ := h
  clear hp
  have hb1 : Below w.heap.size w (w.alloc (.cells #[.int .i64 c.max, vi, vl, vo, vb, vv, va, vn] 27)) := (Below.refl _ _).alloc (Nat.le_refl _) _
  have hbx := Lib.hid (Box8.new w (.int .i64 c.max) vi vl vo vb vv va vn 27)
  obtain ⟨q0, q1, q2, q3, q4, q5, q6, q7⟩ := hbx.out
  obtain ⟨VE, hVE⟩ : ∃ x, x = PC.valuesE c st inp := ⟨_, rfl⟩
  obtain ⟨VS, hVS⟩ : ∃ x, x = PC.valuesS c st inp := ⟨_, rfl⟩
  rw [← hVE, ← hVS] at hVal
  have HVE := Lib.hid hVE
  have HVS := Lib.hid hVS
  clear hVE hVS
  go_enter Try.func6, Try.ntmps6
  go_wp2_with (go_at_call 11; refine (alive12_any _).mono ?_; rintro e w2 ⟨rfl, rfl⟩)
  refine (hVal.out _ (by exact hb1)).mono ?_
  rintro e w3 ⟨rfl, hb3⟩
  have hbw3 := Below.of hb1 hb3
  have hbx3 := Lib.hid (hbx.out.mono hb3)
  clear q0 q1 q2 q3 q4 q5 q6 q7
  obtain ⟨q0, q1, q2, q3, q4, q5, q6, q7⟩ := hbx3.out
  cases hck : PC.chk c with
  | false =>
    have hE : rightE c 0 = 9 := by unfold rightE; rw [if_pos hck]
    have hV9 : VE = 9 := by rw [HVE.out, PC.valuesE, if_pos hck]
    subst hV9
    have hFb : Hid (∀ w1, Below w.heap.size w w1 → _) := fun w1 hb => hGb.out w1 hb (by rw [hE]; decide)
    rw [hE] at hFb
    clear hck hE HVE
    go_wp2_with (first | (go_at_call 22; refine (hFb.out _ (by exact hbw3)).mono ?_; rintro e w4 ⟨rfl, hb4⟩) | (go_at_call 14; refine (num12_any _ _).mono ?_; rintro e w5 ⟨rfl, rfl⟩))
    go_ret
    exact ⟨rfl, Below.of hbw3 hb4⟩
  | true =>
    have hE : rightE c 0 = 0 := by unfold rightE; rw [if_neg (by rw [hck]; decide), if_neg (by omega)]
    have hFg : Hid (∀ w1, Below w.heap.size w w1 → _) := fun w1 hb => hGg.out w1 hb hE
    have HRt := Lib.hid (PC.right_of c hck)
    have HCK := Lib.hid hck
    clear hE hck
    by_cases hbits : PC.bitsOk st c.latches.length = false ∨ PC.bitsOk inp c.inputs.length = false
    · have hV5 : VE = 5 := by rw [HVE.out, PC.valuesE, if_neg (by rw [HCK.out]; decide), if_pos hbits]
      subst hV5
      clear hbits HVE
      go_wp2_with (first | (go_at_call 22; refine (hFg.out _ (by exact hbw3)).mono ?_; rintro e w4 ⟨u, rfl, hu, hb4⟩) | (go_at_call 14; refine (num12_any _ _).mono ?_; rintro e w5 ⟨rfl, rfl⟩))
      go_ret
      exact ⟨rfl, Below.of hbw3 hb4⟩
    · have hV0 : VE = 0 := by rw [HVE.out, PC.valuesE, if_neg (by rw [HCK.out]; decide), if_neg hbits]
      have hVS0 : Hid (VS = PC.vals c st inp) := by show _ = _; rw [HVS.out, PC.valuesS, ← HVE.out, hV0]; rfl
      have hbst : Hid ((∀ b ∈ st, b = 48 ∨ b = 49) ∧ (∀ b ∈ inp, b = 48 ∨ b = 49)) := by
        refine ⟨(PC.bitsOk_mem (n := c.latches.length) ?_).1, (PC.bitsOk_mem (n := c.inputs.length) ?_).1⟩
        · cases hq : PC.bitsOk st c.latches.length with
          | true => rfl
          | false => exact absurd (Or.inl hq) hbits
        · cases hq : PC.bitsOk inp c.inputs.length with
          | true => rfl
          | false => exact absurd (Or.inr hq) hbits
      subst hV0
      clear hbits HVE
      have hVlen : VS.length = c.max.toNat + 1 := by rw [hVS0.out]; exact PC.vals_length c st inp
      have hVl2 : VS.length ≤ 9223372036854775807 := by have := HRt.out.max1; omega
      have hVl3 : Hid (VS.length ≤ 2049) := by have := HRt.out.max1; show _ ≤ _; omega
      have hbitsV : Hid (∀ j (h : j < VS.length), VS[j] = 48 ∨ VS[j] = 49) := fun j h => by
        have := PC.vals_bits c st inp hbst.out.1 hbst.out.2
        rw [← hVS0.out] at this
        exact this _ (List.getElem_mem h)
      have hmod := PC.vals_models c HRt.out st inp
      rw [← hVS0.out] at hmod
      clear hVlen
      go_wp2_with (first | (go_at_call 22; refine (hFg.out _ (by exact hbw3)).mono ?_; rintro e w4 ⟨u, rfl, hu, hb4⟩) | (go_at_call 14; refine (num12_any _ _).mono ?_; rintro e w5 ⟨rfl, rfl⟩))
      have hbw4 := Lib.hid (Below.of hbw3 hb4)
      have hbx4 := Lib.hid (hbx3.out.mono hb4)
      obtain ⟨L, hL⟩ : ∃ L, L = PC.gatesT c 0 := ⟨_, rfl⟩
      rw [← hL] at hmod hu
      have hLL := hu.lists
      have HLL := Lib.hid hLL
      obtain ⟨ao, cap, rfl, hu1, hu2, hu3⟩ := hLL.open_
      have HU := Lib.hid hu3
      have HL := Lib.hid hL
      have HMOD := Lib.hid hmod
      clear hu3 hL hu hLL hmod q0 q1 q2 q3 q4 q5 q6 q7
      go_loopg [13] L.length (fun gg s13 wr => ∃ k : Nat, k ≤ L.length ∧ L.length - k ≤ gg ∧ s13 = .int .i64 k ∧ w4 = wr)
      case atStart => exact ⟨0, Nat.zero_le _, by omega, rfl, rfl⟩
      case round =>
        obtain ⟨k, hk, hg, rfl, rfl⟩ := hrel
        by_cases hlt : k < L.length
        · obtain ⟨b', off, u, rfl, hbs, hc, hiu⟩ := HU.out k hlt
          have hmea : ∀ g : Nat, L.length - k ≤ g → L.length - (k + 1) < g := fun g h => by omega
          have hone := List.all_eq_true.1 HMOD.out _ (List.getElem_mem hlt)
          generalize hy : L[k] = y at *
          clear hy
          have hltz : (k : Int) < (L.length : Int) := by omega
          have hO := rOne_any VS y u w4 hiu hVl2
          rw [hone] at hO
          have hO := Lib.hid hO
          clear hone
          go_wp2_with (go_at_call 15; refine hO.out.mono ?_; rintro e w5 ⟨rfl, rfl⟩)
          go_roundg (L.length - (k + 1))
          case measure => exact hmea _ hg
          case rel => exact ⟨k + 1, by omega, by omega, by go_num, rfl⟩
        · have hltz : ¬ (k : Int) < (L.length : Int) := by omega
          go_wp2_with fail
          clear hltz hlt hg hk
          have hc48 := conv_one 48 48 (by decide)
          have hc49 := conv_one 49 49 (by decide)
          go_loopg [14, 15, 16, 17] VS.length (fun gg s14 s15 s16 s17 wr => ∃ (k g : Nat) (Wl : List UInt8) (sm : Bool), k ≤ VS.length ∧ VS.length - k ≤ gg ∧ s14 = .string ⟨Wl.toArray⟩ ∧ s15 = .int .i64 g ∧ s16 = .bool sm ∧ s17 = .int .i64 k ∧ Below w4.heap.size w4 wr ∧ Aside (VInv c VS k g Wl sm))
          case atStart => exact ⟨0, 0, [], true, Nat.zero_le _, by omega, rfl, rfl, rfl, rfl, Below.refl _ _, VInv.zero c VS⟩
          case round =>
            obtain ⟨k, g, Wl, sm, hk, hg, rfl, rfl, rfl, rfl, hbr, hI⟩ := hrel
            by_cases hlt : k < VS.length
            · have hmea : ∀ g : Nat, VS.length - k ≤ g → VS.length - (k + 1) < g := fun g h => by omega
              have hltz : (k : Int) < (VS.length : Int) := by omega
              have hkb : k ≤ 4096 := by have := hVl3.out; omega
              have hgb0 : g ≤ 4096 := by have := hI.out.g_le; omega
              obtain ⟨r, hr⟩ : ∃ r : Nat, r = g % 64 := ⟨_, rfl⟩
              have hr1 : (g : Int).tmod 64 = (r : Int) := by rw [Int.tmod_eq_emod_of_nonneg (by omega)]; omega
              have hr2 : IntKind.u64.wrap (g : Int) = (g : Int) := by rw [IntKind.wrap_u64]; omega
              have hr3 : IntKind.u64.wrap (r : Int) = (r : Int) := by rw [IntKind.wrap_u64]; omega
              obtain ⟨SH, hSH⟩ : ∃ S, S = turn / 2 ^ r := ⟨_, rfl⟩
              have hsh : Op.shift .shr .u64 turn .u64 (r : Int) = pure (.int .u64 SH) := by
                rw [shift_shr .u64 .u64 turn (r : Int) (by omega) (by show (r : Int) ≤ 64; omega), hSH]; rfl
              obtain ⟨AN, hAN⟩ : ∃ A, A = bits BinOp.and IntKind.u64 SH 1 := ⟨_, rfl⟩
              have han := hAN.symm
              clear hr hSH hAN
              have hgb : g ≤ 4096 := by have := hI.out.g_le; omega
              have hbwr := Lib.hid (Below.of hbw4.out hbr)
              obtain ⟨q0, q1, q2, q3, q4, q5, q6, q7⟩ := hbx4.out.mono hbr
              have hwl : Wl.length + 1 ≤ 9223372036854775807 := by have := hI.out.len; omega
              obtain ⟨W48, hW48⟩ : ∃ W48, W48 = Wl ++ [48] := ⟨_, rfl⟩
              obtain ⟨W49, hW49⟩ : ∃ W49, W49 = Wl ++ [49] := ⟨_, rfl⟩
              have hcat48 := cat_oct Wl 48
              have hcat49 := cat_oct Wl 49
              rw [← hW48] at hcat48
              rw [← hW49] at hcat49
              have H48 := Lib.hid hW48.symm
              have H49 := Lib.hid hW49.symm
              clear hW48 hW49
              rcases hbitsV.out k hlt with hx | hx
              · have X := Lib.hid hx
                have hk2 := H48
                have ht := H49
                have hinvK := Lib.hid (hI.out.step (g' := g + 1) hlt (by have := hI.out.g_le; omega) (by rw [X.out]; decide))
                rw [X.out, hk2.out] at hinvK
                by_cases k0 : k = 0
                · have hfr : free c k = true := by simp [free, k0]
                  have hinvT := Lib.hid (hI.out.turn (y := 49) (g' := g + 1) hlt (by have := hI.out.g_le; omega) hfr (by decide) (by rw [X.out]; decide))
                  have hk0z : (k : Int) = 0 := by omega
                  have hpos0 : 0 < VS.length := by omega
                  have hx0 : VS[0]'hpos0 = 48 := by have h := X.out; simp only [k0] at h; exact h
                  clear k0 hfr
                  rw [ht.out] at hinvT
                  go_wp2_with (first | (go_at_call 23; refine (hGa.out _ (by exact hbwr.out)).mono ?_; rintro e w5 ⟨rfl, hb5⟩; have hbw5 := Below.of hbwr.out hb5; clear q0 q1 q2 q3 q4 q5 q6 q7; obtain ⟨q0, q1, q2, q3, q4, q5, q6, q7⟩ := (hbx4.out.mono hbr).mono hb5) | (go_at_call 24; refine (hKi.out _ (by exact hbw5)).mono ?_; rintro e w6 ⟨rfl, hb6⟩))
                  · go_roundg (VS.length - (k + 1))
                    case measure => exact hmea _ hg
                    case rel =>
                      exact ⟨k + 1, g + 1, W49, false, by omega, by omega, rfl, by go_num, rfl, by go_num, by exact hbr.alloc hbr.size _, hinvT.out⟩
                  · go_roundg (VS.length - (k + 1))
                    case measure => exact hmea _ hg
                    case rel =>
                      exact ⟨k + 1, g + 1, W48, sm, by omega, by omega, rfl, by go_num, rfl, by go_num, by exact hbr.alloc hbr.size _, hinvK.out⟩
                · have hk0z : ¬ (k : Int) = 0 := by omega
                  have hk0y : ((k : Int) == 0) = false := by simpa using hk0z
                  have K0 := Lib.hid k0
                  cases hgt : isGate c k with
                  | true =>
                    have hfr : free c k = true := by simp [free, hgt]
                    have hinvT := Lib.hid (hI.out.turn (y := 49) (g' := g + 1) hlt (by have := hI.out.g_le; omega) hfr (by decide) (by rw [X.out]; decide))
                    have hGa := Lib.hid fun w1 hb => by have := hGt.out k hkb w1 hb; rw [hgt] at this; exact this
                    clear hgt hfr k0
                    rw [ht.out] at hinvT
                    go_wp2_with (first | (go_at_call 23; refine (hGa.out _ (by exact hbwr.out)).mono ?_; rintro e w5 ⟨rfl, hb5⟩; have hbw5 := Below.of hbwr.out hb5; clear q0 q1 q2 q3 q4 q5 q6 q7; obtain ⟨q0, q1, q2, q3, q4, q5, q6, q7⟩ := (hbx4.out.mono hbr).mono hb5) | (go_at_call 24; refine (hKi.out _ (by exact hbw5)).mono ?_; rintro e w6 ⟨rfl, hb6⟩))
                    · go_roundg (VS.length - (k + 1))
                      case measure => exact hmea _ hg
                      case rel =>
                        exact ⟨k + 1, g + 1, W49, false, by omega, by omega, rfl, by go_num, rfl, by go_num, by exact (hbr.trans (hb5.mono hbr.size)).alloc (Nat.le_trans hbr.size hb5.size) _, hinvT.out⟩
                    · go_roundg (VS.length - (k + 1))
                      case measure => exact hmea _ hg
                      case rel =>
                        exact ⟨k + 1, g + 1, W48, sm, by omega, by omega, rfl, by go_num, rfl, by go_num, by exact (hbr.trans (hb5.mono hbr.size)).alloc (Nat.le_trans hbr.size hb5.size) _, hinvK.out⟩
                  | false =>
                    have hGa := Lib.hid fun w1 hb => by have := hGt.out k hkb w1 hb; rw [hgt] at this; exact this
                    have hKi := Lib.hid fun w1 hb => hKd.out (k : Int) (by unfold rng; omega) w1 hb
                    cases hki : PC.kindS c (k : Int) with
                    | nil =>
                      have hfr : free c k = true := by simp [free, hki]
                      have hinvT := Lib.hid (hI.out.turn (y := 49) (g' := g + 1) hlt (by have := hI.out.g_le; omega) hfr (by decide) (by rw [X.out]; decide))
                      rw [hki] at hKi
                      clear hgt hki hfr k0
                      rw [ht.out] at hinvT
                      go_wp2_with (first | (go_at_call 23; refine (hGa.out _ (by exact hbwr.out)).mono ?_; rintro e w5 ⟨rfl, hb5⟩; have hbw5 := Below.of hbwr.out hb5; clear q0 q1 q2 q3 q4 q5 q6 q7; obtain ⟨q0, q1, q2, q3, q4, q5, q6, q7⟩ := (hbx4.out.mono hbr).mono hb5) | (go_at_call 24; refine (hKi.out _ (by exact hbw5)).mono ?_; rintro e w6 ⟨rfl, hb6⟩))
                      · go_roundg (VS.length - (k + 1))
                        case measure => exact hmea _ hg
                        case rel =>
                          exact ⟨k + 1, g + 1, W49, false, by omega, by omega, rfl, by go_num, rfl, by go_num, by exact ((hbr.trans (hb5.mono hbr.size)).trans (hb6.mono (Nat.le_trans hbr.size hb5.size))).alloc (Nat.le_trans (Nat.le_trans hbr.size hb5.size) hb6.size) _, hinvT.out⟩
                      · go_roundg (VS.length - (k + 1))
                        case measure => exact hmea _ hg
                        case rel =>
                          exact ⟨k + 1, g + 1, W48, sm, by omega, by omega, rfl, by go_num, rfl, by go_num, by exact ((hbr.trans (hb5.mono hbr.size)).trans (hb6.mono (Nat.le_trans hbr.size hb5.size))).alloc (Nat.le_trans (Nat.le_trans hbr.size hb5.size) hb6.size) _, hinvK.out⟩
                    | cons kx kr =>
                      have hinvN := Lib.hid (hI.out.step (g' := g) hlt (by have := hI.out.g_le; omega) (by rw [X.out]; decide))
                      rw [hki] at hKi
                      clear hgt hki k0
                      rw [X.out, hk2.out] at hinvN
                      have hKn : ((kx :: kr) == ([] : List UInt8)) = false := rfl
                      go_wp2_with (first | (go_at_call 23; refine (hGa.out _ (by exact hbwr.out)).mono ?_; rintro e w5 ⟨rfl, hb5⟩; have hbw5 := Below.of hbwr.out hb5; clear q0 q1 q2 q3 q4 q5 q6 q7; obtain ⟨q0, q1, q2, q3, q4, q5, q6, q7⟩ := (hbx4.out.mono hbr).mono hb5) | (go_at_call 24; refine (hKi.out _ (by exact hbw5)).mono ?_; rintro e w6 ⟨rfl, hb6⟩))
                      go_roundg (VS.length - (k + 1))
                      case measure => exact hmea _ hg
                      case rel =>
                        exact ⟨k + 1, g, W48, sm, by omega, by omega, rfl, by go_num, rfl, by go_num, by exact ((hbr.trans (hb5.mono hbr.size)).trans (hb6.mono (Nat.le_trans hbr.size hb5.size))).alloc (Nat.le_trans (Nat.le_trans hbr.size hb5.size) hb6.size) _, hinvN.out⟩
              · have X := Lib.hid hx
                have hk2 := H49
                have ht := H48
                have hinvK := Lib.hid (hI.out.step (g' := g + 1) hlt (by have := hI.out.g_le; omega) (by rw [X.out]; decide))
                rw [X.out, hk2.out] at hinvK
                by_cases k0 : k = 0
                · have hfr : free c k = true := by simp [free, k0]
                  have hinvT := Lib.hid (hI.out.turn (y := 48) (g' := g + 1) hlt (by have := hI.out.g_le; omega) hfr (by decide) (by rw [X.out]; decide))
                  have hk0z : (k : Int) = 0 := by omega
                  have hpos0 : 0 < VS.length := by omega
                  have hx0 : VS[0]'hpos0 = 49 := by have h := X.out; simp only [k0] at h; exact h
                  clear k0 hfr
                  rw [ht.out] at hinvT
                  go_wp2_with (first | (go_at_call 23; refine (hGa.out _ (by exact hbwr.out)).mono ?_; rintro e w5 ⟨rfl, hb5⟩; have hbw5 := Below.of hbwr.out hb5; clear q0 q1 q2 q3 q4 q5 q6 q7; obtain ⟨q0, q1, q2, q3, q4, q5, q6, q7⟩ := (hbx4.out.mono hbr).mono hb5) | (go_at_call 24; refine (hKi.out _ (by exact hbw5)).mono ?_; rintro e w6 ⟨rfl, hb6⟩))
                  · go_roundg (VS.length - (k + 1))
                    case measure => exact hmea _ hg
                    case rel =>
                      exact ⟨k + 1, g + 1, W48, false, by omega, by omega, rfl, by go_num, rfl, by go_num, by exact hbr.alloc hbr.size _, hinvT.out⟩
                  · go_roundg (VS.length - (k + 1))
                    case measure => exact hmea _ hg
                    case rel =>
                      exact ⟨k + 1, g + 1, W49, sm, by omega, by omega, rfl, by go_num, rfl, by go_num, by exact hbr.alloc hbr.size _, hinvK.out⟩
                · have hk0z : ¬ (k : Int) = 0 := by omega
                  have hk0y : ((k : Int) == 0) = false := by simpa using hk0z
                  have K0 := Lib.hid k0
                  cases hgt : isGate c k with
                  | true =>
                    have hfr : free c k = true := by simp [free, hgt]
                    have hinvT := Lib.hid (hI.out.turn (y := 48) (g' := g + 1) hlt (by have := hI.out.g_le; omega) hfr (by decide) (by rw [X.out]; decide))
                    have hGa := Lib.hid fun w1 hb => by have := hGt.out k hkb w1 hb; rw [hgt] at this; exact this
                    clear hgt hfr k0
                    rw [ht.out] at hinvT
                    go_wp2_with (first | (go_at_call 23; refine (hGa.out _ (by exact hbwr.out)).mono ?_; rintro e w5 ⟨rfl, hb5⟩; have hbw5 := Below.of hbwr.out hb5; clear q0 q1 q2 q3 q4 q5 q6 q7; obtain ⟨q0, q1, q2, q3, q4, q5, q6, q7⟩ := (hbx4.out.mono hbr).mono hb5) | (go_at_call 24; refine (hKi.out _ (by exact hbw5)).mono ?_; rintro e w6 ⟨rfl, hb6⟩))
                    · go_roundg (VS.length - (k + 1))
                      case measure => exact hmea _ hg
                      case rel =>
                        exact ⟨k + 1, g + 1, W48, false, by omega, by omega, rfl, by go_num, rfl, by go_num, by exact (hbr.trans (hb5.mono hbr.size)).alloc (Nat.le_trans hbr.size hb5.size) _, hinvT.out⟩
                    · go_roundg (VS.length - (k + 1))
                      case measure => exact hmea _ hg
                      case rel =>
                        exact ⟨k + 1, g + 1, W49, sm, by omega, by omega, rfl, by go_num, rfl, by go_num, by exact (hbr.trans (hb5.mono hbr.size)).alloc (Nat.le_trans hbr.size hb5.size) _, hinvK.out⟩
                  | false =>
                    have hGa := Lib.hid fun w1 hb => by have := hGt.out k hkb w1 hb; rw [hgt] at this; exact this
                    have hKi := Lib.hid fun w1 hb => hKd.out (k : Int) (by unfold rng; omega) w1 hb
                    cases hki : PC.kindS c (k : Int) with
                    | nil =>
                      have hfr : free c k = true := by simp [free, hki]
                      have hinvT := Lib.hid (hI.out.turn (y := 48) (g' := g + 1) hlt (by have := hI.out.g_le; omega) hfr (by decide) (by rw [X.out]; decide))
                      rw [hki] at hKi
                      clear hgt hki hfr k0
                      rw [ht.out] at hinvT
                      go_wp2_with (first | (go_at_call 23; refine (hGa.out _ (by exact hbwr.out)).mono ?_; rintro e w5 ⟨rfl, hb5⟩; have hbw5 := Below.of hbwr.out hb5; clear q0 q1 q2 q3 q4 q5 q6 q7; obtain ⟨q0, q1, q2, q3, q4, q5, q6, q7⟩ := (hbx4.out.mono hbr).mono hb5) | (go_at_call 24; refine (hKi.out _ (by exact hbw5)).mono ?_; rintro e w6 ⟨rfl, hb6⟩))
                      · go_roundg (VS.length - (k + 1))
                        case measure => exact hmea _ hg
                        case rel =>
                          exact ⟨k + 1, g + 1, W48, false, by omega, by omega, rfl, by go_num, rfl, by go_num, by exact ((hbr.trans (hb5.mono hbr.size)).trans (hb6.mono (Nat.le_trans hbr.size hb5.size))).alloc (Nat.le_trans (Nat.le_trans hbr.size hb5.size) hb6.size) _, hinvT.out⟩
                      · go_roundg (VS.length - (k + 1))
                        case measure => exact hmea _ hg
                        case rel =>
                          exact ⟨k + 1, g + 1, W49, sm, by omega, by omega, rfl, by go_num, rfl, by go_num, by exact ((hbr.trans (hb5.mono hbr.size)).trans (hb6.mono (Nat.le_trans hbr.size hb5.size))).alloc (Nat.le_trans (Nat.le_trans hbr.size hb5.size) hb6.size) _, hinvK.out⟩
                    | cons kx kr =>
                      have hinvN := Lib.hid (hI.out.step (g' := g) hlt (by have := hI.out.g_le; omega) (by rw [X.out]; decide))
                      rw [hki] at hKi
                      clear hgt hki k0
                      rw [X.out, hk2.out] at hinvN
                      have hKn : ((kx :: kr) == ([] : List UInt8)) = false := rfl
                      go_wp2_with (first | (go_at_call 23; refine (hGa.out _ (by exact hbwr.out)).mono ?_; rintro e w5 ⟨rfl, hb5⟩; have hbw5 := Below.of hbwr.out hb5; clear q0 q1 q2 q3 q4 q5 q6 q7; obtain ⟨q0, q1, q2, q3, q4, q5, q6, q7⟩ := (hbx4.out.mono hbr).mono hb5) | (go_at_call 24; refine (hKi.out _ (by exact hbw5)).mono ?_; rintro e w6 ⟨rfl, hb6⟩))
                      go_roundg (VS.length - (k + 1))
                      case measure => exact hmea _ hg
                      case rel =>
                        exact ⟨k + 1, g, W49, sm, by omega, by omega, rfl, by go_num, rfl, by go_num, by exact ((hbr.trans (hb5.mono hbr.size)).trans (hb6.mono (Nat.le_trans hbr.size hb5.size))).alloc (Nat.le_trans (Nat.le_trans hbr.size hb5.size) hb6.size) _, hinvN.out⟩
            · have hltz : ¬ (k : Int) < (VS.length : Int) := by omega
              obtain rfl : k = VS.length := by omega
              have hlaw : Hid (L.all (PC.one Wl) = sm) := by
                have hI2 := hI.out
                rw [hVS0.out] at hI2
                show _ = _
                rw [HL.out]
                exact VInv.done HRt.out hI2 hbst.out.1 hbst.out.2
              have hWl2 : Wl.length ≤ 9223372036854775807 := by have := hI.out.len; omega
              clear hVl2 hbst HMOD HU hI hk hg hlt
              have hLL2 := HLL.out.mono hbr
              obtain ⟨ao2, cap2, e2, hu1', hu2', hu3'⟩ := hLL2.open_
              cases e2
              have HU := Lib.hid hu3'
              have hbwr := Lib.hid (Below.of hbw4.out hbr)
              clear hu3' hLL2 HLL hu1' hu2'
              go_wp2_with fail
              obtain ⟨wz, hwz⟩ : ∃ wz, wz = wr := ⟨_, rfl⟩
              subst hwz
              obtain ⟨w4o, hw4o⟩ : ∃ w4o, w4o = w4 := ⟨_, rfl⟩
              subst hw4o
              obtain ⟨w4, hw4⟩ : ∃ w4, w4 = wz := ⟨_, rfl⟩
              subst hw4
              have hVl2 := hWl2
              clear hWl2 hc48 hc49
              obtain ⟨f, hf⟩ : ∃ f : Nat → Bool, ∀ j, f j = (L.take j).all (PC.one Wl) := ⟨_, fun _ => rfl⟩
              have hf0 : Hid (f 0 = true) := by show _ = _; rw [hf]; rfl
              have hfs : Hid (∀ j (h : j < L.length), f (j + 1) = (f j && PC.one Wl L[j])) := fun j h => by
                rw [hf, hf, List.take_succ_eq_append_getElem h, List.all_append]; simp
              have hfe : Hid (f L.length = L.all (PC.one Wl)) := by show _ = _; rw [hf, List.take_length]
              clear hf
              go_loopg [19, 20] L.length (fun gg sa sk wr => ∃ k : Nat, k ≤ L.length ∧ L.length - k ≤ gg ∧ sa = .bool (f k) ∧ sk = .int .i64 k ∧ w4 = wr)
              case atStart => exact ⟨0, Nat.zero_le _, by omega, by rw [hf0.out], rfl, rfl⟩
              case round =>
                obtain ⟨k, hk, hg, rfl, rfl, rfl⟩ := hrel
                by_cases hlt : k < L.length
                · obtain ⟨b', off, u, rfl, hbs, hc, hiu⟩ := HU.out k hlt
                  have hmea : ∀ g : Nat, L.length - k ≤ g → L.length - (k + 1) < g := fun g h => by omega
                  have hst := hfs.out k hlt
                  generalize hy : L[k] = y at *
                  clear hy
                  have hltz : (k : Int) < (L.length : Int) := by omega
                  have hO := Lib.hid (rOne_any Wl y u w4 hiu hVl2)
                  cases hfk : f k with
                  | true =>
                    rw [hfk, Bool.true_and] at hst
                    have hst := Lib.hid hst
                    clear hfk
                    go_wp2_with (go_at_call 15; refine hO.out.mono ?_; rintro e w5 ⟨rfl, rfl⟩)
                    go_roundg (L.length - (k + 1))
                    case measure => exact hmea _ hg
                    case rel => exact ⟨k + 1, by omega, by omega, by rw [hst.out], by go_num, rfl⟩
                  | false =>
                    rw [hfk, Bool.false_and] at hst
                    have hst := Lib.hid hst
                    clear hfk
                    go_wp2_with fail
                    go_roundg (L.length - (k + 1))
                    case measure => exact hmea _ hg
                    case rel => exact ⟨k + 1, by omega, by omega, by rw [hst.out], by go_num, rfl⟩
                · have hltz : ¬ (k : Int) < (L.length : Int) := by omega
                  obtain rfl : k = L.length := by omega
                  have hfk := hfe.out
                  rw [hlaw.out] at hfk
                  generalize hfq : f L.length = bb at *
                  clear hfq
                  subst hfk
                  go_wp2_with fail
                  go_ret
                  exact ⟨by cases bb <;> rfl, hbwr.out⟩

end Go.Proofs.Ytaadhkjehlkiiaa
