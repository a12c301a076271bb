/- The walk of UnrollFrames where a frame may be. -/
import Derived.Test.YtbjioniefalgpaaWalkL7
namespace Go.Proofs.Ytbjioniefalgpaa
open Go.RowKit Go.Shelf
attribute [local simp] mk_get

/-- the octets v, k times -/
def reps (v : List UInt8) (k : Nat) : List UInt8 := (List.replicate k v).flatten
theorem reps_succ (v : List UInt8) (k : Nat) : reps v (k + 1) = reps v k ++ v := by simp [reps, List.replicate_succ', List.flatten_append]
theorem reps_len (v : List UInt8) (k : Nat) : (reps v k).length = k * v.length := by
  induction k with
  | zero => simp [reps]
  | succ k ih => rw [reps_succ, List.length_append, ih, Nat.succ_mul]

theorem withinT_mem {m : Int} {l : List (List Int)} (h : PC.withinT m l = true) : ∀ a ∈ l, ∀ x ∈ a, 0 ≤ x ∧ x / 2 ≤ m := by
  intro a ha x hx
  have h1 := List.all_eq_true.1 h a ha
  rw [Bool.and_eq_true] at h1
  have h2 := List.all_eq_true.1 h1.2 x hx
  rw [Bool.and_eq_true, decide_eq_true_eq, decide_eq_true_eq] at h2
  omega

theorem checkE_zero (q : Qst) (h : checkE q = 0) : (∀ a ∈ q.assume, ∀ l ∈ a, 0 ≤ l ∧ l / 2 ≤ q.c.max) ∧ (∀ a ∈ q.lemmas, ∀ l ∈ a, 0 ≤ l ∧ l / 2 ≤ q.c.max) ∧
    (∀ a ∈ q.known, ∀ n ∈ a, 1 ≤ max n (-n) ∧ max n (-n) ≤ (q.c.latches.length : Int)) := by
  unfold checkE at h
  split at h
  · cases h
  split at h
  · cases h
  split at h
  · cases h
  split at h
  · cases h
  rename_i hw
  split at h
  · rename_i hk
    have w1 : PC.withinT q.c.max q.assume = true := by
      cases e : PC.withinT q.c.max q.assume with
      | true => rfl
      | false => exact absurd (Or.inl e) hw
    have w2 : PC.withinT q.c.max q.lemmas = true := by
      cases e : PC.withinT q.c.max q.lemmas with
      | true => rfl
      | false => exact absurd (Or.inr e) hw
    refine ⟨withinT_mem w1, withinT_mem w2, fun a ha n hn => ?_⟩
    have h1 := List.all_eq_true.1 hk a ha
    have h2 : PC.clE q.c.latches.length a = 0 := by simpa using h1
    unfold PC.clE at h2
    split at h2
    · cases h2
    split at h2
    · rename_i h3
      have h4 := List.all_eq_true.1 h3 n hn
      rw [Bool.and_eq_true, decide_eq_true_eq, decide_eq_true_eq] at h4
      exact h4
    · cases h2
  · cases h

set_option maxRecDepth 100000 in
set_option maxHeartbeats 8000000 in
theorem frames_good (c : PC.Circ) (assume lemmas known : List (List Int)) (bad depth budget : Int) (vq : Value) (F : Nat) (st i : List UInt8) (w : World) (h : IsQ w vq ⟨c, assume, lemmas, known, bad, depth, budget⟩) (hf : Fits c) (hF : FitsQ ⟨c, assume, lemmas, known, bad, depth, budget⟩)
    (hs : st.length ≤ 9223372036854775806) (hi : i.length ≤ 9223372036854775806) (hck : PC.chk c = true) (g1 : F ≤ 80) :
    Calls Try.prog 8 #[vq, .int .i64 (F : Int), .string ⟨st.toArray⟩, .string ⟨i.toArray⟩] w fun e w' => e = .returned (.bool true) ∧ Below w.heap.size w w' := by
  have hFr := Lib.hid fun w1 (hb : Below w.heap.size w w1) => uFrame_good c assume lemmas known bad depth budget vq F w1 (h.mono hb) hF hck (by omega) (by omega)
  have hCk := Lib.hid fun w1 (hb : Below w.heap.size w w1) => check13_any c assume lemmas known bad depth budget vq w1 (h.mono hb) hf
  obtain ⟨vi, vl, vo, vb, vv, va, vn, vA, vL, vK, rfl, hc, h1, h2, h3, hrr⟩ := h
  dsimp only at *
  have hp := hc.parts
  obtain ⟨a1, k1, rfl⟩ := hp.inputs.1.slice
  obtain ⟨a2, k2, rfl⟩ := hp.latches.1.slice
  obtain ⟨a3, k3, rfl⟩ := hp.outputs.1.slice
  obtain ⟨a4, k4, rfl⟩ := hp.bads.1.slice
  obtain ⟨a5, k5, rfl⟩ := hp.invars.1.slice
  obtain ⟨a6, k6, rfl⟩ := hp.ands.1.slice
  obtain ⟨a7, k7, rfl⟩ := hp.names.1.slice
  obtain ⟨aA, kA, rfl⟩ := h1.slice
  obtain ⟨aL, kL, rfl⟩ := h2.slice
  obtain ⟨aK, kK, rfl⟩ := h3.slice
  clear hp
  have hb0 : Below w.heap.size w (w.alloc (.cells #[.int .i64 c.max, .slice a1 c.inputs.length k1, .slice a2 c.latches.length k2, .slice a3 c.outputs.length k3, .slice a4 c.bads.length k4, .slice a5 c.invars.length k5, .slice a6 c.ands.length k6, .slice a7 c.names.length k7, .slice aA assume.length kA, .slice aL lemmas.length kL, .slice aK known.length kK, .int .i64 bad, .int .i64 depth, .int .i64 budget] 54)) := (Below.refl _ _).alloc (Nat.le_refl _) _
  have hbx14 := Lib.hid (Box14.new w (.int .i64 c.max) (.slice a1 c.inputs.length k1) (.slice a2 c.latches.length k2) (.slice a3 c.outputs.length k3) (.slice a4 c.bads.length k4) (.slice a5 c.invars.length k5) (.slice a6 c.ands.length k6) (.slice a7 c.names.length k7) (.slice aA assume.length kA) (.slice aL lemmas.length kL) (.slice aK known.length kK) (.int .i64 bad) (.int .i64 depth) (.int .i64 budget) 54)
  have hRt := Lib.hid fun w1 (hb : Below w.heap.size w w1) => right13_any c _ (F : Int) w1 (hc.mono hb) hf
  have hVal := Lib.hid fun w1 (hb : Below w.heap.size w w1) => rValues_any c _ st i w1 (hc.mono hb) hf hs hi
  have hAl := Lib.hid fun m (hm : m.length ≤ 9223372036854775807) w1 (hb : Below w.heap.size w w1) => rAllowed_any c _ _ assume m w1 (hc.mono hb) (h1.mono hb) hm
  have hIn := Lib.hid fun hn w1 (hb : Below w.heap.size w w1) => rIn_any known _ st w1 (h3.mono hb) (by omega) hn
  obtain ⟨aLx, kLx, hLe, hL1, hL2, hL3⟩ := h2.open_
  cases hLe
  have HLem := Lib.hid hL3
  have hRc := Lib.hid (PC.right_of c hck)
  have HCK := Lib.hid hck
  rw [hck, show decide (0 ≤ (F : Int)) = true from decide_eq_true (by omega), show decide ((F : Int) ≤ 80) = true from decide_eq_true (by omega)] at hRt
  have hHs := Lib.hid hs
  clear hc h1 h2 h3 hrr hf hF hi hL3 hck hs
  obtain ⟨VE, hVE⟩ : ∃ x, x = PC.valuesE c st i := ⟨_, rfl⟩
  obtain ⟨VS, hVS⟩ : ∃ x, x = PC.valuesS c st i := ⟨_, rfl⟩
  obtain ⟨CE, hCE⟩ : ∃ x, x = checkE ⟨c, assume, lemmas, known, bad, depth, budget⟩ := ⟨_, rfl⟩
  rw [← hVE, ← hVS] at hVal
  rw [← hCE] at hCk
  have HVE := Lib.hid hVE
  have HVS := Lib.hid hVS
  have HCE := Lib.hid hCE
  clear hVE hVS hCE
  go_enter Try.func8, Try.ntmps8
  go_wp2_with fail
  refine (alive13_any _).mono ?_
  rintro e w1 ⟨rfl, hb1⟩
  have hbw1 := Below.of hb0 hb1
  have X14 : Hid (Box14 w1 w.heap.size _ _ _ _ _ _ _ _ _ _ _ _ _ _) := hbx14.out.mono hb1
  obtain ⟨⟨q0, q1, q2, q3, q4, q5, q6, q7⟩, q8, q9, q10, q11, q12, q13⟩ := X14.out
  have r0 := past1 q0; have r1 := past1 q1; have r2 := past1 q2; have r3 := past1 q3; have r4 := past1 q4; have r5 := past1 q5; have r6 := past1 q6; have r7 := past1 q7; have r8 := past1 q8; have r9 := past1 q9; have r10 := past1 q10; have r11 := past1 q11; have r12 := past1 q12; have r13 := past1 q13
  have hbA : Below w1.heap.size w1 (w1.alloc (.cells #[.int .i64 c.max, .slice a1 c.inputs.length k1, .slice a2 c.latches.length k2, .slice a3 c.outputs.length k3, .slice a4 c.bads.length k4, .slice a5 c.invars.length k5, .slice a6 c.ands.length k6, .slice a7 c.names.length k7] 27)) := (Below.refl _ _).alloc (Nat.le_refl _) _
  have hbx8 := Lib.hid (Box8.new w1 (.int .i64 c.max) (.slice a1 c.inputs.length k1) (.slice a2 c.latches.length k2) (.slice a3 c.outputs.length k3) (.slice a4 c.bads.length k4) (.slice a5 c.invars.length k5) (.slice a6 c.ands.length k6) (.slice a7 c.names.length k7) 27)
  have hbwA := Below.of hbw1 hbA
  have X14A : Hid (Box14 (w1.alloc (.cells #[.int .i64 c.max, .slice a1 c.inputs.length k1, .slice a2 c.latches.length k2, .slice a3 c.outputs.length k3, .slice a4 c.bads.length k4, .slice a5 c.invars.length k5, .slice a6 c.ands.length k6, .slice a7 c.names.length k7] 27)) w.heap.size _ _ _ _ _ _ _ _ _ _ _ _ _ _) := X14.out.mono hbA
  clear hb0 hb1 hbw1 hbA hbx14 X14
  go_wp2_with fail
  clear q0 q1 q2 q3 q4 q5 q6 q7 q8 q9 q10 q11 q12 q13 r0 r1 r2 r3 r4 r5 r6 r7 r8 r9 r10 r11 r12 r13
  refine (hFr.out _ (by exact hbwA)).mono ?_
  rintro e w2 ⟨u, rfl, hu, hb2⟩
  have hbw2 := Below.of hbwA hb2
  have P2 := Lib.hid (hbx8.out.mono hb2)
  have X2 : Hid (Box14 w2 w.heap.size _ _ _ _ _ _ _ _ _ _ _ _ _ _) := X14A.out.mono hb2
  clear hFr hbx8 X14A hb2 hbwA
  obtain ⟨p0, p1, p2, p3, p4, p5, p6, p7⟩ := P2.out
  go_wp2_with fail
  refine (hRt.out _ (by exact hbw2)).mono ?_
  rintro e w3 ⟨rfl, hb3⟩
  have hbw3 := Below.of hbw2 hb3
  have P3 := Lib.hid (P2.out.mono hb3)
  have X3 : Hid (Box14 w3 w.heap.size _ _ _ _ _ _ _ _ _ _ _ _ _ _) := X2.out.mono hb3
  have hu := hu.mono hb3
  clear hRt hb3 hbw2 p0 p1 p2 p3 p4 p5 p6 p7 P2 X2
  obtain ⟨p0, p1, p2, p3, p4, p5, p6, p7⟩ := P3.out
  go_wp2_with fail
  refine (hVal.out _ (by exact hbw3)).mono ?_
  rintro e w4 ⟨rfl, hb4⟩
  have hbw4 := Lib.hid (Below.of hbw3 hb4)
  have P4 := Lib.hid (P3.out.mono hb4)
  have X4 : Hid (Box14 w4 w.heap.size _ _ _ _ _ _ _ _ _ _ _ _ _ _) := X3.out.mono hb4
  have hu := hu.mono hb4
  clear hVal hb4 hbw3 p0 p1 p2 p3 p4 p5 p6 p7 P3 X3
  obtain ⟨L, hL⟩ : ∃ L, L = PC.frameT c assume lemmas known F := ⟨_, rfl⟩
  have hLp : 0 < L.length := by
    have := PC.gatesT_pos c hRc.out ((F : Int) * (c.max + 1))
    rw [hL, PC.frameT, List.length_append, List.length_append, List.length_append]
    omega
  rw [← hL] at hu
  have HL := Lib.hid hL
  clear hL
  have hUL := hu.lists
  obtain ⟨ao, cap, rfl, hu1, hu2, hu3⟩ := hUL.open_
  have hUL := Lib.hid hUL
  have HU := Lib.hid hu3
  have hlenz : (1 : Int) ≤ (L.length : Int) := by omega
  clear hu3 hu hLp
  by_cases hbits : PC.bitsOk st c.latches.length = false ∨ PC.bitsOk i c.inputs.length = false
  · have hV5 : VE = 5 := by rw [HVE.out, PC.valuesE, if_neg (by rw [HCK.out]; decide), if_pos hbits]
    subst hV5
    clear hbits HVE
    go_wp2_with fail
    go_ret
    exact ⟨rfl, hbw4.out⟩
  have hV0 : VE = 0 := by rw [HVE.out, PC.valuesE, if_neg (by rw [HCK.out]; decide), if_neg hbits]
  have hVS0 : Hid (VS = PC.vals c st i) := by show _ = _; rw [HVS.out, PC.valuesS, ← HVE.out, hV0]; rfl
  have hbst : Hid (PC.bitsOk st c.latches.length = true) := by
    show _ = _
    cases hq : PC.bitsOk st c.latches.length with
    | true => rfl
    | false => exact absurd (Or.inl hq) hbits
  have hbi : Hid (PC.bitsOk i c.inputs.length = true) := by
    show _ = _
    cases hq : PC.bitsOk i c.inputs.length with
    | true => rfl
    | false => exact absurd (Or.inr hq) hbits
  subst hV0
  clear hbits HVE
  by_cases hF3 : 3 < F
  · have hF3z : (3 : Int) < (F : Int) := by omega
    go_wp2_with fail
    go_ret
    exact ⟨rfl, hbw4.out⟩
  have hF3z : decide ((3 : Int) < (F : Int)) = false := decide_eq_false (by omega)
  have hF3' : ¬ (3 : Int) < (F : Int) := by omega
  obtain ⟨⟨q0, q1, q2, q3, q4, q5, q6, q7⟩, q8, q9, q10, q11, q12, q13⟩ := X4.out
  go_wp2_with fail
  refine (hCk.out _ (by exact hbw4.out)).mono ?_
  rintro e w5 ⟨rfl, hb5⟩
  have hbw5 := Lib.hid (Below.of hbw4.out hb5)
  have P5 := Lib.hid (P4.out.mono hb5)
  have X5 : Hid (Box14 w5 w.heap.size _ _ _ _ _ _ _ _ _ _ _ _ _ _) := X4.out.mono hb5
  have hUL5 := Lib.hid (hUL.out.mono hb5)
  clear hCk q0 q1 q2 q3 q4 q5 q6 q7 q8 q9 q10 q11 q12 q13 P4 X4 hUL HU hu1 hu2
  by_cases hCE0 : ¬ CE = 0
  · have hCE1 : (CE != 0) = true := by simpa using hCE0
    have hCE2 : (CE == 0) = false := by simpa using hCE0
    go_wp2_with fail
    go_ret
    exact ⟨rfl, hbw5.out⟩
  have hCE1 : CE = 0 := by omega
  clear hCE0
  have hz := checkE_zero _ (HCE.out.symm.trans hCE1)
  dsimp only at hz
  subst hCE1
  have hVlen : VS.length = c.max.toNat + 1 := by rw [hVS0.out]; exact PC.vals_length c st i
  have hVl1 : VS.length ≤ 2049 := by have := hRc.out.max1; omega
  have hlaw := PC.frame_law c hRc.out assume lemmas known hz.1 hz.2.1 F st i (reps VS F) hbst.out hbi.out (by rw [reps_len, hVlen])
  rw [← hVS0.out, ← reps_succ, ← HL.out] at hlaw
  have hlaw := Lib.hid hlaw
  have hlst := ((bitsOk_step _ _).1 hbst.out).2
  have hz3 : Hid (∀ a ∈ known, ∀ n ∈ a, 1 ≤ max n (-n) ∧ max n (-n) ≤ (st.length : Int)) := fun a ha n hn => by
    have := hz.2.2 a ha n hn
    omega
  have hVL := Lib.hid hVl1
  clear hz hVlen hVl1 hlst HCE hb5
  go_wp2_with fail
  go_loopg [13, 14] (F + 1) (fun gg s13 s14 wr => ∃ k : Nat, k ≤ F + 1 ∧ F + 1 - k ≤ gg ∧ s13 = .string ⟨(reps VS k).toArray⟩ ∧ s14 = .int .i64 k ∧ w5 = wr)
  case atStart => exact ⟨0, Nat.zero_le _, by omega, rfl, rfl, rfl⟩
  case round =>
    obtain ⟨k, hk, hg, rfl, rfl, rfl⟩ := hrel
    have hlk : (reps VS k).length ≤ 8196 := by
      rw [reps_len]
      have h1 := hVL.out
      have h2 : k * VS.length ≤ 4 * 2049 := Nat.mul_le_mul (by omega) h1
      omega
    by_cases hlt : k < F + 1
    · have hltz : (k : Int) ≤ (F : Int) := by omega
      have hcat : (ByteArray.mk (reps VS k).toArray) ++ (ByteArray.mk VS.toArray) = ⟨(reps VS (k + 1)).toArray⟩ := by rw [cat_eq, reps_succ]
      have hVl := hVL.out
      have hs1 : (reps VS k).length + VS.length ≤ 9223372036854775807 := by omega
      have hs2 : ((reps VS k).length : Int) + (VS.length : Int) ≤ 9223372036854775807 := by omega
      have hkz : (k : Int) + 1 ≤ 9223372036854775807 := by omega
      clear hVl hlk
      go_wp2_with fail
      go_roundg (F + 1 - (k + 1))
      case measure => omega
      case rel => exact ⟨k + 1, by omega, by omega, rfl, by go_num, rfl⟩
    · have hltz : ¬ (k : Int) ≤ (F : Int) := by omega
      obtain rfl : k = F + 1 := by omega
      obtain ⟨S, hS⟩ : ∃ S, S = reps VS (F + 1) := ⟨_, rfl⟩
      rw [← hS] at hlaw hlk ⊢
      have hVl2 : S.length ≤ 9223372036854775807 := by omega
      have hltz2 : ¬ ((F + 1 : Nat) : Int) ≤ (F : Int) := hltz
      clear hS hlk
      go_wp2_with fail
      obtain ⟨ax, cx, hae, hu1, hu2, hu3⟩ := hUL5.out.open_
      cases hae
      have HU := Lib.hid hu3
      clear hu3
      obtain ⟨w4, hw4⟩ : ∃ w4, w4 = w5 := ⟨_, rfl⟩
      subst hw4
      clear hk hg hlt hltz hltz2
      obtain ⟨f, hf⟩ : ∃ f : Nat → Bool, ∀ j, f j = (L.take j).all (PC.one S) := ⟨_, fun _ => rfl⟩
      have hf0 : Hid (f 0 = true) := by show _ = _; rw [hf]; rfl
      have hfs : Hid (∀ j (h : j < L.length), f (j + 1) = (f j && PC.one S L[j])) := fun j h => by
        rw [hf, hf, List.take_succ_eq_append_getElem h, List.all_append]; simp
      have hfe : Hid (f L.length = L.all (PC.one S)) := by show _ = _; rw [hf, List.take_length]
      clear hf
      go_loopg [15, 16] L.length (fun gg sa sk wr => ∃ k : Nat, k ≤ L.length ∧ L.length - k ≤ gg ∧ sa = .bool (f k) ∧ sk = .int .i64 k ∧ w4 = wr)
      case atStart => exact ⟨0, Nat.zero_le _, by omega, by rw [hf0.out], rfl, rfl⟩
      case round =>
        obtain ⟨k, hk, hg, rfl, rfl, rfl⟩ := hrel
        by_cases hlt : k < L.length
        · obtain ⟨b', off, u, rfl, hbs, hc, hiu⟩ := HU.out k hlt
          have hmea : ∀ g : Nat, L.length - k ≤ g → L.length - (k + 1) < g := fun g h => by omega
          have hst := hfs.out k hlt
          generalize hy : L[k] = y at *
          clear hy
          have hltz : (k : Int) < (L.length : Int) := by omega
          have hO := Lib.hid (rOne_any S y u w4 hiu hVl2)
          cases hfk : f k with
          | true =>
            rw [hfk, Bool.true_and] at hst
            have hst := Lib.hid hst
            clear hfk
            go_wp2_with (go_at_call 13; refine hO.out.mono ?_; rintro e w5 ⟨rfl, rfl⟩)
            go_roundg (L.length - (k + 1))
            case measure => exact hmea _ hg
            case rel => exact ⟨k + 1, by omega, by omega, by rw [hst.out], by go_num, rfl⟩
          | false =>
            rw [hfk, Bool.false_and] at hst
            have hst := Lib.hid hst
            clear hfk
            go_wp2_with fail
            go_roundg (L.length - (k + 1))
            case measure => exact hmea _ hg
            case rel => exact ⟨k + 1, by omega, by omega, by rw [hst.out], by go_num, rfl⟩
        · have hltz : ¬ (k : Int) < (L.length : Int) := by omega
          obtain rfl : k = L.length := by omega
          have hfk := hfe.out
          rw [hlaw.out] at hfk
          generalize hfq : f L.length = bb at *
          clear hfq hf0 hfs hfe HU hu1 hu2 hk hg hlt
          have hVl : VS.length ≤ 9223372036854775807 := by have := hVL.out; omega
          have hA1 := Lib.hid fun w1 hb => hAl.out VS hVl w1 hb
          have hI1 := Lib.hid fun w1 hb => hIn.out hz3.out w1 hb
          obtain ⟨A, hA⟩ : ∃ A, A = PC.allowed c assume VS := ⟨_, rfl⟩
          obtain ⟨I, hI⟩ : ∃ I, I = PC.inT known st := ⟨_, rfl⟩
          rw [← hA] at hA1 hfk
          rw [← hI] at hI1 hfk
          have hfk := Lib.hid hfk
          clear hA hI hAl hIn
          obtain ⟨⟨q0, q1, q2, q3, q4, q5, q6, q7⟩, q8, q9, q10, q11, q12, q13⟩ := X5.out
          obtain ⟨p0, p1, p2, p3, p4, p5, p6, p7⟩ := P5.out
          go_wp2_with fail
          refine (hA1.out _ (by exact hbw5.out)).mono ?_
          rintro e w6 ⟨rfl, hb6⟩
          have hbw6 := Lib.hid (Below.of hbw5.out hb6)
          have X6 : Hid (Box14 w6 w.heap.size _ _ _ _ _ _ _ _ _ _ _ _ _ _) := X5.out.mono hb6
          clear q0 q1 q2 q3 q4 q5 q6 q7 q8 q9 q10 q11 q12 q13 p0 p1 p2 p3 p4 p5 p6 p7 P5 hA1 hb6
          obtain ⟨⟨q0, q1, q2, q3, q4, q5, q6, q7⟩, q8, q9, q10, q11, q12, q13⟩ := X6.out
          cases A with
          | true =>
            rw [Bool.true_and] at hfk
            go_wp2_with fail
            refine (hI1.out _ (by exact hbw6.out)).mono ?_
            rintro e w7 ⟨rfl, rfl⟩
            go_wp2_with fail
            obtain ⟨g, hgd⟩ : ∃ g : Nat → Bool, ∀ j, g j = (I && (lemmas.take j).all (PC.holds VS)) := ⟨_, fun _ => rfl⟩
            have hg0 : Hid (g 0 = I) := by show _ = _; rw [hgd]; simp
            have hgs : Hid (∀ j (h : j < lemmas.length), g (j + 1) = (g j && PC.holds VS lemmas[j])) := fun j h => by
              rw [hgd, hgd, List.take_succ_eq_append_getElem h, List.all_append]; simp [Bool.and_assoc]
            have hge : Hid (g lemmas.length = bb) := by
              show _ = _
              rw [hgd, List.take_length, hfk.out]
            clear hgd
            have hLl : lemmas.length ≤ 9223372036854775807 := by omega
            go_loopg [17, 18] lemmas.length (fun gg s17 s18 wr => ∃ k : Nat, k ≤ lemmas.length ∧ lemmas.length - k ≤ gg ∧ s17 = .bool (g k) ∧ s18 = .int .i64 k ∧ w6 = wr)
            case atStart => exact ⟨0, Nat.zero_le _, by omega, by rw [hg0.out], rfl, rfl⟩
            case round =>
              obtain ⟨k, hk, hg, rfl, rfl, rfl⟩ := hrel
              by_cases hlt : k < lemmas.length
              · obtain ⟨b', off, u, hue, hbs, hc, hiu⟩ := HLem.out k hlt
                obtain rfl := hue
                have hmea : ∀ g : Nat, lemmas.length - k ≤ g → lemmas.length - (k + 1) < g := fun g h => by omega
                have hst := hgs.out k hlt
                have hc := (hbw6.out.cell hbs).trans hc
                have hiu := hiu.mono hbw6.out
                generalize hy : lemmas[k] = y at *
                clear hy hbs
                have hltz : (k : Int) < (lemmas.length : Int) := by omega
                have hO := Lib.hid (rHolds_any VS y u w6 hiu hVl)
                cases hfk : g k with
                | true =>
                  rw [hfk, Bool.true_and] at hst
                  have hst := Lib.hid hst
                  clear hfk
                  go_wp2_with (go_at_call 28; refine hO.out.mono ?_; rintro e w7 ⟨rfl, rfl⟩)
                  go_roundg (lemmas.length - (k + 1))
                  case measure => exact hmea _ hg
                  case rel => exact ⟨k + 1, by omega, by omega, by rw [hst.out], by go_num, rfl⟩
                | false =>
                  rw [hfk, Bool.false_and] at hst
                  have hst := Lib.hid hst
                  clear hfk
                  go_wp2_with fail
                  go_roundg (lemmas.length - (k + 1))
                  case measure => exact hmea _ hg
                  case rel => exact ⟨k + 1, by omega, by omega, by rw [hst.out], by go_num, rfl⟩
              · have hltz : ¬ (k : Int) < (lemmas.length : Int) := by omega
                obtain rfl : k = lemmas.length := by omega
                rw [hge.out]
                go_wp2_with fail
                go_ret
                exact ⟨by cases bb <;> rfl, hbw6.out⟩
          | false =>
            rw [Bool.false_and] at hfk
            go_wp2_with fail
            obtain ⟨g, hgd⟩ : ∃ g : Nat → Bool, ∀ j, g j = (false && (lemmas.take j).all (PC.holds VS)) := ⟨_, fun _ => rfl⟩
            have hg0 : Hid (g 0 = false) := by show _ = _; rw [hgd]; simp
            have hgs : Hid (∀ j (h : j < lemmas.length), g (j + 1) = (g j && PC.holds VS lemmas[j])) := fun j h => by
              rw [hgd, hgd, List.take_succ_eq_append_getElem h, List.all_append]; simp [Bool.and_assoc]
            have hge : Hid (g lemmas.length = bb) := by
              show _ = _
              rw [hgd, List.take_length, hfk.out]
            clear hgd
            have hLl : lemmas.length ≤ 9223372036854775807 := by omega
            go_loopg [17, 18] lemmas.length (fun gg s17 s18 wr => ∃ k : Nat, k ≤ lemmas.length ∧ lemmas.length - k ≤ gg ∧ s17 = .bool (g k) ∧ s18 = .int .i64 k ∧ w6 = wr)
            case atStart => exact ⟨0, Nat.zero_le _, by omega, by rw [hg0.out], rfl, rfl⟩
            case round =>
              obtain ⟨k, hk, hg, rfl, rfl, rfl⟩ := hrel
              by_cases hlt : k < lemmas.length
              · obtain ⟨b', off, u, hue, hbs, hc, hiu⟩ := HLem.out k hlt
                obtain rfl := hue
                have hmea : ∀ g : Nat, lemmas.length - k ≤ g → lemmas.length - (k + 1) < g := fun g h => by omega
                have hst := hgs.out k hlt
                have hc := (hbw6.out.cell hbs).trans hc
                have hiu := hiu.mono hbw6.out
                generalize hy : lemmas[k] = y at *
                clear hy hbs
                have hltz : (k : Int) < (lemmas.length : Int) := by omega
                have hO := Lib.hid (rHolds_any VS y u w6 hiu hVl)
                cases hfk : g k with
                | true =>
                  rw [hfk, Bool.true_and] at hst
                  have hst := Lib.hid hst
                  clear hfk
                  go_wp2_with (go_at_call 28; refine hO.out.mono ?_; rintro e w7 ⟨rfl, rfl⟩)
                  go_roundg (lemmas.length - (k + 1))
                  case measure => exact hmea _ hg
                  case rel => exact ⟨k + 1, by omega, by omega, by rw [hst.out], by go_num, rfl⟩
                | false =>
                  rw [hfk, Bool.false_and] at hst
                  have hst := Lib.hid hst
                  clear hfk
                  go_wp2_with fail
                  go_roundg (lemmas.length - (k + 1))
                  case measure => exact hmea _ hg
                  case rel => exact ⟨k + 1, by omega, by omega, by rw [hst.out], by go_num, rfl⟩
              · have hltz : ¬ (k : Int) < (lemmas.length : Int) := by omega
                obtain rfl : k = lemmas.length := by omega
                rw [hge.out]
                go_wp2_with fail
                go_ret
                exact ⟨by cases bb <;> rfl, hbw6.out⟩

set_option maxHeartbeats 1000000 in
/-- the law, whatever the frame -/
theorem frames_walk (q : Qst) (vq : Value) (fr : Int) (st i : List UInt8) (w : World) (h : IsQ w vq q) (hf : Fits q.c) (hF : FitsQ q) (hs : st.length ≤ 9223372036854775806) (hi : i.length ≤ 9223372036854775806) :
    Calls Try.prog 8 #[vq, .int .i64 fr, .string ⟨st.toArray⟩, .string ⟨i.toArray⟩] w fun e w' => e = .returned (.bool true) ∧ Below w.heap.size w w' := by
  obtain ⟨c, assume, lemmas, known, bad, depth, budget⟩ := q
  cases hR : (decide (0 ≤ fr) && decide (fr ≤ 80) && PC.chk c) with
  | false => exact frames_bad c assume lemmas known bad depth budget vq fr st i w h hf hR
  | true =>
    simp only [Bool.and_eq_true, decide_eq_true_eq] at hR
    obtain ⟨⟨h0, h1⟩, hck⟩ := hR
    obtain ⟨F, rfl⟩ : ∃ F : Nat, fr = (F : Int) := ⟨fr.toNat, by omega⟩
    exact frames_good c assume lemmas known bad depth budget vq F st i w h hf hF hs hi hck (by omega)

end Go.Proofs.Ytbjioniefalgpaa
