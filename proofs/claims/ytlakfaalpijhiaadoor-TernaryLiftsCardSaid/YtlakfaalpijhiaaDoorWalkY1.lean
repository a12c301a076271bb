/- Contracts: one trit, two trits, a literal's trit; are all trits? -/
import Derived.Test.YtlakfaalpijhiaaDoorWalkYA
import Derived.Test.YtlakfaalpijhiaaDoorWalkV1
import Derived.Test.YtlakfaalpijhiaaDoorPlainY2
namespace Go.Proofs.YtlakfaalpijhiaaDoor
open Go.RowKit Go.Shelf
attribute [local simp] mk_get

theorem u8_eq (x : UInt8) (n : Nat) (hn : n < 256) : ((x.toNat : Int) = (n : Int)) ↔ x = UInt8.ofNat n := by
  rw [← UInt8.toNat_inj]
  have : (UInt8.ofNat n).toNat = n := by simp [UInt8.toNat_ofNat']; omega
  rw [this]; omega

theorem u8_120 (x : UInt8) : ((x.toNat : Int) = 120) ↔ x = 120 := by
  rw [← UInt8.toNat_inj]
  show _ ↔ x.toNat = 120
  omega

set_option maxHeartbeats 400000 in
theorem opp_any (x : UInt8) (w : World) : Calls Tryd.prog 38 #[.int .u8 (x.toNat : Int)] w fun e w' => e = .returned (.int .u8 ((PC.oppT x).toNat : Int)) ∧ w = w' := by
  by_cases h1 : x = 48
  · subst h1
    go_enter Tryd.func38, Tryd.ntmps38
    go_wp2
    go_ret
    exact ⟨rfl, rfl⟩
  · by_cases h2 : x = 49
    · subst h2
      go_enter Tryd.func38, Tryd.ntmps38
      go_wp2
      go_ret
      exact ⟨rfl, rfl⟩
    · have e : PC.oppT x = 120 := by rw [PC.oppT, if_neg h1, if_neg h2]
      rw [e]
      have e1 : ((x.toNat : Int) == 48) = false := beq_eq_false_iff_ne.2 fun h => h1 ((u8_48 x).1 h)
      have e2 : ((x.toNat : Int) == 49) = false := beq_eq_false_iff_ne.2 fun h => h2 ((u8_49 x).1 h)
      clear h1 h2 e
      go_enter Tryd.func38, Tryd.ntmps38
      go_wp2
      go_ret
      exact ⟨rfl, rfl⟩

set_option maxHeartbeats 400000 in
theorem both_any (x y : UInt8) (w : World) : Calls Tryd.prog 52 #[.int .u8 (x.toNat : Int), .int .u8 (y.toNat : Int)] w fun e w' => e = .returned (.int .u8 ((PC.bothT x y).toNat : Int)) ∧ w = w' := by
  by_cases h1 : x = 48
  · subst h1
    have e : PC.bothT 48 y = 48 := by rw [PC.bothT, if_pos (Or.inl rfl)]
    rw [e]
    go_enter Tryd.func52, Tryd.ntmps52
    go_wp2
    go_ret
    exact ⟨rfl, rfl⟩
  · have e1 : ((x.toNat : Int) == 48) = false := beq_eq_false_iff_ne.2 fun h => h1 ((u8_48 x).1 h)
    by_cases h2 : y = 48
    · subst h2
      have e : PC.bothT x 48 = 48 := by rw [PC.bothT, if_pos (Or.inr rfl)]
      rw [e]
      clear h1 e
      go_enter Tryd.func52, Tryd.ntmps52
      go_wp2
      go_ret
      exact ⟨rfl, rfl⟩
    · have e2 : ((y.toNat : Int) == 48) = false := beq_eq_false_iff_ne.2 fun h => h2 ((u8_48 y).1 h)
      by_cases h3 : x = 49
      · by_cases h4 : y = 49
        · subst h3; subst h4
          clear h1 h2
          go_enter Tryd.func52, Tryd.ntmps52
          go_wp2
          go_ret
          exact ⟨rfl, rfl⟩
        · have e4 : ((y.toNat : Int) == 49) = false := beq_eq_false_iff_ne.2 fun h => h4 ((u8_49 y).1 h)
          have e : PC.bothT x y = 120 := by rw [PC.bothT, if_neg (by rintro (h | h) <;> contradiction), if_neg (by rintro ⟨_, h⟩; contradiction)]
          rw [e]
          subst h3
          clear h1 h2 h4 e
          go_enter Tryd.func52, Tryd.ntmps52
          go_wp2
          go_ret
          exact ⟨rfl, rfl⟩
      · have e3 : ((x.toNat : Int) == 49) = false := beq_eq_false_iff_ne.2 fun h => h3 ((u8_49 x).1 h)
        have e : PC.bothT x y = 120 := by rw [PC.bothT, if_neg (by rintro (h | h) <;> contradiction), if_neg (by rintro ⟨h, _⟩; contradiction)]
        rw [e]
        clear h1 h2 h3 e
        go_enter Tryd.func52, Tryd.ntmps52
        go_wp2
        go_ret
        exact ⟨rfl, rfl⟩

set_option maxHeartbeats 400000 in
theorem terOf_any (m : List UInt8) (l : Int) (w : World) (h : rng l) (_hs : m.length ≤ 9223372036854775807) :
    Calls Tryd.prog 21 #[.string ⟨m.toArray⟩, .int .i64 l] w fun e w' => e = .returned (.int .u8 ((PC.ofT m l).toNat : Int)) ∧ w = w' := by
  have hV := litsVar_any l w h
  have hN := litsNeg_any l w h
  obtain ⟨R, hR⟩ : ∃ R, R = ((PC.ofT m l).toNat : Int) := ⟨_, rfl⟩
  rw [← hR]
  rw [PC.ofT] at hR
  by_cases hv : PC.varOf l < m.length
  · have hvz : (PC.varOf l : Int) < (m.length : Int) := by omega
    obtain ⟨x, hx⟩ : ∃ x, m[PC.varOf l] = x := ⟨_, rfl⟩
    rw [List.getElem?_eq_getElem hv, hx, Option.getD_some] at hR
    have hO := opp_any x w
    have HR := Lib.hid hR
    clear hR
    generalize PC.varOf l = v at *
    cases hng : PC.negOf l with
    | true =>
      rw [hng] at hN HR
      clear hng
      go_enter Tryd.func21, Tryd.ntmps21
      go_wp2_with (first | (go_at_call 36; refine hV.mono ?_; rintro e w1 ⟨rfl, rfl⟩) | (go_at_call 37; refine hN.mono ?_; rintro e w1 ⟨rfl, rfl⟩) | (go_at_call 38; refine hO.mono ?_; rintro e w1 ⟨rfl, rfl⟩))
      go_ret
      exact ⟨by rw [HR.out]; rfl, rfl⟩
    | false =>
      rw [hng] at hN HR
      clear hng
      go_enter Tryd.func21, Tryd.ntmps21
      go_wp2_with (first | (go_at_call 36; refine hV.mono ?_; rintro e w1 ⟨rfl, rfl⟩) | (go_at_call 37; refine hN.mono ?_; rintro e w1 ⟨rfl, rfl⟩))
      go_ret
      exact ⟨by rw [HR.out]; rfl, rfl⟩
  · have hvz : ¬ (PC.varOf l : Int) < (m.length : Int) := by omega
    rw [List.getElem?_eq_none (by omega), Option.getD_none] at hR
    have hO := opp_any 120 w
    have HR := Lib.hid hR
    clear hR
    generalize PC.varOf l = v at *
    cases hng : PC.negOf l with
    | true =>
      rw [hng] at hN HR
      clear hng
      go_enter Tryd.func21, Tryd.ntmps21
      go_wp2_with (first | (go_at_call 36; refine hV.mono ?_; rintro e w1 ⟨rfl, rfl⟩) | (go_at_call 37; refine hN.mono ?_; rintro e w1 ⟨rfl, rfl⟩) | (go_at_call 38; refine hO.mono ?_; rintro e w1 ⟨rfl, rfl⟩))
      go_ret
      exact ⟨by rw [HR.out]; rfl, rfl⟩
    | false =>
      rw [hng] at hN HR
      clear hng
      go_enter Tryd.func21, Tryd.ntmps21
      go_wp2_with (first | (go_at_call 36; refine hV.mono ?_; rintro e w1 ⟨rfl, rfl⟩) | (go_at_call 37; refine hN.mono ?_; rintro e w1 ⟨rfl, rfl⟩))
      go_ret
      exact ⟨by rw [HR.out]; rfl, rfl⟩

set_option maxHeartbeats 400000 in
theorem rOf_any (m : List UInt8) (l : Int) (w : World) (h : rng l) (_hs : m.length ≤ 9223372036854775807) (hb : ∀ b ∈ m, PC.isTrit b = true) :
    Calls Tryd.prog 18 #[.string ⟨m.toArray⟩, .int .i64 l] w fun e w' => e = .returned (.int .u8 ((PC.ofT m l).toNat : Int)) ∧ w = w' := by
  have hV := rVar_any l w h
  have hN := rNeg_any l w h
  obtain ⟨R, hR⟩ : ∃ R, R = ((PC.ofT m l).toNat : Int) := ⟨_, rfl⟩
  rw [← hR]
  rw [PC.ofT] at hR
  by_cases hv : PC.varOf l < m.length
  · have hvz : (PC.varOf l : Int) < (m.length : Int) := by omega
    have hbx := hb _ (List.getElem_mem hv)
    obtain ⟨x, hx⟩ : ∃ x, m[PC.varOf l] = x := ⟨_, rfl⟩
    rw [hx] at hbx
    rw [List.getElem?_eq_getElem hv, hx, Option.getD_some] at hR
    have HR := Lib.hid hR
    clear hR hb
    have h3 : x = 48 ∨ x = 49 ∨ x = 120 := by
      simp only [PC.isTrit, Bool.or_eq_true, beq_iff_eq] at hbx
      rcases hbx with (h | h) | h
      · exact Or.inl h
      · exact Or.inr (Or.inl h)
      · exact Or.inr (Or.inr h)
    clear hbx
    generalize PC.varOf l = v at *
    cases hng : PC.negOf l with
    | true =>
      rw [hng] at hN HR
      clear hng
      rcases h3 with rfl | rfl | rfl
      · go_enter Tryd.func18, Tryd.ntmps18
        go_wp2_with (first | (go_at_call 32; refine hV.mono ?_; rintro e w1 ⟨rfl, rfl⟩) | (go_at_call 33; refine hN.mono ?_; rintro e w1 ⟨rfl, rfl⟩))
        go_ret
        exact ⟨by rw [HR.out]; rfl, rfl⟩
      · go_enter Tryd.func18, Tryd.ntmps18
        go_wp2_with (first | (go_at_call 32; refine hV.mono ?_; rintro e w1 ⟨rfl, rfl⟩) | (go_at_call 33; refine hN.mono ?_; rintro e w1 ⟨rfl, rfl⟩))
        go_ret
        exact ⟨by rw [HR.out]; rfl, rfl⟩
      · go_enter Tryd.func18, Tryd.ntmps18
        go_wp2_with (first | (go_at_call 32; refine hV.mono ?_; rintro e w1 ⟨rfl, rfl⟩) | (go_at_call 33; refine hN.mono ?_; rintro e w1 ⟨rfl, rfl⟩))
        go_ret
        exact ⟨by rw [HR.out]; rfl, rfl⟩
    | false =>
      rw [hng] at hN HR
      clear hng
      rcases h3 with rfl | rfl | rfl
      · go_enter Tryd.func18, Tryd.ntmps18
        go_wp2_with (first | (go_at_call 32; refine hV.mono ?_; rintro e w1 ⟨rfl, rfl⟩) | (go_at_call 33; refine hN.mono ?_; rintro e w1 ⟨rfl, rfl⟩))
        go_ret
        exact ⟨by rw [HR.out]; rfl, rfl⟩
      · go_enter Tryd.func18, Tryd.ntmps18
        go_wp2_with (first | (go_at_call 32; refine hV.mono ?_; rintro e w1 ⟨rfl, rfl⟩) | (go_at_call 33; refine hN.mono ?_; rintro e w1 ⟨rfl, rfl⟩))
        go_ret
        exact ⟨by rw [HR.out]; rfl, rfl⟩
      · go_enter Tryd.func18, Tryd.ntmps18
        go_wp2_with (first | (go_at_call 32; refine hV.mono ?_; rintro e w1 ⟨rfl, rfl⟩) | (go_at_call 33; refine hN.mono ?_; rintro e w1 ⟨rfl, rfl⟩))
        go_ret
        exact ⟨by rw [HR.out]; rfl, rfl⟩
  · have hvz : ¬ (PC.varOf l : Int) < (m.length : Int) := by omega
    rw [List.getElem?_eq_none (by omega), Option.getD_none] at hR
    have HR := Lib.hid hR
    clear hR hb
    generalize PC.varOf l = v at *
    cases hng : PC.negOf l with
    | true =>
      rw [hng] at hN HR
      clear hng
      go_enter Tryd.func18, Tryd.ntmps18
      go_wp2_with (first | (go_at_call 32; refine hV.mono ?_; rintro e w1 ⟨rfl, rfl⟩) | (go_at_call 33; refine hN.mono ?_; rintro e w1 ⟨rfl, rfl⟩))
      go_ret
      exact ⟨by rw [HR.out]; rfl, rfl⟩
    | false =>
      rw [hng] at hN HR
      clear hng
      go_enter Tryd.func18, Tryd.ntmps18
      go_wp2_with (first | (go_at_call 32; refine hV.mono ?_; rintro e w1 ⟨rfl, rfl⟩) | (go_at_call 33; refine hN.mono ?_; rintro e w1 ⟨rfl, rfl⟩))
      go_ret
      exact ⟨by rw [HR.out]; rfl, rfl⟩

theorem PC.trim_trits (s : PC.Bs) : (Go.Lib.trimS s [48, 49, 120] = []) ↔ s.all PC.isTrit = true := by
  have hp : ∀ b : UInt8, ([48, 49, 120] : List UInt8).contains b = PC.isTrit b := by
    intro b
    unfold PC.isTrit
    simp only [List.contains, List.elem]
    cases b == 48 <;> cases b == 49 <;> cases b == 120 <;> rfl
  have hd : ∀ l : List UInt8, l.dropWhile (fun b => ([48, 49, 120] : List UInt8).contains b) = [] ↔ l.all PC.isTrit = true := by
    intro l
    induction l with
    | nil => simp
    | cons b r ih =>
      rw [List.dropWhile_cons, List.all_cons, ← hp b]
      cases ([48, 49, 120] : List UInt8).contains b with
      | true => simpa using ih
      | false => simp
  unfold Go.Lib.trimS Go.Lib.trimLeftS Go.Lib.trimRightS
  rw [hd]
  constructor
  · intro h
    have h2 : (s.reverse.dropWhile (fun b => ([48, 49, 120] : List UInt8).contains b)) = [] := by
      cases e : s.reverse.dropWhile (fun b => ([48, 49, 120] : List UInt8).contains b) with
      | nil => rfl
      | cons b r =>
        have h3 := PC.head_not (fun b => ([48, 49, 120] : List UInt8).contains b) s.reverse b r e
        rw [e] at h
        rw [List.all_reverse, List.all_cons, Bool.and_eq_true, ← hp b] at h
        exact absurd h.1 (by rw [h3]; decide)
    have := (hd _).1 h2
    rwa [List.all_reverse] at this
  · intro h
    have h2 := (hd s.reverse).2 (by rwa [List.all_reverse])
    rw [h2]; rfl

theorem trits_trim (s : List UInt8) (w : World) (hs : s.length ≤ 9223372036854775807) :
    Calls Tryd.prog 35 #[.string ⟨s.toArray⟩, .string ⟨#[48, 49, 120]⟩] w fun e w' => e = .returned (.string ⟨(Go.Lib.trimS s [48, 49, 120]).toArray⟩) ∧ Below w.heap.size w w' := by
  have h := Any.strings_Trim_laid Tryd.lays160 (by kernel_rfl) ⟨s.toArray⟩ ⟨#[48, 49, 120]⟩ w (by simpa [ByteArray.size] using hs) (by decide) (Go.Proofs.ascii_of_all (by decide))
  exact h

set_option maxHeartbeats 1000000 in
theorem terTrits_any (s : List UInt8) (n : Nat) (w : World) (hs : s.length ≤ 9223372036854775807) (_hn : n ≤ 9223372036854775807) :
    Calls Tryd.prog 19 #[.string ⟨s.toArray⟩, .int .i64 n] w fun e w' => e = .returned (.bool (PC.tritsOk s n)) ∧ Below w.heap.size w w' := by
  have hT := trits_trim s w hs
  have hb := PC.trim_trits s
  obtain ⟨R, hR⟩ : ∃ R, R = PC.tritsOk s n := ⟨_, rfl⟩
  rw [← hR]
  have HR := Lib.hid hR
  clear hR
  by_cases hl : s.length = n
  · have hlz : (s.length : Int) = (n : Int) := by omega
    have hlz2 : ((s.length : Int) == (n : Int)) = true := by simpa using hlz
    generalize hU : Go.Lib.trimS s [48, 49, 120] = U at *
    have HB := Lib.hid hb
    have HL := Lib.hid hl
    clear hb hU hl hlz
    cases U with
    | nil =>
      go_enter Tryd.func19, Tryd.ntmps19
      go_wp2_with (go_at_call 35; refine hT.mono ?_; rintro e w1 ⟨rfl, hb1⟩)
      go_ret
      have : R = true := by rw [HR.out, PC.tritsOk, (by first | exact HB.out.1 rfl | exact HB.out.1 trivial : s.all PC.isTrit = true), decide_eq_true HL.out]; rfl
      exact ⟨by rw [this]; rfl, hb1⟩
    | cons x r =>
      go_enter Tryd.func19, Tryd.ntmps19
      go_wp2_with (go_at_call 35; refine hT.mono ?_; rintro e w1 ⟨rfl, hb1⟩)
      go_ret
      have : R = false := by
        rw [HR.out, PC.tritsOk]
        cases h : s.all PC.isTrit with
        | true => have := HB.out.2 h; cases this
        | false => rfl
      exact ⟨by rw [this]; rfl, hb1⟩
  · have hlz : ¬ (s.length : Int) = (n : Int) := by omega
    have hlz2 : ((s.length : Int) == (n : Int)) = false := by simpa using hlz
    have HL := Lib.hid hl
    clear hl hT hb
    go_enter Tryd.func19, Tryd.ntmps19
    go_wp2_with fail
    go_ret
    have : R = false := by rw [HR.out, PC.tritsOk, decide_eq_false HL.out, Bool.and_false]
    exact ⟨by rw [this]; rfl, Below.refl _ _⟩

theorem tritsOk_step (s : List UInt8) (n : Nat) : PC.tritsOk s n = true ↔ (∀ j (h : j < s.length), PC.isTrit s[j] = true) ∧ s.length = n := by
  unfold PC.tritsOk
  simp only [Bool.and_eq_true, List.all_eq_true, decide_eq_true_eq]
  constructor
  · rintro ⟨h1, h2⟩
    exact ⟨fun j h => h1 _ (List.getElem_mem h), h2⟩
  · rintro ⟨h1, h2⟩
    refine ⟨fun b hb => ?_, h2⟩
    obtain ⟨j, hj, rfl⟩ := List.getElem_of_mem hb
    exact h1 j hj

set_option maxHeartbeats 1000000 in
theorem rTrits_any (s : List UInt8) (n : Nat) (w : World) (hs : s.length ≤ 9223372036854775807) :
    Calls Tryd.prog 20 #[.string ⟨s.toArray⟩, .int .i64 (n : Int)] w fun e w' => e = .returned (.bool (PC.tritsOk s n)) ∧ w = w' := by
  obtain ⟨R, hR⟩ : ∃ R, R = PC.tritsOk s n := ⟨_, rfl⟩
  rw [← hR]
  have HR := Lib.hid hR
  clear hR
  go_enter Tryd.func20, Tryd.ntmps20
  go_wp2
  go_loopg [5] s.length (fun gg s5 wr => ∃ k : Nat, k ≤ s.length ∧ s.length - k ≤ gg ∧ s5 = .int .i64 k ∧ w = wr ∧ Aside (∀ j (hj : j < k) (h : j < s.length), PC.isTrit s[j] = true))
  case atStart => exact ⟨0, Nat.zero_le _, by omega, rfl, rfl, fun j hj => absurd hj (Nat.not_lt_zero _)⟩
  case round =>
    obtain ⟨k, hk, hg, rfl, rfl, A⟩ := hrel
    by_cases hlt : k < s.length
    · obtain ⟨x, hx⟩ : ∃ x, s[k] = x := ⟨_, rfl⟩
      have X := Lib.hid hx
      have hltz : (k : Int) < (s.length : Int) := by omega
      by_cases h1 : (x.toNat : Int) = 48
      · have H1 : Hid (x = 48) := (u8_48 x).1 h1
        go_wp2
        go_roundg (s.length - (k + 1))
        case measure => omega
        case rel =>
          refine ⟨k + 1, by omega, by omega, by go_num, rfl, (show Aside _ from fun j hj h => ?_)⟩
          by_cases e : j = k
          · subst e; rw [X.out, H1.out]; rfl
          · exact A.out j (by omega) h
      · by_cases h2 : (x.toNat : Int) = 49
        · have H1 : Hid (x = 49) := (u8_49 x).1 h2
          go_wp2
          go_roundg (s.length - (k + 1))
          case measure => omega
          case rel =>
            refine ⟨k + 1, by omega, by omega, by go_num, rfl, (show Aside _ from fun j hj h => ?_)⟩
            by_cases e : j = k
            · subst e; rw [X.out, H1.out]; rfl
            · exact A.out j (by omega) h
        · by_cases h3 : (x.toNat : Int) = 120
          · have H1 : Hid (x = 120) := (u8_120 x).1 h3
            go_wp2
            go_roundg (s.length - (k + 1))
            case measure => omega
            case rel =>
              refine ⟨k + 1, by omega, by omega, by go_num, rfl, (show Aside _ from fun j hj h => ?_)⟩
              by_cases e : j = k
              · subst e; rw [X.out, H1.out]; rfl
              · exact A.out j (by omega) h
          · have h1' : ((x.toNat : Int) != 48) = true := by simpa using h1
            have h2' : ((x.toNat : Int) != 49) = true := by simpa using h2
            have h3' : ((x.toNat : Int) != 120) = true := by simpa using h3
            go_wp2
            go_ret
            have : R = false := by
              rw [HR.out, Bool.eq_false_iff]
              intro hb
              have hx := ((tritsOk_step s n).1 hb).1 k hlt
              rw [X.out] at hx
              simp only [PC.isTrit, Bool.or_eq_true, beq_iff_eq] at hx
              rcases hx with (h | h) | h
              · exact h1 ((u8_48 x).2 h)
              · exact h2 ((u8_49 x).2 h)
              · exact h3 ((u8_120 x).2 h)
            exact ⟨by rw [this]; rfl, rfl⟩
    · have hltz : ¬ (k : Int) < (s.length : Int) := by omega
      go_wp2
      go_ret
      refine ⟨?_, rfl⟩
      have : R = decide ((s.length : Int) = (n : Int)) := by
        rw [HR.out, Bool.eq_iff_iff, tritsOk_step, decide_eq_true_iff]
        constructor
        · rintro ⟨_, h⟩; omega
        · intro h; exact ⟨fun j hj => A.out j (by omega) hj, by omega⟩
      rw [this]; rfl

end Go.Proofs.YtlakfaalpijhiaaDoor
