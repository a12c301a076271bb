/- Contracts: is a text bits (both sides'); slices.ContainsFunc at texts. -/
import Derived.Test.YtfjejjdkogfelaaDoorShelf
import Derived.Test.YtfjejjdkogfelaaDoorPlainM
import Derived.Test.YtfjejjdkogfelaaDoorLibC
import Derived.Test.YtfjejjdkogfelaaDoorWalks01e
import Derived.BigRegion
namespace Go.Proofs.YtfjejjdkogfelaaDoor
open Go.RowKit Go.Shelf
attribute [local simp] mk_get

theorem cat_eq (a b : List UInt8) : (ByteArray.mk a.toArray) ++ (ByteArray.mk b.toArray) = ⟨(a ++ b).toArray⟩ := by
  apply ByteArray.ext
  simp [ByteArray.data_append]

theorem bitsOk_step (s : List UInt8) (n : Nat) : PC.bitsOk s n = true ↔ (∀ j (h : j < s.length), s[j] = 48 ∨ s[j] = 49) ∧ s.length = n := by
  unfold PC.bitsOk
  simp only [Bool.and_eq_true, List.all_eq_true, Bool.or_eq_true, beq_iff_eq, decide_eq_true_eq]
  constructor
  · rintro ⟨h1, h2⟩
    exact ⟨fun j h => h1 _ (List.getElem_mem h), h2⟩
  · rintro ⟨h1, h2⟩
    refine ⟨fun b hb => ?_, h2⟩
    obtain ⟨j, hj, rfl⟩ := List.getElem_of_mem hb
    exact h1 j hj

theorem u8_48 (x : UInt8) : ((x.toNat : Int) = 48) ↔ x = 48 := by
  rw [← UInt8.toNat_inj]
  show _ ↔ x.toNat = 48
  omega
theorem u8_49 (x : UInt8) : ((x.toNat : Int) = 49) ↔ x = 49 := by
  rw [← UInt8.toNat_inj]
  show _ ↔ x.toNat = 49
  omega

theorem u8_beq49 (x : UInt8) : (x == 49) = ((x.toNat : Int) == 49) := by
  rw [Bool.eq_iff_iff]
  simp only [beq_iff_eq]
  exact (u8_49 x).symm

set_option maxHeartbeats 1000000 in
theorem rBits_any (s : List UInt8) (n : Nat) (w : World) (hs : s.length ≤ 9223372036854775807) :
    Calls Tryd.prog 15 #[.string ⟨s.toArray⟩, .int .i64 (n : Int)] w fun e w' => e = .returned (.bool (PC.bitsOk s n)) ∧ w = w' := by
  obtain ⟨R, hR⟩ : ∃ R, R = PC.bitsOk s n := ⟨_, rfl⟩
  rw [← hR]
  have HR := Lib.hid hR
  clear hR
  go_enter Tryd.func15, Tryd.ntmps15
  go_wp2
  go_loopg [5] s.length (fun gg s5 wr => ∃ k : Nat, k ≤ s.length ∧ s.length - k ≤ gg ∧ s5 = .int .i64 k ∧ w = wr ∧ Aside (∀ j (hj : j < k) (h : j < s.length), s[j] = 48 ∨ s[j] = 49))
  case atStart => exact ⟨0, Nat.zero_le _, by omega, rfl, rfl, fun j hj => absurd hj (Nat.not_lt_zero _)⟩
  case round =>
    obtain ⟨k, hk, hg, rfl, rfl, A⟩ := hrel
    by_cases hlt : k < s.length
    · obtain ⟨x, hx⟩ : ∃ x, s[k] = x := ⟨_, rfl⟩
      have X := Lib.hid hx
      have hltz : (k : Int) < (s.length : Int) := by omega
      by_cases h1 : (x.toNat : Int) = 48
      · have H1 : Hid (x = 48) := (u8_48 x).1 h1
        go_wp2
        go_roundg (s.length - (k + 1))
        case measure => omega
        case rel =>
          refine ⟨k + 1, by omega, by omega, by go_num, rfl, (show Aside _ from fun j hj h => ?_)⟩
          by_cases e : j = k
          · subst e; exact Or.inl (X.out.trans H1.out)
          · exact A.out j (by omega) h
      · by_cases h2 : (x.toNat : Int) = 49
        · have H1 : Hid (x = 49) := (u8_49 x).1 h2
          go_wp2
          go_roundg (s.length - (k + 1))
          case measure => omega
          case rel =>
            refine ⟨k + 1, by omega, by omega, by go_num, rfl, (show Aside _ from fun j hj h => ?_)⟩
            by_cases e : j = k
            · subst e; exact Or.inr (X.out.trans H1.out)
            · exact A.out j (by omega) h
        · have h1' : ((x.toNat : Int) != 48) = true := by simpa using h1
          have h2' : ((x.toNat : Int) != 49) = true := by simpa using h2
          go_wp2
          go_ret
          have : R = false := by
            rw [HR.out, Bool.eq_false_iff]
            intro hb
            rcases ((bitsOk_step s n).1 hb).1 k hlt with h | h
            · rw [X.out] at h; exact h1 ((u8_48 x).2 h)
            · rw [X.out] at h; exact h2 ((u8_49 x).2 h)
          exact ⟨by rw [this]; rfl, rfl⟩
    · have hltz : ¬ (k : Int) < (s.length : Int) := by omega
      go_wp2
      go_ret
      refine ⟨?_, rfl⟩
      have : R = decide ((s.length : Int) = (n : Int)) := by
        rw [HR.out, Bool.eq_iff_iff, bitsOk_step, decide_eq_true_iff]
        constructor
        · rintro ⟨_, h⟩; omega
        · intro h; exact ⟨fun j hj => A.out j (by omega) hj, by omega⟩
      rw [this]; rfl

theorem simBits_trim (s : List UInt8) (w : World) (hs : s.length ≤ 9223372036854775807) :
    Calls Tryd.prog 32 #[.string ⟨s.toArray⟩, .string ⟨#[48, 49]⟩] w fun e w' => e = .returned (.string ⟨(Go.Lib.trimS s [48, 49]).toArray⟩) ∧ Below w.heap.size w w' := by
  have h := Any.strings_Trim_laid Tryd.lays160 (by kernel_rfl) ⟨s.toArray⟩ ⟨#[48, 49]⟩ w (by simpa [ByteArray.size] using hs) (by decide) (Go.Proofs.ascii_of_all (by decide))
  exact h

set_option maxHeartbeats 1000000 in
theorem simBits_any (s : List UInt8) (n : Nat) (w : World) (hs : s.length ≤ 9223372036854775807) (_hn : n ≤ 9223372036854775807) :
    Calls Tryd.prog 22 #[.string ⟨s.toArray⟩, .int .i64 n] w fun e w' => e = .returned (.bool (PC.bitsOk s n)) ∧ Below w.heap.size w w' := by
  have hT := simBits_trim s w hs
  have hb := PC.trim_bits s
  obtain ⟨R, hR⟩ : ∃ R, R = PC.bitsOk s n := ⟨_, rfl⟩
  rw [← hR]
  have HR := Lib.hid hR
  clear hR
  by_cases hl : s.length = n
  · have hlz : (s.length : Int) = (n : Int) := by omega
    have hlz2 : ((s.length : Int) == (n : Int)) = true := by simpa using hlz
    generalize hU : Go.Lib.trimS s [48, 49] = U at *
    have HB := Lib.hid hb
    have HL := Lib.hid hl
    clear hb hU hl hlz
    cases U with
    | nil =>
      go_enter Tryd.func22, Tryd.ntmps22
      go_wp2_with (go_at_call 32; refine hT.mono ?_; rintro e w1 ⟨rfl, hb1⟩)
      go_ret
      have : R = true := by rw [HR.out, PC.bitsOk, (by first | exact HB.out.1 rfl | exact HB.out.1 trivial : s.all (fun b => b == 48 || b == 49) = true), decide_eq_true HL.out]; rfl
      exact ⟨by rw [this]; rfl, hb1⟩
    | cons x r =>
      go_enter Tryd.func22, Tryd.ntmps22
      go_wp2_with (go_at_call 32; refine hT.mono ?_; rintro e w1 ⟨rfl, hb1⟩)
      go_ret
      have : R = false := by
        rw [HR.out, PC.bitsOk]
        cases h : s.all (fun b => b == 48 || b == 49) with
        | true => have := HB.out.2 h; cases this
        | false => rfl
      exact ⟨by rw [this]; rfl, hb1⟩
  · have hlz : ¬ (s.length : Int) = (n : Int) := by omega
    have hlz2 : ((s.length : Int) == (n : Int)) = false := by simpa using hlz
    have HL := Lib.hid hl
    clear hl hT hb
    go_enter Tryd.func22, Tryd.ntmps22
    go_wp2_with fail
    go_ret
    have : R = false := by rw [HR.out, PC.bitsOk, decide_eq_false HL.out, Bool.and_false]
    exact ⟨by rw [this]; rfl, Below.refl _ _⟩

set_option maxHeartbeats 1000000 in
theorem IndexFuncS_any (p : List UInt8 → Bool) (g : Nat) (lb : Array Value) (W : World) (eg : ∀ args w, (callFunc g args).run Tryd.prog w = .ok (.enter g args) w)
    (hp : ∀ (x : List UInt8) w, x.length ≤ 9223372036854775807 → Below W.heap.size W w → Calls Tryd.prog g (#[.string ⟨x.toArray⟩] ++ lb) w fun e w' => e = .returned (.bool (p x)) ∧ Below w.heap.size w w')
    (l : List (List UInt8)) (v : Value) (hv : Strs W v l) :
    Calls Tryd.prog 33 #[v, .func (.func g) #[] lb] W fun e w' => e = .returned (.int .i64 (idx p l)) ∧ Below W.heap.size W w' := by
  obtain ⟨ao, cap, rfl, h1, h2, hc⟩ := hv.open_
  go_enter Tryd.func33, Tryd.ntmps33
  go_wp2
  go_loopg [5, 8] l.length (fun gg _ s8 wr => ∃ k : Nat, k ≤ l.length ∧ l.length - k ≤ gg ∧ s8 = .int .i64 k ∧ Below W.heap.size W wr ∧ Aside (∀ j (hj : j < k) (h : j < l.length), p l[j] = false))
  case atStart => exact ⟨0, Nat.zero_le _, by omega, rfl, Below.refl _ _, fun j hj => absurd hj (Nat.not_lt_zero _)⟩
  case round =>
    obtain ⟨k, hk, hg, rfl, hbr, A⟩ := hrel
    by_cases hlt : k < l.length
    · obtain ⟨b, off, rfl, hbs, hry, hcell⟩ := hc k hlt
      have hcell := (hbr.cell hbs).trans hcell
      clear hc
      generalize hy : l[k] = y at *
      have B : Aside (l[k] = y) := hy
      clear hy
      have hcall := hp y wr hry hbr
      clear hp
      have hltz : (k : Int) < (l.length : Int) := by omega
      cases hq : p y with
      | true =>
        rw [hq] at hcall
        go_wp2_with (go_at_fn g; refine (hcall).mono ?_; rintro e w' ⟨rfl, hb'⟩)
        go_ret
        refine ⟨?_, Below.of hbr hb'⟩
        rw [idx_hit p l k hlt (fun j hj => A.out j hj (by omega)) (by rw [B.out]; exact hq)]; rfl
      | false =>
        rw [hq] at hcall
        go_wp2_with (go_at_fn g; refine (hcall).mono ?_; rintro e w' ⟨rfl, hb'⟩)
        go_roundg (l.length - (k + 1))
        case measure => omega
        case rel =>
          refine ⟨k + 1, by omega, by omega, by go_num, Below.of hbr hb', (show Aside _ from fun j hj h => ?_)⟩
          by_cases e : j = k
          · subst e; rw [B.out]; exact hq
          · exact A.out j (by omega) h
    · have hltz : ¬ (k : Int) < (l.length : Int) := by omega
      go_wp2
      go_ret
      refine ⟨?_, hbr⟩
      rw [idx_miss p l (fun j hj => A.out j (by omega) hj)]; rfl

set_option maxHeartbeats 1000000 in
theorem ContainsFuncS_any (p : List UInt8 → Bool) (g : Nat) (lb : Array Value) (W : World) (eg : ∀ args w, (callFunc g args).run Tryd.prog w = .ok (.enter g args) w)
    (hp : ∀ (x : List UInt8) w, x.length ≤ 9223372036854775807 → Below W.heap.size W w → Calls Tryd.prog g (#[.string ⟨x.toArray⟩] ++ lb) w fun e w' => e = .returned (.bool (p x)) ∧ Below w.heap.size w w')
    (l : List (List UInt8)) (v : Value) (hv : Strs W v l) :
    Calls Tryd.prog 23 #[v, .func (.func g) #[] lb] W fun e w' => e = .returned (.bool (l.any p)) ∧ Below W.heap.size W w' := by
  rw [← idx_nonneg]
  go_enter Tryd.func23, Tryd.ntmps23
  go_wp2_with (go_at_call 33; refine (IndexFuncS_any p g lb W eg hp l v hv).mono ?_; rintro e w' ⟨rfl, hb⟩)
  go_ret
  exact ⟨rfl, hb⟩

end Go.Proofs.YtfjejjdkogfelaaDoor
