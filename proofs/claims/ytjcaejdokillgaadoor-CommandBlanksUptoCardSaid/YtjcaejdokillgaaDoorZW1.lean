/- Contracts: prefixes, Parse. -/
import Derived.Test.YtjcaejdokillgaaDoorZP2
import Derived.Test.YtjcaejdokillgaaDoorZL1
import Derived.Test.YtjcaejdokillgaaDoorZWalkF
namespace Go.Proofs.YtjcaejdokillgaaDoor
open Go.RowKit

set_option maxHeartbeats 400000 in
theorem form1_any (c : Int) (w : World) :
    Calls Tryd.prog 136 #[.int .u8 c] w fun e w' => e = .returned (.bool (decide (c < 48) || decide (57 < c))) ∧ w = w' := by
  by_cases h1 : c < 48
  · go_enter Tryd.func136, Tryd.ntmps136
    go_wp2
    go_ret
    exact ⟨by simp [h1], rfl⟩
  · by_cases h2 : 57 < c
    · go_enter Tryd.func136, Tryd.ntmps136
      go_wp2
      go_ret
      exact ⟨by simp, rfl⟩
    · go_enter Tryd.func136, Tryd.ntmps136
      go_wp2
      go_ret
      exact ⟨by simp [h1, h2], rfl⟩


end Go.Proofs.YtjcaejdokillgaaDoor

namespace Go.Proofs.YtjcaejdokillgaaDoor
open Go.RowKit Go.Shelf


theorem enters13 : ∀ args w, (callFunc 136 args).run Tryd.prog w = .ok (.enter 136 args) w := enters_of Tryd.func136 (by kernel_rfl) rfl

def notDigit (c : UInt8) : Bool := decide ((c.toNat : Int) < 48) || decide (57 < (c.toNat : Int))

theorem form1_pred (x : UInt8) (w : World) : Calls Tryd.prog 136 (#[.int .u8 (x.toNat : Int)] ++ #[]) w fun e w' => e = .returned (.bool (notDigit x)) ∧ w = w' := by
  rw [Array.append_empty]
  exact form1_any _ w

theorem notDigit_eq (c : UInt8) : notDigit c = !P01.digit c := by
  unfold notDigit P01.digit
  rw [Bool.eq_iff_iff]
  simp [UInt8.le_iff_toNat_le]
  omega

theorem any_notDigit (l : List UInt8) : l.any notDigit = !l.all P01.digit := by
  induction l with
  | nil => rfl
  | cons c r ih => simp only [List.any_cons, List.all_cons, ih, notDigit_eq, Bool.not_and]

attribute [local simp] mk_get

theorem form_cons_eq (c : UInt8) (r : List UInt8) : P01.form (c :: r) = ((!decide ((c.toNat : Int) = 48) || decide (((r.length : Int) + 1) = 1)) && !(c :: r).any notDigit) := by
  rw [any_notDigit, Bool.not_not]
  unfold P01.form
  have e1 : (some c != some 48) = !decide ((c.toNat : Int) = 48) := by
    rw [Bool.eq_iff_iff]
    simp only [bne_iff_ne, ne_eq, Option.some.injEq, Bool.not_eq_true', decide_eq_false_iff_not]
    have : c = 48 ↔ c.toNat = 48 := by rw [← UInt8.toNat_inj]; rfl
    rw [this]; omega
  have e2 : ((r.length + 1 == 1) : Bool) = decide (((r.length : Int) + 1) = 1) := by
    show decide (r.length + 1 = 1) = _
    exact decide_eq_decide.2 (by omega)
  simp only [List.isEmpty_cons, Bool.not_false, Bool.true_and, List.head?_cons, e1, List.length_cons, e2]

set_option maxHeartbeats 1000000 in
theorem form_nil (w : World) : Calls Tryd.prog 121 #[.string ⟨#[]⟩] w fun e w' => e = .returned (.bool false) ∧ w = w' := by
  go_enter Tryd.func121, Tryd.ntmps121
  go_wp2
  go_ret
  exact ⟨rfl, rfl⟩

set_option maxHeartbeats 1000000 in
theorem form_cons (c : UInt8) (r : List UInt8) (w : World) (hl : (c :: r).length ≤ 9223372036854775807) :
    Calls Tryd.prog 121 #[.string ⟨(c :: r).toArray⟩] w fun e w' => e = .returned (.bool (P01.form (c :: r))) ∧ Below w.heap.size w w' := by
  have kb := fun w s => run_bytes_of_string (P := Tryd.prog) w 9 47 5 s Tryd.underlying9 Tryd.underlying47 Tryd.underlying5
  rw [form_cons_eq]
  by_cases h1 : (c.toNat : Int) = 48
  · by_cases h2 : ((r.length : Int) + 1 = 1)
    · go_enter Tryd.func121, Tryd.ntmps121
      go_wp2_with (go_at_call 41; refine (ContainsFuncB_any notDigit 136 #[] enters13 form1_pred (c :: r) _ _ (by exact (Bytes_conv _ _ _ _ _ hl).drew)).mono ?_; rintro e w' ⟨rfl, rfl⟩)
      go_ret
      exact ⟨by simp [h1, h2], (((Below.refl _ _).alloc (Nat.le_refl _) _).drew)⟩
    · go_enter Tryd.func121, Tryd.ntmps121
      go_wp2
      go_ret
      exact ⟨by simp [h1, h2], Below.refl _ _⟩
  · go_enter Tryd.func121, Tryd.ntmps121
    go_wp2_with (go_at_call 41; refine (ContainsFuncB_any notDigit 136 #[] enters13 form1_pred (c :: r) _ _ (by exact (Bytes_conv _ _ _ _ _ hl).drew)).mono ?_; rintro e w' ⟨rfl, rfl⟩)
    go_ret
    exact ⟨by simp [h1], (((Below.refl _ _).alloc (Nat.le_refl _) _).drew)⟩
end Go.Proofs.YtjcaejdokillgaaDoor

namespace Go.Proofs.YtjcaejdokillgaaDoor
open Go.RowKit Go.Shelf
attribute [local simp] mk_get

set_option maxHeartbeats 400000 in
theorem slHasPrefix_minus (l : List UInt8) (w : World) (hl : l.length ≤ 9223372036854775807) :
    Calls Tryd.prog 147 #[.string ⟨l.toArray⟩, .string ⟨#[45]⟩] w fun e w' => e = .returned (.bool (l.head? == some 45)) ∧ w = w' := by
  cases l with
  | nil =>
    go_enter Tryd.func147, Tryd.ntmps147
    go_wp2
    go_ret
    exact ⟨rfl, rfl⟩
  | cons c r =>
    have hr : ¬ ((r.length : Int) + 1 < 1) := by omega
    go_enter Tryd.func147, Tryd.ntmps147
    go_wp2
    go_ret
    refine ⟨?_, rfl⟩
    rw [ByteArray.extract_mk]
    simp

set_option maxHeartbeats 400000 in
theorem slCutPrefix_minus (l : List UInt8) (w : World) (hl : l.length ≤ 9223372036854775807) :
    Calls Tryd.prog 135 #[.string ⟨l.toArray⟩, .string ⟨#[45]⟩] w fun e w' => e = .returned (.tuple #[.string ⟨(P01.unsig l).1.toArray⟩, .bool (P01.unsig l).2]) ∧ w = w' := by
  cases hh : (l.head? == some 45) with
  | false =>
    have hc := slHasPrefix_minus l w hl
    rw [hh] at hc
    have hu : P01.unsig l = (l, false) := by
      cases l with
      | nil => rfl
      | cons c r =>
        have : c ≠ 45 := by simpa using hh
        simp [P01.unsig, this]
    rw [hu]
    clear hu hh
    go_enter Tryd.func135, Tryd.ntmps135
    go_wp2_with (go_at_call 147; refine hc.mono ?_; rintro e w' ⟨rfl, rfl⟩)
    go_ret2
    exact ⟨rfl, rfl⟩
  | true =>
    cases l with
    | nil => cases hh
    | cons c r =>
      obtain rfl : c = 45 := by simpa using hh
      have hc := slHasPrefix_minus (45 :: r) w hl
      rw [hh] at hc
      have hu : P01.unsig (45 :: r) = (r, true) := rfl
      rw [hu]
      clear hu hh
      simp only [List.length_cons] at hl
      go_enter Tryd.func135, Tryd.ntmps135
      go_wp2_with (go_at_call 147; refine hc.mono ?_; rintro e w' ⟨rfl, rfl⟩)
      go_ret2
      refine ⟨?_, rfl⟩
      rw [ByteArray.extract_mk]
      simp

set_option maxHeartbeats 400000 in
theorem CutPrefix_minus (l : List UInt8) (w : World) (hl : l.length ≤ 9223372036854775807) :
    Calls Tryd.prog 120 #[.string ⟨l.toArray⟩, .string ⟨#[45]⟩] w fun e w' => e = .returned (.tuple #[.string ⟨(P01.unsig l).1.toArray⟩, .bool (P01.unsig l).2]) ∧ w = w' := by
  go_enter Tryd.func120, Tryd.ntmps120
  go_wp2_with (go_at_call 135; refine (slCutPrefix_minus l _ hl).mono ?_; rintro e w' ⟨rfl, rfl⟩)
  go_ret2
  exact ⟨rfl, rfl⟩

theorem form_any (l : List UInt8) (w : World) (hl : l.length ≤ 9223372036854775807) :
    Calls Tryd.prog 121 #[.string ⟨l.toArray⟩] w fun e w' => e = .returned (.bool (P01.form l)) ∧ Below w.heap.size w w' := by
  cases l with
  | nil => exact (form_nil w).mono fun e w' ⟨h1, h2⟩ => ⟨h1, h2 ▸ Below.refl _ _⟩
  | cons c r => exact form_cons c r w hl

theorem val_take (l : List UInt8) (k : Nat) (h : k < l.length) : P01.val (l.take (k + 1)) = 10 * P01.val (l.take k) + (l[k].toNat - 48) := by
  rw [List.take_succ_eq_append_getElem h, P01.val_snoc]

theorem val_take_lt (l : List UInt8) (k : Nat) (h : l.all P01.digit = true) (hk : k ≤ 14) : P01.val (l.take k) < 100000000000000 := by
  have h1 : (l.take k).all P01.digit = true := by
    rw [List.all_eq_true] at h ⊢
    exact fun x hx => h x (List.mem_of_mem_take hx)
  have h2 := P01.val_lt _ h1
  have h3 : 10 ^ (l.take k).length ≤ 10 ^ 14 := Nat.pow_le_pow_right (by omega) (by have := List.length_take_le k l; omega)
  have h4 : (10 : Nat) ^ 14 = 100000000000000 := rfl
  omega

set_option maxHeartbeats 1000000 in
theorem Parse_any (l : List UInt8) (w : World) (hl : l.length ≤ 9223372036854775807) :
    Calls Tryd.prog 95 #[.string ⟨l.toArray⟩] w fun e w' => e = .returned (.tuple #[.int .i64 (P01.parse l).1, .int .i64 (P01.parse l).2]) ∧ Below w.heap.size w w' := by
  have kb := fun w s => run_bytes_of_string (P := Tryd.prog) w 9 47 5 s Tryd.underlying9 Tryd.underlying47 Tryd.underlying5
  have hc := CutPrefix_minus l w hl
  have hp : P01.parse l = P01.parse l := rfl
  conv at hp => rhs; unfold P01.parse
  have htl : (P01.unsig l).1.length ≤ 9223372036854775807 := by
    unfold P01.unsig
    split
    · simp
    · split <;> simp_all <;> omega
  rw [hp]
  clear hp hl
  revert hc htl
  generalize P01.unsig l = tb
  obtain ⟨t, b⟩ := tb
  intro hc htl
  have hfa := form_any t w htl
  revert hfa
  by_cases hA : P01.form t = false
  · rw [if_pos (Or.inl hA), hA]
    intro hfa
    clear hA
    go_enter Tryd.func95, Tryd.ntmps95
    go_wp2_with (first | (go_at_call 120; refine hc.mono ?_; rintro e w' ⟨rfl, rfl⟩) | (go_at_call 121; refine hfa.mono ?_; rintro e w1 ⟨rfl, hb1⟩))
    go_ret2
    exact ⟨rfl, hb1⟩
  · simp only [Bool.not_eq_false] at hA
    rw [hA]
    by_cases hB : b = true ∧ t = [48]
    · obtain ⟨rfl, rfl⟩ := hB
      rw [if_pos (Or.inr ⟨rfl, rfl⟩)]
      intro hfa
      clear hA
      go_enter Tryd.func95, Tryd.ntmps95
      go_wp2_with (first | (go_at_call 120; refine hc.mono ?_; rintro e w' ⟨rfl, rfl⟩) | (go_at_call 121; refine hfa.mono ?_; rintro e w1 ⟨rfl, hb1⟩))
      go_ret2
      exact ⟨rfl, hb1⟩
    · rw [if_neg (by rintro (h | h); cases h; exact hB h)]
      intro hfa
      have hB' : b = false ∨ (b = true ∧ (t == [48]) = false) := by
        cases b
        · exact Or.inl rfl
        · exact Or.inr ⟨rfl, by simpa using hB⟩
      clear hB
      by_cases hC : 14 < t.length
      · rw [if_pos hC]
        rcases hB' with rfl | ⟨rfl, hB⟩
        all_goals
          go_enter Tryd.func95, Tryd.ntmps95
          go_wp2_with (first | (go_at_call 120; refine hc.mono ?_; rintro e w' ⟨rfl, rfl⟩) | (go_at_call 121; refine hfa.mono ?_; rintro e w1 ⟨rfl, hb1⟩))
          go_ret2
          exact ⟨rfl, hb1⟩
      · rw [if_neg hC]
        have hD := P01.val_lt
        have hAll : t.all P01.digit = true := by
          simp only [P01.form, Bool.and_eq_true] at hA; exact hA.2
        clear hA hD
        have hW : ∀ (C : Nat) (fr : Nat × Nat) (w1 : World) j (hj : j < t.length), (w1.alloc (.cells (bytesRow ⟨t.toArray⟩ C) 5 fr)).cell? ⟨w1.heap.size, j, none⟩ = some (.int .u8 (t[j].toNat : Int)) := by
          intro C fr w1 j hj
          rw [World.cell?_alloc_mark, bytesRow_at _ _ _ (by simpa using hj)]
          simp
        generalize hR : (if 1099511627776 < P01.val t then ((0 : Int), (4 : Int)) else ((if b = true then -(P01.val t : Int) else (P01.val t : Int)), 0)) = R
        have HR := Lib.hid hR
        clear hR
        rcases hB' with rfl | ⟨rfl, hB⟩
        all_goals
          go_enter Tryd.func95, Tryd.ntmps95
          go_wp2_with (first | (go_at_call 120; refine hc.mono ?_; rintro e w' ⟨rfl, rfl⟩) | (go_at_call 121; refine hfa.mono ?_; rintro e w1 ⟨rfl, hb1⟩))
          go_loopg [6, 32] t.length (fun gg s6 s32 wr => ∃ k : Nat, k ≤ t.length ∧ t.length - k ≤ gg ∧ s32 = .int .i64 k ∧ s6 = .int .i64 (P01.val (t.take k)) ∧
            Aside ((∀ j (hj : j < t.length), wr.cell? ⟨w1.heap.size, j, none⟩ = some (.int .u8 (t[j].toNat : Int))) ∧ Below w.heap.size w wr))
          case atStart => exact ⟨0, Nat.zero_le _, by omega, rfl, rfl, fun j hj => hW _ _ w1 j hj, (hb1.alloc hb1.size _).drew⟩
          case round =>
            obtain ⟨k, hk, hg, rfl, rfl, HA⟩ := hrel
            have hv := val_take_lt t k hAll (by omega)
            by_cases hlt : k < t.length
            · have hcell := HA.out.1 k hlt
              have hd : 48 ≤ t[k].toNat ∧ t[k].toNat ≤ 57 := by
                have := List.all_eq_true.1 hAll _ (List.getElem_mem hlt)
                simpa [P01.digit, UInt8.le_iff_toNat_le] using this
              obtain ⟨hd1, hd2⟩ := hd
              have hnext := Lib.hid (val_take t k hlt)
              clear hW hAll
              generalize t[k].toNat = d at hcell hd1 hd2 hnext
              generalize P01.val (t.take k) = x at hv hnext
              have hltz : (k : Int) < (t.length : Int) := by omega
              go_wp2
              go_roundg (t.length - (k + 1))
              case measure => omega
              case rel => exact ⟨k + 1, by omega, by omega, by go_num, by rw [hnext.out]; go_num, HA⟩
            · obtain rfl : k = t.length := by omega
              rw [List.take_length] at hv ⊢
              clear hW hAll
              generalize P01.val t = x at hv HR ⊢
              have hltz : ¬ (t.length : Int) < (t.length : Int) := by omega
              by_cases hbig : 1099511627776 < x
              · have hbz : 1099511627776 < (x : Int) := by omega
                go_wp2
                go_ret2
                exact ⟨by rw [← HR.out, if_pos hbig]; rfl, HA.out.2⟩
              · have hbz : ¬ 1099511627776 < (x : Int) := by omega
                go_wp2
                go_ret2
                exact ⟨by rw [← HR.out, if_neg hbig]; rfl, HA.out.2⟩

end Go.Proofs.YtjcaejdokillgaaDoor
