/- Contracts: Reverse at octets that the call owns; unsigned; Print. -/
import Derived.Test.YtjcaejdokillgaaDoorZP2
import Derived.Test.YtjcaejdokillgaaDoorZL1
import Derived.Test.YtjcaejdokillgaaDoorZWalkF
import Derived.RegionTactic
import Derived.BigRegion
import Derived.ChangeAlike
namespace Go.Proofs.YtjcaejdokillgaaDoor
open Go.RowKit

set_option maxHeartbeats 400000 in
theorem form1_any (c : Int) (w : World) :
    Calls Tryd.prog 136 #[.int .u8 c] w fun e w' => e = .returned (.bool (decide (c < 48) || decide (57 < c))) ∧ w = w' := by
  by_cases h1 : c < 48
  · go_enter Tryd.func136, Tryd.ntmps136
    go_wp2
    go_ret
    exact ⟨by simp [h1], rfl⟩
  · by_cases h2 : 57 < c
    · go_enter Tryd.func136, Tryd.ntmps136
      go_wp2
      go_ret
      exact ⟨by simp, rfl⟩
    · go_enter Tryd.func136, Tryd.ntmps136
      go_wp2
      go_ret
      exact ⟨by simp [h1, h2], rfl⟩


end Go.Proofs.YtjcaejdokillgaaDoor

namespace Go.Proofs.YtjcaejdokillgaaDoor
open Go.RowKit Go.Shelf


theorem enters13 : ∀ args w, (callFunc 136 args).run Tryd.prog w = .ok (.enter 136 args) w := enters_of Tryd.func136 (by kernel_rfl) rfl

def notDigit (c : UInt8) : Bool := decide ((c.toNat : Int) < 48) || decide (57 < (c.toNat : Int))

theorem form1_pred (x : UInt8) (w : World) : Calls Tryd.prog 136 (#[.int .u8 (x.toNat : Int)] ++ #[]) w fun e w' => e = .returned (.bool (notDigit x)) ∧ w = w' := by
  rw [Array.append_empty]
  exact form1_any _ w

theorem notDigit_eq (c : UInt8) : notDigit c = !P01.digit c := by
  unfold notDigit P01.digit
  rw [Bool.eq_iff_iff]
  simp [UInt8.le_iff_toNat_le]
  omega

theorem any_notDigit (l : List UInt8) : l.any notDigit = !l.all P01.digit := by
  induction l with
  | nil => rfl
  | cons c r ih => simp only [List.any_cons, List.all_cons, ih, notDigit_eq, Bool.not_and]

attribute [local simp] mk_get

theorem form_cons_eq (c : UInt8) (r : List UInt8) : P01.form (c :: r) = ((!decide ((c.toNat : Int) = 48) || decide (((r.length : Int) + 1) = 1)) && !(c :: r).any notDigit) := by
  rw [any_notDigit, Bool.not_not]
  unfold P01.form
  have e1 : (some c != some 48) = !decide ((c.toNat : Int) = 48) := by
    rw [Bool.eq_iff_iff]
    simp only [bne_iff_ne, ne_eq, Option.some.injEq, Bool.not_eq_true', decide_eq_false_iff_not]
    have : c = 48 ↔ c.toNat = 48 := by rw [← UInt8.toNat_inj]; rfl
    rw [this]; omega
  have e2 : ((r.length + 1 == 1) : Bool) = decide (((r.length : Int) + 1) = 1) := by
    show decide (r.length + 1 = 1) = _
    exact decide_eq_decide.2 (by omega)
  simp only [List.isEmpty_cons, Bool.not_false, Bool.true_and, List.head?_cons, e1, List.length_cons, e2]

set_option maxHeartbeats 1000000 in
theorem form_nil (w : World) : Calls Tryd.prog 121 #[.string ⟨#[]⟩] w fun e w' => e = .returned (.bool false) ∧ w = w' := by
  go_enter Tryd.func121, Tryd.ntmps121
  go_wp2
  go_ret
  exact ⟨rfl, rfl⟩

set_option maxHeartbeats 1000000 in
theorem form_cons (c : UInt8) (r : List UInt8) (w : World) (hl : (c :: r).length ≤ 9223372036854775807) :
    Calls Tryd.prog 121 #[.string ⟨(c :: r).toArray⟩] w fun e w' => e = .returned (.bool (P01.form (c :: r))) ∧ Below w.heap.size w w' := by
  have kb := fun w s => run_bytes_of_string (P := Tryd.prog) w 9 47 5 s Tryd.underlying9 Tryd.underlying47 Tryd.underlying5
  rw [form_cons_eq]
  by_cases h1 : (c.toNat : Int) = 48
  · by_cases h2 : ((r.length : Int) + 1 = 1)
    · go_enter Tryd.func121, Tryd.ntmps121
      go_wp2_with (go_at_call 41; refine (ContainsFuncB_any notDigit 136 #[] enters13 form1_pred (c :: r) _ _ (by exact (Bytes_conv _ _ _ _ _ hl).drew)).mono ?_; rintro e w' ⟨rfl, rfl⟩)
      go_ret
      exact ⟨by simp [h1, h2], (((Below.refl _ _).alloc (Nat.le_refl _) _).drew)⟩
    · go_enter Tryd.func121, Tryd.ntmps121
      go_wp2
      go_ret
      exact ⟨by simp [h1, h2], Below.refl _ _⟩
  · go_enter Tryd.func121, Tryd.ntmps121
    go_wp2_with (go_at_call 41; refine (ContainsFuncB_any notDigit 136 #[] enters13 form1_pred (c :: r) _ _ (by exact (Bytes_conv _ _ _ _ _ hl).drew)).mono ?_; rintro e w' ⟨rfl, rfl⟩)
    go_ret
    exact ⟨by simp [h1], (((Below.refl _ _).alloc (Nat.le_refl _) _).drew)⟩
end Go.Proofs.YtjcaejdokillgaaDoor

namespace Go.Proofs.YtjcaejdokillgaaDoor
open Go.RowKit Go.Shelf
attribute [local simp] mk_get

set_option maxHeartbeats 400000 in
theorem slHasPrefix_minus (l : List UInt8) (w : World) (hl : l.length ≤ 9223372036854775807) :
    Calls Tryd.prog 147 #[.string ⟨l.toArray⟩, .string ⟨#[45]⟩] w fun e w' => e = .returned (.bool (l.head? == some 45)) ∧ w = w' := by
  cases l with
  | nil =>
    go_enter Tryd.func147, Tryd.ntmps147
    go_wp2
    go_ret
    exact ⟨rfl, rfl⟩
  | cons c r =>
    have hr : ¬ ((r.length : Int) + 1 < 1) := by omega
    go_enter Tryd.func147, Tryd.ntmps147
    go_wp2
    go_ret
    refine ⟨?_, rfl⟩
    rw [ByteArray.extract_mk]
    simp

set_option maxHeartbeats 400000 in
theorem slCutPrefix_minus (l : List UInt8) (w : World) (hl : l.length ≤ 9223372036854775807) :
    Calls Tryd.prog 135 #[.string ⟨l.toArray⟩, .string ⟨#[45]⟩] w fun e w' => e = .returned (.tuple #[.string ⟨(P01.unsig l).1.toArray⟩, .bool (P01.unsig l).2]) ∧ w = w' := by
  cases hh : (l.head? == some 45) with
  | false =>
    have hc := slHasPrefix_minus l w hl
    rw [hh] at hc
    have hu : P01.unsig l = (l, false) := by
      cases l with
      | nil => rfl
      | cons c r =>
        have : c ≠ 45 := by simpa using hh
        simp [P01.unsig, this]
    rw [hu]
    clear hu hh
    go_enter Tryd.func135, Tryd.ntmps135
    go_wp2_with (go_at_call 147; refine hc.mono ?_; rintro e w' ⟨rfl, rfl⟩)
    go_ret2
    exact ⟨rfl, rfl⟩
  | true =>
    cases l with
    | nil => cases hh
    | cons c r =>
      obtain rfl : c = 45 := by simpa using hh
      have hc := slHasPrefix_minus (45 :: r) w hl
      rw [hh] at hc
      have hu : P01.unsig (45 :: r) = (r, true) := rfl
      rw [hu]
      clear hu hh
      simp only [List.length_cons] at hl
      go_enter Tryd.func135, Tryd.ntmps135
      go_wp2_with (go_at_call 147; refine hc.mono ?_; rintro e w' ⟨rfl, rfl⟩)
      go_ret2
      refine ⟨?_, rfl⟩
      rw [ByteArray.extract_mk]
      simp

set_option maxHeartbeats 400000 in
theorem CutPrefix_minus (l : List UInt8) (w : World) (hl : l.length ≤ 9223372036854775807) :
    Calls Tryd.prog 120 #[.string ⟨l.toArray⟩, .string ⟨#[45]⟩] w fun e w' => e = .returned (.tuple #[.string ⟨(P01.unsig l).1.toArray⟩, .bool (P01.unsig l).2]) ∧ w = w' := by
  go_enter Tryd.func120, Tryd.ntmps120
  go_wp2_with (go_at_call 135; refine (slCutPrefix_minus l _ hl).mono ?_; rintro e w' ⟨rfl, rfl⟩)
  go_ret2
  exact ⟨rfl, rfl⟩

theorem form_any (l : List UInt8) (w : World) (hl : l.length ≤ 9223372036854775807) :
    Calls Tryd.prog 121 #[.string ⟨l.toArray⟩] w fun e w' => e = .returned (.bool (P01.form l)) ∧ Below w.heap.size w w' := by
  cases l with
  | nil => exact (form_nil w).mono fun e w' ⟨h1, h2⟩ => ⟨h1, h2 ▸ Below.refl _ _⟩
  | cons c r => exact form_cons c r w hl

theorem val_take (l : List UInt8) (k : Nat) (h : k < l.length) : P01.val (l.take (k + 1)) = 10 * P01.val (l.take k) + (l[k].toNat - 48) := by
  rw [List.take_succ_eq_append_getElem h, P01.val_snoc]

theorem val_take_lt (l : List UInt8) (k : Nat) (h : l.all P01.digit = true) (hk : k ≤ 14) : P01.val (l.take k) < 100000000000000 := by
  have h1 : (l.take k).all P01.digit = true := by
    rw [List.all_eq_true] at h ⊢
    exact fun x hx => h x (List.mem_of_mem_take hx)
  have h2 := P01.val_lt _ h1
  have h3 : 10 ^ (l.take k).length ≤ 10 ^ 14 := Nat.pow_le_pow_right (by omega) (by have := List.length_take_le k l; omega)
  have h4 : (10 : Nat) ^ 14 = 100000000000000 := rfl
  omega

set_option maxHeartbeats 1000000 in
theorem Parse_any (l : List UInt8) (w : World) (hl : l.length ≤ 9223372036854775807) :
    Calls Tryd.prog 95 #[.string ⟨l.toArray⟩] w fun e w' => e = .returned (.tuple #[.int .i64 (P01.parse l).1, .int .i64 (P01.parse l).2]) ∧ Below w.heap.size w w' := by
  have kb := fun w s => run_bytes_of_string (P := Tryd.prog) w 9 47 5 s Tryd.underlying9 Tryd.underlying47 Tryd.underlying5
  have hc := CutPrefix_minus l w hl
  have hp : P01.parse l = P01.parse l := rfl
  conv at hp => rhs; unfold P01.parse
  have htl : (P01.unsig l).1.length ≤ 9223372036854775807 := by
    unfold P01.unsig
    split
    · simp
    · split <;> simp_all <;> omega
  rw [hp]
  clear hp hl
  revert hc htl
  generalize P01.unsig l = tb
  obtain ⟨t, b⟩ := tb
  intro hc htl
  have hfa := form_any t w htl
  revert hfa
  by_cases hA : P01.form t = false
  · rw [if_pos (Or.inl hA), hA]
    intro hfa
    clear hA
    go_enter Tryd.func95, Tryd.ntmps95
    go_wp2_with (first | (go_at_call 120; refine hc.mono ?_; rintro e w' ⟨rfl, rfl⟩) | (go_at_call 121; refine hfa.mono ?_; rintro e w1 ⟨rfl, hb1⟩))
    go_ret2
    exact ⟨rfl, hb1⟩
  · simp only [Bool.not_eq_false] at hA
    rw [hA]
    by_cases hB : b = true ∧ t = [48]
    · obtain ⟨rfl, rfl⟩ := hB
      rw [if_pos (Or.inr ⟨rfl, rfl⟩)]
      intro hfa
      clear hA
      go_enter Tryd.func95, Tryd.ntmps95
      go_wp2_with (first | (go_at_call 120; refine hc.mono ?_; rintro e w' ⟨rfl, rfl⟩) | (go_at_call 121; refine hfa.mono ?_; rintro e w1 ⟨rfl, hb1⟩))
      go_ret2
      exact ⟨rfl, hb1⟩
    · rw [if_neg (by rintro (h | h); cases h; exact hB h)]
      intro hfa
      have hB' : b = false ∨ (b = true ∧ (t == [48]) = false) := by
        cases b
        · exact Or.inl rfl
        · exact Or.inr ⟨rfl, by simpa using hB⟩
      clear hB
      by_cases hC : 14 < t.length
      · rw [if_pos hC]
        rcases hB' with rfl | ⟨rfl, hB⟩
        all_goals
          go_enter Tryd.func95, Tryd.ntmps95
          go_wp2_with (first | (go_at_call 120; refine hc.mono ?_; rintro e w' ⟨rfl, rfl⟩) | (go_at_call 121; refine hfa.mono ?_; rintro e w1 ⟨rfl, hb1⟩))
          go_ret2
          exact ⟨rfl, hb1⟩
      · rw [if_neg hC]
        have hD := P01.val_lt
        have hAll : t.all P01.digit = true := by
          simp only [P01.form, Bool.and_eq_true] at hA; exact hA.2
        clear hA hD
        have hW : ∀ (C : Nat) (fr : Nat × Nat) (w1 : World) j (hj : j < t.length), (w1.alloc (.cells (bytesRow ⟨t.toArray⟩ C) 5 fr)).cell? ⟨w1.heap.size, j, none⟩ = some (.int .u8 (t[j].toNat : Int)) := by
          intro C fr w1 j hj
          rw [World.cell?_alloc_mark, bytesRow_at _ _ _ (by simpa using hj)]
          simp
        generalize hR : (if 1099511627776 < P01.val t then ((0 : Int), (4 : Int)) else ((if b = true then -(P01.val t : Int) else (P01.val t : Int)), 0)) = R
        have HR := Lib.hid hR
        clear hR
        rcases hB' with rfl | ⟨rfl, hB⟩
        all_goals
          go_enter Tryd.func95, Tryd.ntmps95
          go_wp2_with (first | (go_at_call 120; refine hc.mono ?_; rintro e w' ⟨rfl, rfl⟩) | (go_at_call 121; refine hfa.mono ?_; rintro e w1 ⟨rfl, hb1⟩))
          go_loopg [6, 32] t.length (fun gg s6 s32 wr => ∃ k : Nat, k ≤ t.length ∧ t.length - k ≤ gg ∧ s32 = .int .i64 k ∧ s6 = .int .i64 (P01.val (t.take k)) ∧
            Aside ((∀ j (hj : j < t.length), wr.cell? ⟨w1.heap.size, j, none⟩ = some (.int .u8 (t[j].toNat : Int))) ∧ Below w.heap.size w wr))
          case atStart => exact ⟨0, Nat.zero_le _, by omega, rfl, rfl, fun j hj => hW _ _ w1 j hj, (hb1.alloc hb1.size _).drew⟩
          case round =>
            obtain ⟨k, hk, hg, rfl, rfl, HA⟩ := hrel
            have hv := val_take_lt t k hAll (by omega)
            by_cases hlt : k < t.length
            · have hcell := HA.out.1 k hlt
              have hd : 48 ≤ t[k].toNat ∧ t[k].toNat ≤ 57 := by
                have := List.all_eq_true.1 hAll _ (List.getElem_mem hlt)
                simpa [P01.digit, UInt8.le_iff_toNat_le] using this
              obtain ⟨hd1, hd2⟩ := hd
              have hnext := Lib.hid (val_take t k hlt)
              clear hW hAll
              generalize t[k].toNat = d at hcell hd1 hd2 hnext
              generalize P01.val (t.take k) = x at hv hnext
              have hltz : (k : Int) < (t.length : Int) := by omega
              go_wp2
              go_roundg (t.length - (k + 1))
              case measure => omega
              case rel => exact ⟨k + 1, by omega, by omega, by go_num, by rw [hnext.out]; go_num, HA⟩
            · obtain rfl : k = t.length := by omega
              rw [List.take_length] at hv ⊢
              clear hW hAll
              generalize P01.val t = x at hv HR ⊢
              have hltz : ¬ (t.length : Int) < (t.length : Int) := by omega
              by_cases hbig : 1099511627776 < x
              · have hbz : 1099511627776 < (x : Int) := by omega
                go_wp2
                go_ret2
                exact ⟨by rw [← HR.out, if_pos hbig]; rfl, HA.out.2⟩
              · have hbz : ¬ 1099511627776 < (x : Int) := by omega
                go_wp2
                go_ret2
                exact ⟨by rw [← HR.out, if_neg hbig]; rfl, HA.out.2⟩

end Go.Proofs.YtjcaejdokillgaaDoor

namespace Go.Proofs.YtjcaejdokillgaaDoor
open Go.RowKit Go.Shelf

abbrev encB (c : UInt8) : Value := .int .u8 (c.toNat : Int)

/-- the first k and the last k have changed places -/
def RevTo (xs ys : List UInt8) (k : Nat) : Prop :=
  ys.length = xs.length ∧ ∀ j, j < xs.length → ys[j]? = if j < k ∨ xs.length < j + 1 + k then xs[xs.length - 1 - j]? else xs[j]?

theorem RevTo.zero (xs : List UInt8) : RevTo xs xs 0 := ⟨rfl, fun j hj => by rw [if_neg (by omega)]⟩

theorem RevTo.done {xs ys : List UInt8} {k : Nat} (h : RevTo xs ys k) (hk : xs.length ≤ 2 * k + 1) : ys = xs.reverse := by
  refine List.ext_getElem? fun j => ?_
  by_cases hj : j < xs.length
  · rw [h.2 j hj, List.getElem?_reverse hj]
    split
    · rfl
    · congr 1; omega
  · rw [List.getElem?_eq_none (by rw [h.1]; omega), List.getElem?_eq_none (by simp; omega)]

theorem RevTo.next {xs ys : List UInt8} {k : Nat} (h : RevTo xs ys k) (hk : 2 * k + 1 < xs.length) (a b : UInt8) (ha : ys[k]? = some a) (hb : ys[xs.length - 1 - k]? = some b) :
    RevTo xs ((ys.set k b).set (xs.length - 1 - k) a) (k + 1) := by
  refine ⟨by simp [h.1], fun j hj => ?_⟩
  have hak := h.2 k (by omega)
  have hbk := h.2 (xs.length - 1 - k) (by omega)
  rw [if_neg (by omega), ha] at hak
  rw [if_neg (by omega), hb] at hbk
  rw [List.getElem?_set]
  by_cases e1 : xs.length - 1 - k = j
  · rw [if_pos e1, if_pos (by simp [h.1]; omega), if_pos (by omega), hak]; congr 1; omega
  · rw [if_neg e1, List.getElem?_set]
    by_cases e2 : k = j
    · subst e2
      rw [if_pos rfl, if_pos (by rw [h.1]; omega), if_pos (by omega), hbk]
    · rw [if_neg e2, h.2 j hj]
      by_cases c : j < k ∨ xs.length < j + 1 + k
      · rw [if_pos c, if_pos (by omega)]
      · rw [if_neg c, if_neg (by omega)]

set_option maxHeartbeats 1000000 in
theorem ReverseB_any (B g cap : Nat) (xs : List UInt8) (w : World) (hs : xs.length ≤ 9223372036854775807) (hown : w.ownsRow B 5 1 (.slice (some ⟨g, 0, none⟩) xs.length cap) xs.length (xs.map encB)) :
    Calls Tryd.prog 104 #[.slice (some ⟨g, 0, none⟩) xs.length cap] w fun e w' => e = .returned (.tuple #[]) ∧
      w'.ownsRow B 5 1 (.slice (some ⟨g, 0, none⟩) xs.length cap) xs.length (xs.reverse.map encB) ∧ w.grownBy w' (some g) := by
  go_enter Tryd.func104, Tryd.ntmps104
  go_wp2
  go_loopg [2, 3] xs.length (fun gk s2 s3 wr => ∃ (i : Nat) (ys : List UInt8), s2 = .int .i64 i ∧ s3 = .int .i64 ((xs.length : Int) - 1 - i) ∧ i ≤ xs.length ∧ xs.length - i ≤ gk ∧
    Aside (RevTo xs ys i ∧ wr.ownsRow B 5 1 (.slice (some ⟨g, 0, none⟩) xs.length cap) xs.length (ys.map encB) ∧ w.grownBy wr (some g)))
  case atStart => exact ⟨0, xs, rfl, by go_num, by omega, by omega, RevTo.zero xs, hown, World.grownBy.refl _ _⟩
  case round =>
    obtain ⟨i, ys, rfl, rfl, hi, hg, HA⟩ := hrel
    by_cases hlt : (i : Int) < (xs.length : Int) - 1 - i
    · obtain ⟨hrev, hown', hgr⟩ := HA.out
      clear HA
      have hyl := hrev.1
      have hci := hown'.cellAt i (by omega)
      have hcj := hown'.cellAt (xs.length - 1 - i) (by omega)
      have hfi := hown'.frozenAt i
      have hfj := hown'.frozenAt (xs.length - 1 - i)
      rw [List.getElem?_map, List.getElem?_eq_getElem (by omega)] at hci hcj
      simp only [Option.map_some] at hci hcj
      have HA : Aside (RevTo xs ys i ∧ wr.ownsRow B 5 1 (.slice (some ⟨g, 0, none⟩) xs.length cap) xs.length (ys.map encB) ∧ w.grownBy wr (some g)) := ⟨hrev, hown', hgr⟩
      have ha := Lib.hid (show ys[i]? = some ys[i] from List.getElem?_eq_getElem (by omega))
      have hb := Lib.hid (show ys[xs.length - 1 - i]? = some ys[xs.length - 1 - i] from List.getElem?_eq_getElem (by omega))
      generalize ys[i] = a at hci ha
      generalize ys[xs.length - 1 - i] = b at hcj hb
      clear hrev hown' hgr hown
      rw [show ((xs.length : Int) - 1 - (i : Int)) = ((xs.length - 1 - i : Nat) : Int) from by omega] at hlt ⊢
      have hjn : xs.length - 1 - i < xs.length := by omega
      have hjj := Lib.hid (show xs.length - 1 - i = xs.length - 1 - i from rfl)
      generalize hj : xs.length - 1 - i = j at hlt hcj hfj hb hjn ⊢
      have hJ := Lib.hid hj
      clear hj hjj
      have hjz : (j : Int) < (xs.length : Int) := by omega
      have hiz : (i : Int) < (xs.length : Int) := by omega
      have hne : ¬ i = j := by omega
      go_wp2_with fail
      go_region
      go_wp2
      go_roundg (xs.length - (i + 1))
      case measure => omega
      case rel =>
        obtain ⟨hrev, hown', hgr⟩ := HA.out
        have hJ' := hJ.out
        refine ⟨i + 1, (ys.set i b).set j a, by go_num, by congr 1; omega, by omega, by omega, ?_, ?_, ?_⟩
        · rw [← hJ']; exact hrev.next (by omega) a b ha.out (by rw [hJ']; exact hb.out)
        · have h1 := (hown'.stored i (encB b)).1
          have h2 := (h1.stored j (encB a)).1
          rw [← List.map_set, ← List.map_set] at h2
          exact h2
        · have h1 := (hown'.stored i (encB b))
          have h2 := (h1.1.stored j (encB a)).2
          exact grownBy_drew ((hgr.trans h1.2).trans h2)
    · have hd : xs.length ≤ 2 * i + 1 := by omega
      go_wp2
      go_end0
      obtain ⟨hrev, hown', hgr⟩ := HA.out
      rw [hrev.done hd] at hown'
      exact ⟨rfl, by rw [← List.map_reverse]; exact hown', hgr⟩

theorem Tryd.info5 : (Tryd.prog.info? 5).map (fun i => (i.zero, i.size, i.bytes)) = some (some (.int .u8 0), 1, 1) := by kernel_rfl

theorem wrap_u8 (d : Nat) (h : d < 10) : (.int .u8 (48 + (d : Int)) : Value) = encB (P01.dg d) := by
  have := P01.toNat_dig d h
  simp only [encB, this]
  congr 1

theorem dec_step (m : Nat) (h : ¬ m < 10) : P01.dec m = P01.dec (m / 10) ++ [P01.dg (m % 10)] := P01.dec_ge m h

set_option maxRecDepth 100000 in
set_option maxHeartbeats 1000000 in
theorem unsigned_any (n : Nat) (w : World) (hn : n ≤ 9223372036854775808) :
    Calls Tryd.prog 70 #[.int .u64 n] w fun e w' => e = .returned (.string ⟨(P01.dec n).toArray⟩) ∧ Below w.heap.size w w' := by
  go_enter Tryd.func70, Tryd.ntmps70
  go_wp2
  go_loopg [0, 3] n (fun gk s0 s3 wr => ∃ (m : Nat) (acc : List UInt8), s0 = .int .u64 m ∧ m ≤ 9223372036854775808 ∧ m ≤ gk ∧
    Aside (wr.ownsRow w.heap.size 5 1 s3 acc.length (acc.map encB)) ∧ acc.length + (P01.dec m).length ≤ 100 ∧ Below w.heap.size w wr ∧
    Aside (P01.dec n = P01.dec m ++ acc.reverse))
  case atStart => exact ⟨n, [], rfl, hn, Nat.le_refl _, World.ownsRow_nil _ _ _ _, by have := P01.dec_len n 20 (by omega) (by omega); simp; omega, Below.refl _ _, by simp [Aside]⟩
  case round =>
    obtain ⟨m, acc, rfl, hm, hg, hown, hal, hbel, HA⟩ := hrel
    have hbs := hbel.size
    by_cases h10 : m < 10
    · have hw := Lib.hid (wrap_u8 m h10)
      go_wp2_with (at_builtin; refine app_new rfl _ _ 47 rfl 5 1 1 _ Tryd.underlying47 Tryd.info5 rfl (by decide) rfl hown.out hbel (Nat.le_refl _) hbs _ 1 1 rfl (by intro u hu; simp at hu; subst hu; rfl) rfl (by omega) (by omega) ?_; intro v' w1 hown1 hbel1 hbs1 _)
      obtain ⟨g, cap, rfl, hBg, hgs, hnc⟩ := owns_some hown1 (by omega)
      have hown2 : w1.ownsRow w.heap.size 5 1 (.slice (some ⟨g, 0, none⟩) (acc.length + 1) cap) (acc ++ [P01.dg m]).length ((acc ++ [P01.dg m]).map encB) := by
        rw [List.map_append, List.length_append]
        have e : (#[Value.int IntKind.u8 (48 + (m : Int))].toList) = [P01.dg m].map encB := by rw [hw.out]; rfl
        rw [← e]
        exact hown1
      have hlen : (acc ++ [P01.dg m]).length = acc.length + 1 := by simp
      have HL := Lib.hid hlen
      clear hlen
      have hfin : (acc ++ [P01.dg m]).reverse = P01.dec n := by rw [HA.out, P01.dec_lt m h10]; simp
      have HF := Lib.hid hfin
      clear hfin hown1
      generalize acc ++ [P01.dg m] = l at hown2 HL HF
      have hll : l.length ≤ 9223372036854775807 := by rw [HL.out]; omega
      have hrev := ReverseB_any w.heap.size g cap l w1 hll (by rw [HL.out] at hown2 ⊢; exact hown2)
      rw [HL.out] at hrev
      clear hown2
      go_wp2_with (go_at_call 104; refine hrev.mono ?_; rintro e w2 ⟨rfl, hown3, hgr3⟩)
      have hcv := conv_back (P := Tryd.prog) (l := l.reverse) 47 9 Tryd.underlying47 Tryd.underlying5 Tryd.underlying9 (acc.length + 1) (by simp [HL.out]) hown3
      rw [hcv]
      go_wp2
      go_ret
      exact ⟨by rw [← HF.out]; rfl, hbel1.grown hgr3 hbs1 (fun k hk => by cases hk; exact hBg)⟩
    · go_wp2_with (at_builtin; refine app_new rfl _ _ 47 rfl 5 1 1 _ Tryd.underlying47 Tryd.info5 rfl (by decide) rfl hown.out hbel (Nat.le_refl _) hbs _ 1 1 rfl (by intro u hu; simp at hu; subst hu; rfl) rfl (by omega) (by omega) ?_; intro v' w1 hown1 hbel1 hbs1 _)
      have hstep := dec_step m h10
      have hdl : (P01.dec m).length = (P01.dec (m / 10)).length + 1 := by rw [hstep]; simp
      go_roundg (m / 10)
      case measure => omega
      case rel =>
        refine ⟨m / 10, acc ++ [P01.dg (m % 10)], by go_num, by omega, Nat.le_refl _, ?_, by simp; omega, hbel1, ?_⟩
        · have e : [Value.int IntKind.u8 (48 + (m : Int) % 10)] = [P01.dg (m % 10)].map encB := by
            have := wrap_u8 (m % 10) (Nat.mod_lt _ (by omega))
            simp only [List.map_cons, List.map_nil, ← this]
            rfl
          rw [e] at hown1
          rw [List.map_append, List.length_append]
          exact hown1
        · show P01.dec n = _
          rw [HA.out, hstep]; simp

theorem wrap_neg (n : Int) (h : n < 0) (h1 : -9223372036854775808 ≤ n) : IntKind.u64.wrap (-IntKind.u64.wrap n) = -n := by
  have e : ∀ z, IntKind.u64.wrap z = z % 18446744073709551616 := fun z => by simp [IntKind.wrap, IntKind.bits, IntKind.signed]
  rw [e, e]
  omega

set_option maxHeartbeats 400000 in
theorem Print_any (n : Int) (w : World) (h1 : -9223372036854775808 ≤ n) (h2 : n ≤ 9223372036854775807) :
    Calls Tryd.prog 28 #[.int .i64 n] w fun e w' => e = .returned (.string ⟨(P01.decI n).toArray⟩) ∧ Below w.heap.size w w' := by
  have hu := unsigned_any n.natAbs w (by omega)
  unfold P01.decI
  by_cases h : n < 0
  · rw [if_pos h]
    have e : (n.natAbs : Int) = -n := by omega
    rw [e] at hu
    have hlen := P01.dec_len n.natAbs 20 (by omega) (by omega)
    generalize P01.dec n.natAbs = d at hu hlen
    clear e
    have hwr := Lib.hid (wrap_neg n h h1)
    go_enter Tryd.func28, Tryd.ntmps28
    go_wp2_with (go_at_call 70; rw [hwr.out]; refine hu.mono ?_; rintro e w2 ⟨rfl, hb⟩)
    go_ret
    refine ⟨?_, hb⟩
    simp only [Array.getD_eq_getD_getElem?, List.getElem?_toArray, List.getElem?_cons_succ, List.getElem?_cons_zero, Option.getD_some]
    exact congrArg (fun s => Ending.returned (Value.string s)) (ByteArray.mk_append_mk [45] d)
  · rw [if_neg h]
    have e : (n.natAbs : Int) = n := by omega
    rw [e] at hu
    clear e
    generalize P01.dec n.natAbs = d at hu
    go_enter Tryd.func28, Tryd.ntmps28
    go_wp2_with (go_at_call 70; refine hu.mono ?_; rintro e w2 ⟨rfl, hb⟩)
    go_ret
    exact ⟨rfl, hb⟩

end Go.Proofs.YtjcaejdokillgaaDoor
