/- Plain: witnesses come back from their texts, and texts from their witnesses. -/
import Derived.Test.YtfjejjdkogfelaaDoorPlainX
namespace Go.Proofs.YtfjejjdkogfelaaDoor
open Go
namespace P01

/-- digits that have the form of a number are its decimals -/
theorem dec_val (l : List UInt8) : ∀ n, l.length = n → l ≠ [] → (l.head? ≠ some 48 ∨ l.length = 1) → l.all digit = true → dec (val l) = l ∧ (l.head? ≠ some 48 → 0 < val l) := by
  intro n
  induction n generalizing l with
  | zero => intro h h0; exact absurd (List.eq_nil_of_length_eq_zero h) h0
  | succ n ih =>
    intro hn h0 hf hd
    have hsplit := List.dropLast_concat_getLast h0
    obtain ⟨r, hr⟩ : ∃ r, r = l.dropLast := ⟨_, rfl⟩
    obtain ⟨c, hc⟩ : ∃ c, c = l.getLast h0 := ⟨_, rfl⟩
    rw [← hr, ← hc] at hsplit
    clear hr hc
    subst hsplit
    rw [List.all_append, Bool.and_eq_true] at hd
    have hcd : digit c = true := by simpa using hd.2
    simp only [digit, Bool.and_eq_true, decide_eq_true_eq] at hcd
    have hc1 : 48 ≤ c.toNat := UInt8.le_iff_toNat_le.1 hcd.1
    have hc2 : c.toNat ≤ 57 := UInt8.le_iff_toNat_le.1 hcd.2
    have hdg : dg (c.toNat - 48) = c := by
      unfold dg
      rw [show 48 + (c.toNat - 48) = c.toNat by omega]
      simp
    rw [val_snoc]
    by_cases hr : r = []
    · subst hr
      have hv : val [] = 0 := rfl
      rw [hv, Nat.mul_zero, Nat.zero_add, dec_lt _ (by omega), hdg]
      refine ⟨rfl, fun h => ?_⟩
      by_cases e : c.toNat = 48
      · exfalso
        apply h
        have : c = 48 := UInt8.toNat_inj.1 e
        rw [this]; rfl
      · omega
    · have hrl : r.length = n := by simpa using hn
      have hh : (r ++ [c]).head? = r.head? := by cases r with | nil => exact absurd rfl hr | cons x t => rfl
      have h48 : r.head? ≠ some 48 := by
        rcases hf with h | h
        · rwa [hh] at h
        · have : r.length = 0 := by simpa using h
          exact absurd (List.eq_nil_of_length_eq_zero this) hr
      obtain ⟨i1, i2⟩ := ih r hrl hr (Or.inl h48) hd.1
      have hpos := i2 h48
      rw [dec_ge _ (by omega), show (10 * val r + (c.toNat - 48)) / 10 = val r by omega, show (10 * val r + (c.toNat - 48)) % 10 = c.toNat - 48 by omega, i1, hdg]
      exact ⟨rfl, fun _ => by omega⟩

/-- a number that is read, and is not below nought, is its text -/
theorem parse_back {t : List UInt8} {n : Int} (h : parse t = (n, 0)) (h0 : 0 ≤ n) : decI n = t := by
  unfold parse at h
  split at h
  · have h2 := congrArg Prod.snd h
    simp at h2
  rename_i hf
  split at h
  · have h2 := congrArg Prod.snd h
    simp at h2
  split at h
  · have h2 := congrArg Prod.snd h
    simp at h2
  have hn : (if (unsig t).2 = true then -(val (unsig t).1 : Int) else val (unsig t).1) = n := congrArg Prod.fst h
  have hform : form (unsig t).1 = true := by
    cases e : form (unsig t).1 with
    | true => rfl
    | false => exact absurd (Or.inl e) hf
  have hf2 : ¬ ((unsig t).2 = true ∧ (unsig t).1 = [48]) := fun e => hf (Or.inr e)
  unfold form at hform
  simp only [Bool.and_eq_true, Bool.or_eq_true, Bool.not_eq_true', List.isEmpty_eq_false_iff, bne_iff_ne, beq_iff_eq] at hform
  obtain ⟨⟨f1, f2⟩, f3⟩ := hform
  obtain ⟨d1, d2⟩ := dec_val _ _ rfl f1 f2 f3
  cases hs : (unsig t).2 with
  | true =>
    rw [hs, if_pos rfl] at hn
    have hv : val (unsig t).1 = 0 := by omega
    exfalso
    apply hf2
    refine ⟨hs, ?_⟩
    rw [hv, dec_zero] at d1
    exact d1.symm
  | false =>
    rw [hs, if_neg (by decide)] at hn
    have hu : (unsig t).1 = t := by
      cases t with
      | nil => rfl
      | cons c r =>
        unfold unsig at hs ⊢
        by_cases e : c = 45
        · simp [e] at hs
        · simp [e]
    rw [hu] at d1 hn
    unfold decI
    rw [if_neg (by omega), ← hn, Int.natAbs_natCast]
    exact d1

theorem dec_digits (n : Nat) : ∀ b ∈ dec n, digit b = true := List.all_eq_true.1 (all_dec n)
theorem decI_no10 (n : Int) : (10 : UInt8) ∉ decI n := by
  intro h
  unfold decI at h
  split at h
  · rcases List.mem_cons.1 h with e | e
    · cases e
    · have := dec_digits _ _ e
      simp [digit] at this
  · have := dec_digits _ _ h
    simp [digit] at this
end P01

namespace PS
theorem cut_len (c : UInt8) (s : List UInt8) : (cut c s).length ≤ s.length + 1 := by
  induction s with
  | nil => simp [cut]
  | cons b r ih =>
    by_cases h : b = c
    · rw [h, cut, if_pos rfl, List.length_cons, List.length_cons]; omega
    · obtain ⟨p, q, h1, h2⟩ := cut_cons_ne h r
      rw [h2]
      rw [h1] at ih
      simp only [List.length_cons] at *
      omega
theorem flat_mem {c : UInt8} {p : List UInt8} : ∀ {l : List (List UInt8)}, p ∈ l → p.length + 1 ≤ (flat c l).length
  | [], h => by cases h
  | q :: r, h => by
    have e : (flat c (q :: r)).length = q.length + 1 + (flat c r).length := by
      rw [show flat c (q :: r) = q ++ [c] ++ flat c r from by simp [flat], List.length_append, List.length_append]; rfl
    rcases List.mem_cons.1 h with rfl | h
    · omega
    · have := flat_mem (c := c) h
      omega
theorem cut_piece (c : UInt8) (s : List UInt8) : ∀ p ∈ cut c s, p.length ≤ s.length := fun p hp => by
  have h1 := flat_mem (c := c) hp
  rw [flat_cut, List.length_append] at h1
  simp at h1
  omega
end PS

namespace PW
/-- the pieces of a text -/
abbrev L (s : Bs) : List Bs := PS.cut 10 s
def lead (s : Bs) : Bool := decide (6 ≤ (L s).length) && ((L s)[0]?.getD [] == [49]) && ((L s)[(L s).length - 1]?.getD [] == []) && ((L s)[(L s).length - 2]?.getD [] == [46]) && (((L s)[1]?.getD []).head? == some 98)
def pBad (s : Bs) : Int × Int := P01.parse (((L s)[1]?.getD []).drop 1)
def pSt (s : Bs) : Bs := (L s)[2]?.getD []
def pIns (s : Bs) : List Bs := ((L s).drop 3).take ((L s).length - 5)
def pOk (s : Bs) : Bool := lead s && ((pBad s).2 == 0) && fits (pBad s).1 (pSt s) (pIns s)
def parseE (s : Bs) : Int := if pOk s = true then 0 else 33

theorem bits_no10 {x : Bs} {n : Nat} (h : PC.bitsOk x n = true) : (10 : UInt8) ∉ x := fun hm => by
  unfold PC.bitsOk at h
  rw [Bool.and_eq_true, List.all_eq_true] at h
  have := h.1 _ hm
  revert this; decide

theorem lines_clean {bad : Int} {st : Bs} {ins : List Bs} (h : fits bad st ins = true) : ∀ p ∈ lines bad st ins, (10 : UInt8) ∉ p := by
  obtain ⟨⟨h1, h2, h3, h4, h5, h6⟩, h7⟩ := (fits_iff bad st ins).1 h
  intro p hp
  simp only [lines, List.mem_cons, List.mem_append] at hp
  rcases hp with rfl | rfl | rfl | hp | rfl | hp
  · decide
  · intro hm
    rcases List.mem_cons.1 hm with e | e
    · cases e
    · exact P01.decI_no10 _ e
  · exact bits_no10 h6
  · exact bits_no10 (h7 p hp).1
  · decide
  · cases hp

theorem cut_flat : ∀ (l : List Bs), (∀ p ∈ l, (10 : UInt8) ∉ p) → PS.cut 10 (PS.flat 10 l) = l ++ [[]]
  | [], _ => rfl
  | p :: r, h => by
    have e : PS.flat 10 (p :: r) = p ++ 10 :: PS.flat 10 r := by simp [PS.flat]
    rw [e, PS.cut_append _ (h p (by simp)), cut_flat r fun q hq => h q (by simp [hq])]
    rfl

/-- a witness comes back from its text -/
theorem text_back {bad : Int} {st : Bs} {ins : List Bs} (h : fits bad st ins = true) : pOk (text bad st ins) = true ∧ (pBad (text bad st ins)).1 = bad ∧ pSt (text bad st ins) = st ∧ pIns (text bad st ins) = ins := by
  have hL : L (text bad st ins) = lines bad st ins ++ [[]] := cut_flat _ (lines_clean h)
  obtain ⟨⟨h1, h2, h3, h4, h5, h6⟩, h7⟩ := (fits_iff bad st ins).1 h
  have hlen : (lines bad st ins ++ [[]]).length = ins.length + 5 := by rw [List.length_append, lines_len]; rfl
  have hb : pBad (text bad st ins) = (bad, 0) := by
    unfold pBad
    rw [hL]
    have := P01.parse_decI bad
    rw [if_neg (by omega)] at this
    simpa [lines] using this
  have hs : pSt (text bad st ins) = st := by unfold pSt; rw [hL]; simp [lines]
  have hi : pIns (text bad st ins) = ins := by
    unfold pIns
    rw [hL, hlen, show ins.length + 5 - 5 = ins.length by omega]
    have : (lines bad st ins ++ [[]]).drop 3 = ins ++ ([[46]] ++ [[]]) := by simp [lines]
    rw [this, List.take_left]
  refine ⟨?_, by rw [hb], hs, hi⟩
  unfold pOk
  rw [hb, hs, hi, h]
  have e1 : (lines bad st ins ++ [[]])[ins.length + 4]? = some [] := by
    rw [List.getElem?_append_right (by rw [lines_len]; omega), lines_len]; simp
  have e2 : (lines bad st ins ++ [[]])[ins.length + 3]? = some [46] := by
    rw [List.getElem?_append_left (by rw [lines_len]; omega)]
    simp [lines]
  have hl : lead (text bad st ins) = true := by
    unfold lead
    rw [hL, hlen, show ins.length + 5 - 1 = ins.length + 4 by omega, show ins.length + 5 - 2 = ins.length + 3 by omega, e1, e2, decide_eq_true (by omega)]
    simp [lines]
  rw [hl]; rfl

/-- a text comes back from its witness -/
theorem back_text {s : Bs} (h : pOk s = true) : fits (pBad s).1 (pSt s) (pIns s) = true ∧ text (pBad s).1 (pSt s) (pIns s) = s := by
  unfold pOk at h
  simp only [Bool.and_eq_true, beq_iff_eq] at h
  obtain ⟨⟨hl, he⟩, hf⟩ := h
  refine ⟨hf, ?_⟩
  unfold lead at hl
  simp only [Bool.and_eq_true, decide_eq_true_eq, beq_iff_eq] at hl
  obtain ⟨⟨⟨⟨hn, l0⟩, l1⟩, l2⟩, l3⟩ := hl
  have hbad := ((fits_iff _ _ _).1 hf).1.1
  have hd : P01.decI (pBad s).1 = ((L s)[1]?.getD []).drop 1 := P01.parse_back (by show pBad s = _; rw [← he]) hbad
  have hb1 : 98 :: P01.decI (pBad s).1 = (L s)[1]?.getD [] := by
    rw [hd]
    cases hx : (L s)[1]?.getD [] with
    | nil => rw [hx] at l3; cases l3
    | cons c r => rw [hx] at l3; simp at l3; rw [l3]; rfl
  have hlines : lines (pBad s).1 (pSt s) (pIns s) ++ [[]] = L s := by
    unfold lines
    rw [hb1]
    apply List.ext_getElem?
    intro j
    have hil : (pIns s).length = (L s).length - 5 := by unfold pIns; rw [List.length_take, List.length_drop]; omega
    have gi : ∀ j, (h : j < (L s).length) → (L s)[j]? = some ((L s)[j]?.getD []) := fun j h => by rw [List.getElem?_eq_getElem h]; rfl
    rcases j with _ | _ | _ | j
    · rw [gi 0 (by omega), l0]; rfl
    · rw [gi 1 (by omega)]; rfl
    · rw [gi 2 (by omega)]; rfl
    · show ((pIns s ++ [[46]]) ++ [[]])[j]? = _
      by_cases hj : j < (pIns s).length
      · rw [List.append_assoc, List.getElem?_append_left hj]
        unfold pIns
        rw [List.getElem?_take, if_pos (by omega), List.getElem?_drop]
        congr 1; omega
      · rw [List.append_assoc, List.getElem?_append_right (by omega)]
        by_cases e : j = (pIns s).length
        · rw [e, Nat.sub_self, gi ((pIns s).length + 1 + 1 + 1) (by omega), show (pIns s).length + 1 + 1 + 1 = (L s).length - 2 by omega, l2]; rfl
        · by_cases e2 : j = (pIns s).length + 1
          · rw [e2, show (pIns s).length + 1 - (pIns s).length = 1 by omega, gi ((pIns s).length + 1 + 1 + 1 + 1) (by omega), show (pIns s).length + 1 + 1 + 1 + 1 = (L s).length - 1 by omega, l1]; rfl
          · rw [List.getElem?_eq_none (by simp; omega), List.getElem?_eq_none (by omega)]
  have hfl := PS.flat_cut 10 s
  rw [show PS.cut 10 s = L s from rfl, ← hlines, PS.flat_append] at hfl
  have e : PS.flat 10 [[]] = [10] := rfl
  rw [e] at hfl
  exact List.append_cancel_right hfl

theorem parseE_ok {s : Bs} (h : pOk s = true) : parseE s = 0 := by unfold parseE; rw [if_pos h]
theorem parseE_no {s : Bs} (h : pOk s = false) : parseE s = 33 := by unfold parseE; rw [if_neg (by rw [h]; decide)]
end PW
end Go.Proofs.YtfjejjdkogfelaaDoor
