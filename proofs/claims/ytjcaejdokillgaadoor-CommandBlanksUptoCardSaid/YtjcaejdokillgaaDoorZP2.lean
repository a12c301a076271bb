/- Plain: witnesses come back from their texts, and texts from their witnesses. -/
import Derived.Lib.Split
import Derived.Lib.SplitLaws
import Derived.Test.YtjcaejdokillgaaDoorZP1
import Derived.Lib.Join
namespace Go.Proofs.YtjcaejdokillgaaDoor
open Go

namespace PS
/-- what stands between the octet c -/
def cut (c : UInt8) : List UInt8 → List (List UInt8)
  | [] => [[]]
  | b :: l => if b = c then [] :: cut c l else match cut c l with
    | [] => [[b]]
    | p :: r => (b :: p) :: r

theorem cut_ne (c : UInt8) (s : List UInt8) : cut c s ≠ [] := by
  cases s with
  | nil => simp [cut]
  | cons b l =>
    unfold cut
    split
    · simp
    · split <;> simp

theorem cut_cons_ne {c b : UInt8} (h : b ≠ c) (l : List UInt8) : ∃ p r, cut c l = p :: r ∧ cut c (b :: l) = (b :: p) :: r := by
  cases e : cut c l with
  | nil => exact absurd e (cut_ne c l)
  | cons p r => exact ⟨p, r, rfl, by rw [cut, if_neg h, e]⟩

theorem splitK_cut (c : UInt8) : ∀ s : List UInt8, Lib.splitK [c] 0 (Lib.count s [c]) s = cut c s
  | [] => by rw [show Lib.count [] [c] = 0 by rw [Lib.count_one]; rfl]; rfl
  | b :: l => by
    have ih := splitK_cut c l
    by_cases h : b = c
    · subst h
      rw [Lib.count_cons_eq, Nat.add_comm, cut, if_pos rfl, ← ih]
      have hi : Lib.index (b :: l) [b] = 0 := by simp [Lib.index, List.isPrefixOf]
      rw [Lib.splitK, hi]
      simp
    · obtain ⟨p, r, e1, e2⟩ := cut_cons_ne h l
      rw [Lib.count_cons_ne b c l h, e2]
      rw [e1] at ih
      cases hk : Lib.count l [c] with
      | zero =>
        rw [hk] at ih
        have e : [l] = p :: r := ih
        injection e with e3 e4
        rw [← e3, ← e4]; rfl
      | succ k =>
        rw [hk] at ih
        have hge := Lib.index_ge l [c]
        have hi : Lib.index (b :: l) [c] = if Lib.index l [c] == -1 then -1 else Lib.index l [c] + 1 := by
          have : ([c] : List UInt8).isPrefixOf (b :: l) = false := by simp [List.isPrefixOf]; exact fun e => h e.symm
          rw [Lib.index, this]; rfl
        unfold Lib.splitK at ih ⊢
        rw [hi]
        by_cases hm : (Lib.index l [c] == -1) = true
        · rw [if_pos hm] at ih
          rw [if_pos (by rw [if_pos hm]; rfl)]
          injection ih with e3 e4
          rw [← e3, ← e4]
        · rw [if_neg hm] at ih
          have hm2 : Lib.index l [c] ≠ -1 := by simpa using hm
          rw [if_neg hm, if_neg (by simp; omega)]
          injection ih with e3 e4
          have en : (Lib.index l [c] + 1).toNat = (Lib.index l [c]).toNat + 1 := by omega
          rw [en]
          simp only [Nat.add_zero] at *
          rw [List.take_succ_cons, e3]
          congr 1

/-- the pieces, the octet behind each -/
def flat (c : UInt8) (l : List (List UInt8)) : List UInt8 := (l.map fun p => p ++ [c]).flatten

theorem flat_append (c : UInt8) (a b : List (List UInt8)) : flat c (a ++ b) = flat c a ++ flat c b := by simp [flat]
theorem flat_one (c : UInt8) (p : List UInt8) : flat c [p] = p ++ [c] := by simp [flat]
theorem flat_nil (c : UInt8) : flat c [] = [] := rfl

theorem flat_cut (c : UInt8) : ∀ s : List UInt8, flat c (cut c s) = s ++ [c]
  | [] => by simp [cut, flat]
  | b :: l => by
    have ih := flat_cut c l
    by_cases h : b = c
    · rw [cut, if_pos h, show ([] :: cut c l) = [[]] ++ cut c l from rfl, flat_append, ih, h]; simp [flat]
    · obtain ⟨p, r, e1, e2⟩ := cut_cons_ne h l
      rw [e1, show p :: r = [p] ++ r from rfl, flat_append, flat_one] at ih
      rw [e2, show (b :: p) :: r = [b :: p] ++ r from rfl, flat_append, flat_one]
      simp only [List.cons_append]
      rw [ih]

theorem cut_clean (c : UInt8) : ∀ (s : List UInt8), ∀ p ∈ cut c s, c ∉ p
  | [] => by simp [cut]
  | b :: l => by
    have ih := cut_clean c l
    intro p hp
    by_cases h : b = c
    · rw [cut, if_pos h] at hp
      rcases List.mem_cons.1 hp with e | e
      · subst e; simp
      · exact ih p e
    · obtain ⟨q, r, e1, e2⟩ := cut_cons_ne h l
      rw [e1] at ih
      rw [e2] at hp
      rcases List.mem_cons.1 hp with e | e
      · subst e
        intro hm
        rcases List.mem_cons.1 hm with e3 | e3
        · exact h e3.symm
        · exact ih q (by simp) e3
      · exact ih p (by simp [e])

/-- lines: the last piece is left out, if it is empty -/
def lines (s : List UInt8) : List (List UInt8) := if (cut 10 s).getLast (cut_ne 10 s) = [] then (cut 10 s).dropLast else cut 10 s

theorem lines_law (s : List UInt8) : flat 10 (lines s) = s ∨ flat 10 (lines s) = s ++ [10] := by
  unfold lines
  split
  · rename_i h
    left
    have h1 := flat_cut 10 s
    rw [← List.dropLast_concat_getLast (cut_ne 10 s), flat_append, flat_one, h, List.nil_append] at h1
    exact (List.append_inj' h1 rfl).1
  · right
    exact flat_cut 10 s

/-- a piece without the octet -/
theorem cut_one {c : UInt8} : ∀ {p : List UInt8}, c ∉ p → cut c p = [p]
  | [], _ => rfl
  | b :: l, h => by
    have h1 : b ≠ c := fun e => h (by simp [e])
    have ih := cut_one (c := c) (p := l) (fun e => h (by simp [e]))
    rw [cut, if_neg h1, ih]

theorem cut_append {c : UInt8} : ∀ {p : List UInt8} (s : List UInt8), c ∉ p → cut c (p ++ c :: s) = p :: cut c s
  | [], s, _ => by rw [List.nil_append, cut, if_pos rfl]
  | b :: l, s, h => by
    have h1 : b ≠ c := fun e => h (by simp [e])
    have ih := cut_append (p := l) s (fun e => h (List.mem_cons_of_mem _ e))
    rw [List.cons_append, cut, if_neg h1, ih]

/-- words: the pieces that are not empty -/
def words (s : List UInt8) : List (List UInt8) := (cut 32 s).filter fun p => !p.isEmpty

/-- words with one blank between -/
def join : List (List UInt8) → List UInt8
  | [] => []
  | [p] => p
  | p :: q :: r => p ++ 32 :: join (q :: r)

theorem cut_join : ∀ (l : List (List UInt8)), l ≠ [] → (∀ p ∈ l, (32 : UInt8) ∉ p) → cut 32 (join l) = l
  | [], h, _ => absurd rfl h
  | [p], _, h => by rw [join, cut_one (h p (by simp))]
  | p :: q :: r, _, h => by
    rw [join, cut_append _ (h p (by simp)), cut_join (q :: r) (by simp) (fun x hx => h x (by simp [hx]))]

theorem words_mem (s : List UInt8) : ∀ p ∈ words s, p ≠ [] ∧ (32 : UInt8) ∉ p := by
  intro p hp
  obtain ⟨h1, h2⟩ := List.mem_filter.1 hp
  exact ⟨by intro e; subst e; simp at h2, cut_clean 32 s p h1⟩

theorem words_join (s : List UInt8) : words (join (words s)) = words s := by
  have hm := words_mem s
  generalize words s = l at hm
  cases l with
  | nil => rfl
  | cons p r =>
    unfold words
    rw [cut_join _ (by simp) fun x hx => (hm x hx).2]
    rw [List.filter_eq_self]
    intro x hx
    have := (hm x hx).1
    cases x with
    | nil => exact absurd rfl this
    | cons y t => rfl
end PS
end Go.Proofs.YtjcaejdokillgaaDoor

namespace Go.Proofs.YtjcaejdokillgaaDoor.P01

/-- a digit's octet -/
def dg (d : Nat) : UInt8 := UInt8.ofNat (48 + d)

/-- decimals of a number -/
def dec (n : Nat) : List UInt8 := if n < 10 then [dg n] else dec (n / 10) ++ [dg (n % 10)]
  termination_by n
  decreasing_by omega

theorem dec_lt (n : Nat) (h : n < 10) : dec n = [dg n] := by rw [dec, if_pos h]
theorem dec_ge (n : Nat) (h : ¬ n < 10) : dec n = dec (n / 10) ++ [dg (n % 10)] := by rw [dec, if_neg h]

/-- decimals of an integer -/
def decI (n : Int) : List UInt8 := if n < 0 then 45 :: dec n.natAbs else dec n.natAbs

def digit (c : UInt8) : Bool := 48 ≤ c && c ≤ 57

def val (l : List UInt8) : Nat := l.foldl (fun n c => 10 * n + (c.toNat - 48)) 0

theorem val_snoc (l : List UInt8) (c : UInt8) : val (l ++ [c]) = 10 * val l + (c.toNat - 48) := by simp [val, List.foldl_append]

theorem toNat_dig (d : Nat) (h : d < 10) : (dg d).toNat = 48 + d := by
  unfold dg; simp; omega

theorem digit_dig (d : Nat) (h : d < 10) : digit (dg d) = true := by
  have := toNat_dig d h
  simp [digit, UInt8.le_iff_toNat_le, this]; omega

theorem val_dec (n : Nat) : val (dec n) = n := by
  induction n using Nat.strongRecOn with
  | _ n ih =>
    by_cases h : n < 10
    · rw [dec_lt n h]; have := toNat_dig n h; simp [val, this]
    · rw [dec_ge n h, val_snoc, ih (n / 10) (by omega), toNat_dig _ (Nat.mod_lt _ (by omega))]; omega

theorem all_dec (n : Nat) : (dec n).all digit = true := by
  induction n using Nat.strongRecOn with
  | _ n ih =>
    by_cases h : n < 10
    · rw [dec_lt n h]; simp [digit_dig n h]
    · rw [dec_ge n h, List.all_append, ih (n / 10) (by omega)]; simp [digit_dig _ (Nat.mod_lt n (by omega : 0 < 10))]

theorem dec_ne (n : Nat) : dec n ≠ [] := by
  by_cases h : n < 10
  · rw [dec_lt n h]; simp
  · rw [dec_ge n h]; simp

theorem head_dec (n : Nat) (h : 0 < n) : (dec n).head? ≠ some 48 := by
  induction n using Nat.strongRecOn with
  | _ n ih =>
    by_cases h' : n < 10
    · rw [dec_lt n h']
      have := toNat_dig n h'
      simp only [List.head?_cons, ne_eq, Option.some.injEq]
      intro e
      rw [e] at this
      have h48 : (48 : UInt8).toNat = 48 := rfl
      omega
    · rw [dec_ge n h']
      have := ih (n / 10) (by omega) (by omega)
      cases hd : dec (n / 10) with
      | nil => exact absurd hd (dec_ne _)
      | cons c r => rw [hd] at this; simpa using this

/-- the form of a number -/
def form (l : List UInt8) : Bool := !l.isEmpty && (l.head? != some 48 || l.length == 1) && l.all digit

theorem dec_len_one (n : Nat) (h : (dec n).head? = some 48) : n = 0 := by
  by_cases h' : 0 < n
  · exact absurd h (head_dec n h')
  · omega

theorem form_dec (n : Nat) : form (dec n) = true := by
  have h1 := dec_ne n
  have h2 := all_dec n
  have h3 : (dec n).head? ≠ some 48 ∨ (dec n).length = 1 := by
    by_cases h : 0 < n
    · exact .inl (head_dec n h)
    · obtain rfl : n = 0 := by omega
      right; rw [dec_lt 0 (by omega)]; rfl
  simp only [form, h2, Bool.and_true, Bool.and_eq_true, Bool.or_eq_true, bne_iff_ne, beq_iff_eq]
  refine ⟨?_, h3⟩
  cases hd : dec n with
  | nil => exact absurd hd h1
  | cons c r => rfl

/-- bounds by length -/
theorem val_lt_aux (l : List UInt8) (h : l.all digit = true) (n k : Nat) (hn : n < 10 ^ k) : l.foldl (fun n c => 10 * n + (c.toNat - 48)) n < 10 ^ (k + l.length) := by
  induction l generalizing n k with
  | nil => simpa using hn
  | cons c l ih =>
    simp only [List.all_cons, Bool.and_eq_true] at h
    have hc : c.toNat ≤ 57 := by
      have := h.1; simp [digit, UInt8.le_iff_toNat_le] at this; omega
    simp only [List.foldl_cons, List.length_cons]
    rw [show k + (l.length + 1) = (k + 1) + l.length from by omega]
    exact ih h.2 _ _ (by rw [Nat.pow_succ]; omega)
theorem val_lt (l : List UInt8) (h : l.all digit = true) : val l < 10 ^ l.length := by
  have := val_lt_aux l h 0 0 (by simp)
  simpa [val] using this

theorem dec_len (n k : Nat) (h : n < 10 ^ k) (hk : 0 < k) : (dec n).length ≤ k := by
  induction k generalizing n with
  | zero => omega
  | succ k ih =>
    by_cases h' : n < 10
    · rw [dec_lt n h']; simp
    · rw [dec_ge n h', List.length_append]
      have hk' : 0 < k := by
        cases k with
        | zero => simp at h; omega
        | succ k => omega
      have := ih (n / 10) (by rw [Nat.pow_succ] at h; omega) hk'
      simp; omega

/-- Parse: what the text stands for, and the error -/
def unsig (l : List UInt8) : List UInt8 × Bool := match l with | [] => ([], false) | c :: r => if c = 45 then (r, true) else (c :: r, false)
def parse (l : List UInt8) : Int × Int :=
  if form (unsig l).1 = false ∨ ((unsig l).2 = true ∧ (unsig l).1 = [48]) then (0, 33)
  else if 14 < (unsig l).1.length then (0, 4)
  else if 1099511627776 < val (unsig l).1 then (0, 4)
  else (if (unsig l).2 then -(val (unsig l).1 : Int) else val (unsig l).1, 0)

theorem digit45 (r : List UInt8) : (45 :: r).all digit = false := by simp [digit]

theorem unsig_dec (n : Nat) : unsig (dec n) = (dec n, false) := by
  cases hd : dec n with
  | nil => rfl
  | cons c r =>
    have h := all_dec n
    rw [hd] at h
    have hc : c ≠ 45 := by
      intro e; subst e; rw [digit45] at h; cases h
    simp [unsig, hc]

theorem dec_zero : dec 0 = [48] := by rw [dec_lt 0 (by omega)]; rfl
theorem dec_inj (m n : Nat) (h : dec m = dec n) : m = n := by rw [← val_dec m, h, val_dec]

theorem parse_decI (n : Int) : parse (decI n) = if n < -1099511627776 ∨ 1099511627776 < n then (0, 4) else (n, 0) := by
  have hu : unsig (decI n) = (dec n.natAbs, decide (n < 0)) := by
    unfold decI
    by_cases h : n < 0
    · rw [if_pos h]; simp [unsig, h]
    · rw [if_neg h, unsig_dec]; simp [h]
  unfold parse
  rw [hu]
  have h0 : ¬ (form (dec n.natAbs) = false ∨ (decide (n < 0) = true ∧ dec n.natAbs = [48])) := by
    rw [form_dec]
    rintro (h | ⟨h1, h2⟩)
    · cases h
    · rw [← dec_zero] at h2
      have := dec_inj _ _ h2
      simp at h1; omega
  rw [if_neg h0]
  simp only [val_dec]
  by_cases hl : 14 < (dec n.natAbs).length
  · rw [if_pos hl]
    have h14 : ¬ n.natAbs < 10 ^ 14 := fun h => by have := dec_len _ 14 h (by omega); omega
    have h14' : ¬ n.natAbs < 100000000000000 := h14
    rw [if_pos (by omega)]
  · rw [if_neg hl]
    by_cases hm : 1099511627776 < n.natAbs
    · rw [if_pos hm, if_pos (by omega)]
    · have hr : ¬ (n < -1099511627776 ∨ 1099511627776 < n) := by omega
      rw [if_neg hm, if_neg hr]
      by_cases h : n < 0
      · simp only [h, decide_true, if_true, Prod.mk.injEq, and_true]; omega
      · simp only [h, decide_false, Bool.false_eq_true, if_false, Prod.mk.injEq, and_true]; omega

end Go.Proofs.YtjcaejdokillgaaDoor.P01

namespace Go.Proofs.YtjcaejdokillgaaDoor
open Go
namespace PW
abbrev Bs := List UInt8

/-- may a witness be printed? -/
def fits (bad : Int) (st : Bs) (ins : List Bs) : Bool :=
  decide (0 ≤ bad) && decide (bad ≤ 63) && decide (st.length ≤ 64) && decide (1 ≤ ins.length) && decide (ins.length ≤ 80) && PC.bitsOk st st.length &&
    ins.all fun x => PC.bitsOk x (ins.headD []).length && decide (x.length ≤ 64)

def lines (bad : Int) (st : Bs) (ins : List Bs) : List Bs := [49] :: (98 :: P01.decI bad) :: st :: (ins ++ [[46]])
def text (bad : Int) (st : Bs) (ins : List Bs) : Bs := PS.flat 10 (lines bad st ins)
def printE (bad : Int) (st : Bs) (ins : List Bs) : Int := if fits bad st ins = true then 0 else 9
def printS (bad : Int) (st : Bs) (ins : List Bs) : Bs := if fits bad st ins = true then text bad st ins else []

theorem fits_iff (bad : Int) (st : Bs) (ins : List Bs) : fits bad st ins = true ↔ (0 ≤ bad ∧ bad ≤ 63 ∧ st.length ≤ 64 ∧ 1 ≤ ins.length ∧ ins.length ≤ 80 ∧ PC.bitsOk st st.length = true) ∧
    ∀ x ∈ ins, PC.bitsOk x (ins.headD []).length = true ∧ x.length ≤ 64 := by
  unfold fits
  simp only [Bool.and_eq_true, decide_eq_true_eq, List.all_eq_true, and_assoc]

/-- the code's form of it: the first input's length alone is held against the bound -/
theorem fits_code (bad : Int) (st : Bs) (ins : List Bs) (h : 1 ≤ ins.length) : fits bad st ins = (decide (0 ≤ bad) && decide (bad ≤ 63) && decide (st.length ≤ 64) && decide (ins.length ≤ 80) && decide ((ins.headD []).length ≤ 64) &&
    PC.bitsOk st st.length && !(ins.any fun x => !PC.bitsOk x (ins.headD []).length)) := by
  rw [Bool.eq_iff_iff, fits_iff]
  simp only [Bool.and_eq_true, decide_eq_true_eq, Bool.not_eq_true', List.any_eq_false, Bool.not_eq_false, and_assoc]
  have hm : ins.headD [] ∈ ins := by
    cases ins with
    | nil => simp at h
    | cons x r => simp
  constructor
  · rintro ⟨h1, h2, h3, _, h5, h6, h7⟩
    exact ⟨h1, h2, h3, h5, (h7 _ hm).2, h6, fun x hx => by simp only [(h7 x hx).1]⟩
  · rintro ⟨h1, h2, h3, h5, h4, h6, h7⟩
    refine ⟨h1, h2, h3, h, h5, h6, fun x hx => ?_⟩
    have hb : PC.bitsOk x (ins.headD []).length = true := by simpa using h7 x hx
    refine ⟨hb, ?_⟩
    have : x.length = (ins.headD []).length := by
      unfold PC.bitsOk at hb
      simp only [Bool.and_eq_true, decide_eq_true_eq] at hb
      exact hb.2
    omega

theorem fits_none (bad : Int) (st : Bs) (ins : List Bs) (h : ins.length = 0) : fits bad st ins = false := by
  rw [Bool.eq_false_iff]
  intro hf
  have := ((fits_iff bad st ins).1 hf).1.2.2.2.1
  omega

/-- with a newline between, and one behind -/
theorem join_flat : ∀ l : List Bs, l ≠ [] → Lib.join l [10] ++ [10] = PS.flat 10 l
  | [], h => absurd rfl h
  | [p], _ => by rw [Lib.join_one, PS.flat_one]
  | p :: q :: r, _ => by
    have ih := join_flat (q :: r) (by simp)
    rw [Lib.join_cons] at ih ⊢
    rw [show PS.flat 10 (p :: q :: r) = p ++ [10] ++ PS.flat 10 (q :: r) from by simp [PS.flat], ← ih]
    simp [Lib.joinTail]

theorem flat_len (l : List Bs) (m : Nat) (h : ∀ p ∈ l, p.length ≤ m) : (PS.flat 10 l).length ≤ l.length * (m + 1) := by
  induction l with
  | nil => simp [PS.flat]
  | cons p r ih =>
    have h1 := h p (by simp)
    have h2 := ih fun q hq => h q (by simp [hq])
    have e : PS.flat 10 (p :: r) = p ++ [10] ++ PS.flat 10 r := by simp [PS.flat]
    have e2 : (p :: r).length * (m + 1) = r.length * (m + 1) + (m + 1) := by rw [List.length_cons, Nat.succ_mul]
    have e3 : (p ++ [10] ++ PS.flat 10 r).length = p.length + 1 + (PS.flat 10 r).length := by rw [List.length_append, List.length_append]; rfl
    rw [e, e2, e3]
    omega

theorem lines_len (bad : Int) (st : Bs) (ins : List Bs) : (lines bad st ins).length = ins.length + 4 := by simp [lines]

theorem lines_short {bad : Int} {st : Bs} {ins : List Bs} (h : fits bad st ins = true) : ∀ p ∈ lines bad st ins, p.length ≤ 64 := by
  obtain ⟨⟨h1, h2, h3, h4, h5, h6⟩, h7⟩ := (fits_iff bad st ins).1 h
  intro p hp
  simp only [lines, List.mem_cons, List.mem_append] at hp
  rcases hp with rfl | rfl | rfl | hp | rfl | hp
  · decide
  · have := P01.dec_len bad.natAbs 2 (by omega) (by omega)
    unfold P01.decI
    rw [if_neg (by omega)]
    simp; omega
  · exact h3
  · exact (h7 p hp).2
  · decide
  · cases hp

theorem text_len {bad : Int} {st : Bs} {ins : List Bs} (h : fits bad st ins = true) : (text bad st ins).length ≤ 5460 := by
  have h1 := flat_len _ 64 (lines_short h)
  rw [lines_len] at h1
  have := ((fits_iff bad st ins).1 h).1.2.2.2.2.1
  unfold text
  omega
end PW
end Go.Proofs.YtjcaejdokillgaaDoor

namespace Go.Proofs.YtjcaejdokillgaaDoor
open Go
namespace P01

/-- digits that have the form of a number are its decimals -/
theorem dec_val (l : List UInt8) : ∀ n, l.length = n → l ≠ [] → (l.head? ≠ some 48 ∨ l.length = 1) → l.all digit = true → dec (val l) = l ∧ (l.head? ≠ some 48 → 0 < val l) := by
  intro n
  induction n generalizing l with
  | zero => intro h h0; exact absurd (List.eq_nil_of_length_eq_zero h) h0
  | succ n ih =>
    intro hn h0 hf hd
    have hsplit := List.dropLast_concat_getLast h0
    obtain ⟨r, hr⟩ : ∃ r, r = l.dropLast := ⟨_, rfl⟩
    obtain ⟨c, hc⟩ : ∃ c, c = l.getLast h0 := ⟨_, rfl⟩
    rw [← hr, ← hc] at hsplit
    clear hr hc
    subst hsplit
    rw [List.all_append, Bool.and_eq_true] at hd
    have hcd : digit c = true := by simpa using hd.2
    simp only [digit, Bool.and_eq_true, decide_eq_true_eq] at hcd
    have hc1 : 48 ≤ c.toNat := UInt8.le_iff_toNat_le.1 hcd.1
    have hc2 : c.toNat ≤ 57 := UInt8.le_iff_toNat_le.1 hcd.2
    have hdg : dg (c.toNat - 48) = c := by
      unfold dg
      rw [show 48 + (c.toNat - 48) = c.toNat by omega]
      simp
    rw [val_snoc]
    by_cases hr : r = []
    · subst hr
      have hv : val [] = 0 := rfl
      rw [hv, Nat.mul_zero, Nat.zero_add, dec_lt _ (by omega), hdg]
      refine ⟨rfl, fun h => ?_⟩
      by_cases e : c.toNat = 48
      · exfalso
        apply h
        have : c = 48 := UInt8.toNat_inj.1 e
        rw [this]; rfl
      · omega
    · have hrl : r.length = n := by simpa using hn
      have hh : (r ++ [c]).head? = r.head? := by cases r with | nil => exact absurd rfl hr | cons x t => rfl
      have h48 : r.head? ≠ some 48 := by
        rcases hf with h | h
        · rwa [hh] at h
        · have : r.length = 0 := by simpa using h
          exact absurd (List.eq_nil_of_length_eq_zero this) hr
      obtain ⟨i1, i2⟩ := ih r hrl hr (Or.inl h48) hd.1
      have hpos := i2 h48
      rw [dec_ge _ (by omega), show (10 * val r + (c.toNat - 48)) / 10 = val r by omega, show (10 * val r + (c.toNat - 48)) % 10 = c.toNat - 48 by omega, i1, hdg]
      exact ⟨rfl, fun _ => by omega⟩

/-- a number that is read, and is not below nought, is its text -/
theorem parse_back {t : List UInt8} {n : Int} (h : parse t = (n, 0)) (h0 : 0 ≤ n) : decI n = t := by
  unfold parse at h
  split at h
  · have h2 := congrArg Prod.snd h
    simp at h2
  rename_i hf
  split at h
  · have h2 := congrArg Prod.snd h
    simp at h2
  split at h
  · have h2 := congrArg Prod.snd h
    simp at h2
  have hn : (if (unsig t).2 = true then -(val (unsig t).1 : Int) else val (unsig t).1) = n := congrArg Prod.fst h
  have hform : form (unsig t).1 = true := by
    cases e : form (unsig t).1 with
    | true => rfl
    | false => exact absurd (Or.inl e) hf
  have hf2 : ¬ ((unsig t).2 = true ∧ (unsig t).1 = [48]) := fun e => hf (Or.inr e)
  unfold form at hform
  simp only [Bool.and_eq_true, Bool.or_eq_true, Bool.not_eq_true', List.isEmpty_eq_false_iff, bne_iff_ne, beq_iff_eq] at hform
  obtain ⟨⟨f1, f2⟩, f3⟩ := hform
  obtain ⟨d1, d2⟩ := dec_val _ _ rfl f1 f2 f3
  cases hs : (unsig t).2 with
  | true =>
    rw [hs, if_pos rfl] at hn
    have hv : val (unsig t).1 = 0 := by omega
    exfalso
    apply hf2
    refine ⟨hs, ?_⟩
    rw [hv, dec_zero] at d1
    exact d1.symm
  | false =>
    rw [hs, if_neg (by decide)] at hn
    have hu : (unsig t).1 = t := by
      cases t with
      | nil => rfl
      | cons c r =>
        unfold unsig at hs ⊢
        by_cases e : c = 45
        · simp [e] at hs
        · simp [e]
    rw [hu] at d1 hn
    unfold decI
    rw [if_neg (by omega), ← hn, Int.natAbs_natCast]
    exact d1

theorem dec_digits (n : Nat) : ∀ b ∈ dec n, digit b = true := List.all_eq_true.1 (all_dec n)
theorem decI_no10 (n : Int) : (10 : UInt8) ∉ decI n := by
  intro h
  unfold decI at h
  split at h
  · rcases List.mem_cons.1 h with e | e
    · cases e
    · have := dec_digits _ _ e
      simp [digit] at this
  · have := dec_digits _ _ h
    simp [digit] at this
end P01

namespace PS
theorem cut_len (c : UInt8) (s : List UInt8) : (cut c s).length ≤ s.length + 1 := by
  induction s with
  | nil => simp [cut]
  | cons b r ih =>
    by_cases h : b = c
    · rw [h, cut, if_pos rfl, List.length_cons, List.length_cons]; omega
    · obtain ⟨p, q, h1, h2⟩ := cut_cons_ne h r
      rw [h2]
      rw [h1] at ih
      simp only [List.length_cons] at *
      omega
theorem flat_mem {c : UInt8} {p : List UInt8} : ∀ {l : List (List UInt8)}, p ∈ l → p.length + 1 ≤ (flat c l).length
  | [], h => by cases h
  | q :: r, h => by
    have e : (flat c (q :: r)).length = q.length + 1 + (flat c r).length := by
      rw [show flat c (q :: r) = q ++ [c] ++ flat c r from by simp [flat], List.length_append, List.length_append]; rfl
    rcases List.mem_cons.1 h with rfl | h
    · omega
    · have := flat_mem (c := c) h
      omega
theorem cut_piece (c : UInt8) (s : List UInt8) : ∀ p ∈ cut c s, p.length ≤ s.length := fun p hp => by
  have h1 := flat_mem (c := c) hp
  rw [flat_cut, List.length_append] at h1
  simp at h1
  omega
end PS

namespace PW
/-- the pieces of a text -/
abbrev L (s : Bs) : List Bs := PS.cut 10 s
def lead (s : Bs) : Bool := decide (6 ≤ (L s).length) && ((L s)[0]?.getD [] == [49]) && ((L s)[(L s).length - 1]?.getD [] == []) && ((L s)[(L s).length - 2]?.getD [] == [46]) && (((L s)[1]?.getD []).head? == some 98)
def pBad (s : Bs) : Int × Int := P01.parse (((L s)[1]?.getD []).drop 1)
def pSt (s : Bs) : Bs := (L s)[2]?.getD []
def pIns (s : Bs) : List Bs := ((L s).drop 3).take ((L s).length - 5)
def pOk (s : Bs) : Bool := lead s && ((pBad s).2 == 0) && fits (pBad s).1 (pSt s) (pIns s)
def parseE (s : Bs) : Int := if pOk s = true then 0 else 33

theorem bits_no10 {x : Bs} {n : Nat} (h : PC.bitsOk x n = true) : (10 : UInt8) ∉ x := fun hm => by
  unfold PC.bitsOk at h
  rw [Bool.and_eq_true, List.all_eq_true] at h
  have := h.1 _ hm
  revert this; decide

theorem lines_clean {bad : Int} {st : Bs} {ins : List Bs} (h : fits bad st ins = true) : ∀ p ∈ lines bad st ins, (10 : UInt8) ∉ p := by
  obtain ⟨⟨h1, h2, h3, h4, h5, h6⟩, h7⟩ := (fits_iff bad st ins).1 h
  intro p hp
  simp only [lines, List.mem_cons, List.mem_append] at hp
  rcases hp with rfl | rfl | rfl | hp | rfl | hp
  · decide
  · intro hm
    rcases List.mem_cons.1 hm with e | e
    · cases e
    · exact P01.decI_no10 _ e
  · exact bits_no10 h6
  · exact bits_no10 (h7 p hp).1
  · decide
  · cases hp

theorem cut_flat : ∀ (l : List Bs), (∀ p ∈ l, (10 : UInt8) ∉ p) → PS.cut 10 (PS.flat 10 l) = l ++ [[]]
  | [], _ => rfl
  | p :: r, h => by
    have e : PS.flat 10 (p :: r) = p ++ 10 :: PS.flat 10 r := by simp [PS.flat]
    rw [e, PS.cut_append _ (h p (by simp)), cut_flat r fun q hq => h q (by simp [hq])]
    rfl

/-- a witness comes back from its text -/
theorem text_back {bad : Int} {st : Bs} {ins : List Bs} (h : fits bad st ins = true) : pOk (text bad st ins) = true ∧ (pBad (text bad st ins)).1 = bad ∧ pSt (text bad st ins) = st ∧ pIns (text bad st ins) = ins := by
  have hL : L (text bad st ins) = lines bad st ins ++ [[]] := cut_flat _ (lines_clean h)
  obtain ⟨⟨h1, h2, h3, h4, h5, h6⟩, h7⟩ := (fits_iff bad st ins).1 h
  have hlen : (lines bad st ins ++ [[]]).length = ins.length + 5 := by rw [List.length_append, lines_len]; rfl
  have hb : pBad (text bad st ins) = (bad, 0) := by
    unfold pBad
    rw [hL]
    have := P01.parse_decI bad
    rw [if_neg (by omega)] at this
    simpa [lines] using this
  have hs : pSt (text bad st ins) = st := by unfold pSt; rw [hL]; simp [lines]
  have hi : pIns (text bad st ins) = ins := by
    unfold pIns
    rw [hL, hlen, show ins.length + 5 - 5 = ins.length by omega]
    have : (lines bad st ins ++ [[]]).drop 3 = ins ++ ([[46]] ++ [[]]) := by simp [lines]
    rw [this, List.take_left]
  refine ⟨?_, by rw [hb], hs, hi⟩
  unfold pOk
  rw [hb, hs, hi, h]
  have e1 : (lines bad st ins ++ [[]])[ins.length + 4]? = some [] := by
    rw [List.getElem?_append_right (by rw [lines_len]; omega), lines_len]; simp
  have e2 : (lines bad st ins ++ [[]])[ins.length + 3]? = some [46] := by
    rw [List.getElem?_append_left (by rw [lines_len]; omega)]
    simp [lines]
  have hl : lead (text bad st ins) = true := by
    unfold lead
    rw [hL, hlen, show ins.length + 5 - 1 = ins.length + 4 by omega, show ins.length + 5 - 2 = ins.length + 3 by omega, e1, e2, decide_eq_true (by omega)]
    simp [lines]
  rw [hl]; rfl

/-- a text comes back from its witness -/
theorem back_text {s : Bs} (h : pOk s = true) : fits (pBad s).1 (pSt s) (pIns s) = true ∧ text (pBad s).1 (pSt s) (pIns s) = s := by
  unfold pOk at h
  simp only [Bool.and_eq_true, beq_iff_eq] at h
  obtain ⟨⟨hl, he⟩, hf⟩ := h
  refine ⟨hf, ?_⟩
  unfold lead at hl
  simp only [Bool.and_eq_true, decide_eq_true_eq, beq_iff_eq] at hl
  obtain ⟨⟨⟨⟨hn, l0⟩, l1⟩, l2⟩, l3⟩ := hl
  have hbad := ((fits_iff _ _ _).1 hf).1.1
  have hd : P01.decI (pBad s).1 = ((L s)[1]?.getD []).drop 1 := P01.parse_back (by show pBad s = _; rw [← he]) hbad
  have hb1 : 98 :: P01.decI (pBad s).1 = (L s)[1]?.getD [] := by
    rw [hd]
    cases hx : (L s)[1]?.getD [] with
    | nil => rw [hx] at l3; cases l3
    | cons c r => rw [hx] at l3; simp at l3; rw [l3]; rfl
  have hlines : lines (pBad s).1 (pSt s) (pIns s) ++ [[]] = L s := by
    unfold lines
    rw [hb1]
    apply List.ext_getElem?
    intro j
    have hil : (pIns s).length = (L s).length - 5 := by unfold pIns; rw [List.length_take, List.length_drop]; omega
    have gi : ∀ j, (h : j < (L s).length) → (L s)[j]? = some ((L s)[j]?.getD []) := fun j h => by rw [List.getElem?_eq_getElem h]; rfl
    rcases j with _ | _ | _ | j
    · rw [gi 0 (by omega), l0]; rfl
    · rw [gi 1 (by omega)]; rfl
    · rw [gi 2 (by omega)]; rfl
    · show ((pIns s ++ [[46]]) ++ [[]])[j]? = _
      by_cases hj : j < (pIns s).length
      · rw [List.append_assoc, List.getElem?_append_left hj]
        unfold pIns
        rw [List.getElem?_take, if_pos (by omega), List.getElem?_drop]
        congr 1; omega
      · rw [List.append_assoc, List.getElem?_append_right (by omega)]
        by_cases e : j = (pIns s).length
        · rw [e, Nat.sub_self, gi ((pIns s).length + 1 + 1 + 1) (by omega), show (pIns s).length + 1 + 1 + 1 = (L s).length - 2 by omega, l2]; rfl
        · by_cases e2 : j = (pIns s).length + 1
          · rw [e2, show (pIns s).length + 1 - (pIns s).length = 1 by omega, gi ((pIns s).length + 1 + 1 + 1 + 1) (by omega), show (pIns s).length + 1 + 1 + 1 + 1 = (L s).length - 1 by omega, l1]; rfl
          · rw [List.getElem?_eq_none (by simp; omega), List.getElem?_eq_none (by omega)]
  have hfl := PS.flat_cut 10 s
  rw [show PS.cut 10 s = L s from rfl, ← hlines, PS.flat_append] at hfl
  have e : PS.flat 10 [[]] = [10] := rfl
  rw [e] at hfl
  exact List.append_cancel_right hfl

theorem parseE_ok {s : Bs} (h : pOk s = true) : parseE s = 0 := by unfold parseE; rw [if_pos h]
theorem parseE_no {s : Bs} (h : pOk s = false) : parseE s = 33 := by unfold parseE; rw [if_neg (by rw [h]; decide)]
end PW
end Go.Proofs.YtjcaejdokillgaaDoor
