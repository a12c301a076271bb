/- Plain mathematics of decimals: no program in sight. -/
namespace Go.Proofs.Ytjcaejdokillgaa.P01

/-- a digit's octet -/
def dg (d : Nat) : UInt8 := UInt8.ofNat (48 + d)

/-- decimals of a number -/
def dec (n : Nat) : List UInt8 := if n < 10 then [dg n] else dec (n / 10) ++ [dg (n % 10)]
  termination_by n
  decreasing_by omega

theorem dec_lt (n : Nat) (h : n < 10) : dec n = [dg n] := by rw [dec, if_pos h]
theorem dec_ge (n : Nat) (h : ¬ n < 10) : dec n = dec (n / 10) ++ [dg (n % 10)] := by rw [dec, if_neg h]

/-- decimals of an integer -/
def decI (n : Int) : List UInt8 := if n < 0 then 45 :: dec n.natAbs else dec n.natAbs

def digit (c : UInt8) : Bool := 48 ≤ c && c ≤ 57

def val (l : List UInt8) : Nat := l.foldl (fun n c => 10 * n + (c.toNat - 48)) 0

theorem val_snoc (l : List UInt8) (c : UInt8) : val (l ++ [c]) = 10 * val l + (c.toNat - 48) := by simp [val, List.foldl_append]

theorem toNat_dig (d : Nat) (h : d < 10) : (dg d).toNat = 48 + d := by
  unfold dg; simp; omega

theorem digit_dig (d : Nat) (h : d < 10) : digit (dg d) = true := by
  have := toNat_dig d h
  simp [digit, UInt8.le_iff_toNat_le, this]; omega

theorem val_dec (n : Nat) : val (dec n) = n := by
  induction n using Nat.strongRecOn with
  | _ n ih =>
    by_cases h : n < 10
    · rw [dec_lt n h]; have := toNat_dig n h; simp [val, this]
    · rw [dec_ge n h, val_snoc, ih (n / 10) (by omega), toNat_dig _ (Nat.mod_lt _ (by omega))]; omega

theorem all_dec (n : Nat) : (dec n).all digit = true := by
  induction n using Nat.strongRecOn with
  | _ n ih =>
    by_cases h : n < 10
    · rw [dec_lt n h]; simp [digit_dig n h]
    · rw [dec_ge n h, List.all_append, ih (n / 10) (by omega)]; simp [digit_dig _ (Nat.mod_lt n (by omega : 0 < 10))]

theorem dec_ne (n : Nat) : dec n ≠ [] := by
  by_cases h : n < 10
  · rw [dec_lt n h]; simp
  · rw [dec_ge n h]; simp

theorem head_dec (n : Nat) (h : 0 < n) : (dec n).head? ≠ some 48 := by
  induction n using Nat.strongRecOn with
  | _ n ih =>
    by_cases h' : n < 10
    · rw [dec_lt n h']
      have := toNat_dig n h'
      simp only [List.head?_cons, ne_eq, Option.some.injEq]
      intro e
      rw [e] at this
      have h48 : (48 : UInt8).toNat = 48 := rfl
      omega
    · rw [dec_ge n h']
      have := ih (n / 10) (by omega) (by omega)
      cases hd : dec (n / 10) with
      | nil => exact absurd hd (dec_ne _)
      | cons c r => rw [hd] at this; simpa using this

/-- the form of a number -/
def form (l : List UInt8) : Bool := !l.isEmpty && (l.head? != some 48 || l.length == 1) && l.all digit

theorem dec_len_one (n : Nat) (h : (dec n).head? = some 48) : n = 0 := by
  by_cases h' : 0 < n
  · exact absurd h (head_dec n h')
  · omega

theorem form_dec (n : Nat) : form (dec n) = true := by
  have h1 := dec_ne n
  have h2 := all_dec n
  have h3 : (dec n).head? ≠ some 48 ∨ (dec n).length = 1 := by
    by_cases h : 0 < n
    · exact .inl (head_dec n h)
    · obtain rfl : n = 0 := by omega
      right; rw [dec_lt 0 (by omega)]; rfl
  simp only [form, h2, Bool.and_true, Bool.and_eq_true, Bool.or_eq_true, bne_iff_ne, beq_iff_eq]
  refine ⟨?_, h3⟩
  cases hd : dec n with
  | nil => exact absurd hd h1
  | cons c r => rfl

/-- bounds by length -/
theorem val_lt_aux (l : List UInt8) (h : l.all digit = true) (n k : Nat) (hn : n < 10 ^ k) : l.foldl (fun n c => 10 * n + (c.toNat - 48)) n < 10 ^ (k + l.length) := by
  induction l generalizing n k with
  | nil => simpa using hn
  | cons c l ih =>
    simp only [List.all_cons, Bool.and_eq_true] at h
    have hc : c.toNat ≤ 57 := by
      have := h.1; simp [digit, UInt8.le_iff_toNat_le] at this; omega
    simp only [List.foldl_cons, List.length_cons]
    rw [show k + (l.length + 1) = (k + 1) + l.length from by omega]
    exact ih h.2 _ _ (by rw [Nat.pow_succ]; omega)
theorem val_lt (l : List UInt8) (h : l.all digit = true) : val l < 10 ^ l.length := by
  have := val_lt_aux l h 0 0 (by simp)
  simpa [val] using this

theorem dec_len (n k : Nat) (h : n < 10 ^ k) (hk : 0 < k) : (dec n).length ≤ k := by
  induction k generalizing n with
  | zero => omega
  | succ k ih =>
    by_cases h' : n < 10
    · rw [dec_lt n h']; simp
    · rw [dec_ge n h', List.length_append]
      have hk' : 0 < k := by
        cases k with
        | zero => simp at h; omega
        | succ k => omega
      have := ih (n / 10) (by rw [Nat.pow_succ] at h; omega) hk'
      simp; omega

/-- Parse: what the text stands for, and the error -/
def unsig (l : List UInt8) : List UInt8 × Bool := match l with | [] => ([], false) | c :: r => if c = 45 then (r, true) else (c :: r, false)
def parse (l : List UInt8) : Int × Int :=
  if form (unsig l).1 = false ∨ ((unsig l).2 = true ∧ (unsig l).1 = [48]) then (0, 33)
  else if 14 < (unsig l).1.length then (0, 4)
  else if 1099511627776 < val (unsig l).1 then (0, 4)
  else (if (unsig l).2 then -(val (unsig l).1 : Int) else val (unsig l).1, 0)

theorem digit45 (r : List UInt8) : (45 :: r).all digit = false := by simp [digit]

theorem unsig_dec (n : Nat) : unsig (dec n) = (dec n, false) := by
  cases hd : dec n with
  | nil => rfl
  | cons c r =>
    have h := all_dec n
    rw [hd] at h
    have hc : c ≠ 45 := by
      intro e; subst e; rw [digit45] at h; cases h
    simp [unsig, hc]

theorem dec_zero : dec 0 = [48] := by rw [dec_lt 0 (by omega)]; rfl
theorem dec_inj (m n : Nat) (h : dec m = dec n) : m = n := by rw [← val_dec m, h, val_dec]

theorem parse_decI (n : Int) : parse (decI n) = if n < -1099511627776 ∨ 1099511627776 < n then (0, 4) else (n, 0) := by
  have hu : unsig (decI n) = (dec n.natAbs, decide (n < 0)) := by
    unfold decI
    by_cases h : n < 0
    · rw [if_pos h]; simp [unsig, h]
    · rw [if_neg h, unsig_dec]; simp [h]
  unfold parse
  rw [hu]
  have h0 : ¬ (form (dec n.natAbs) = false ∨ (decide (n < 0) = true ∧ dec n.natAbs = [48])) := by
    rw [form_dec]
    rintro (h | ⟨h1, h2⟩)
    · cases h
    · rw [← dec_zero] at h2
      have := dec_inj _ _ h2
      simp at h1; omega
  rw [if_neg h0]
  simp only [val_dec]
  by_cases hl : 14 < (dec n.natAbs).length
  · rw [if_pos hl]
    have h14 : ¬ n.natAbs < 10 ^ 14 := fun h => by have := dec_len _ 14 h (by omega); omega
    have h14' : ¬ n.natAbs < 100000000000000 := h14
    rw [if_pos (by omega)]
  · rw [if_neg hl]
    by_cases hm : 1099511627776 < n.natAbs
    · rw [if_pos hm, if_pos (by omega)]
    · have hr : ¬ (n < -1099511627776 ∨ 1099511627776 < n) := by omega
      rw [if_neg hm, if_neg hr]
      by_cases h : n < 0
      · simp only [h, decide_true, if_true, Prod.mk.injEq, and_true]; omega
      · simp only [h, decide_false, Bool.false_eq_true, if_false, Prod.mk.injEq, and_true]; omega

end Go.Proofs.Ytjcaejdokillgaa.P01
