/- Plain: what is lifted still holds; what is known always. -/
import Derived.Test.YtlakfaalpijhiaaDoorPlainY
namespace Go.Proofs.YtlakfaalpijhiaaDoor
namespace PC

/-- are all literals 1? -/
def heldT (m : Bs) (hold : List Int) : Bool := hold.all fun l => ofT m l == 49

/-- a state with a place unknown, if all is still held -/
def liftStep (c : Circ) (i : Bs) (hold : List Int) (b : Bs) (k : Nat) : Bs := if heldT (tvals c (b.set k 120) i) hold = true then b.set k 120 else b
def liftN (c : Circ) (st i : Bs) (hold : List Int) (n : Nat) : Bs := (List.range n).foldl (liftStep c i hold) st

theorem liftN_succ (c : Circ) (st i : Bs) (hold : List Int) (n : Nat) : liftN c st i hold (n + 1) = liftStep c i hold (liftN c st i hold n) n := by
  unfold liftN
  rw [List.range_succ, List.foldl_append]; rfl

theorem cov_x (b : Bs) (k : Nat) : Cov (b.set k 120) b := by
  refine ⟨by simp, fun j hj hj' => ?_⟩
  rw [List.getElem_set]
  split
  · exact Or.inr rfl
  · exact Cv.refl _

theorem liftN_cov (c : Circ) (st i : Bs) (hold : List Int) : ∀ n, Cov (liftN c st i hold n) st
  | 0 => Cov.refl _
  | n + 1 => by
    rw [liftN_succ, liftStep]
    split
    · exact cov_trans (cov_x _ _) (liftN_cov c st i hold n)
    · exact liftN_cov c st i hold n

theorem liftN_length (c : Circ) (st i : Bs) (hold : List Int) (n : Nat) : (liftN c st i hold n).length = st.length := (liftN_cov c st i hold n).1

theorem liftN_held (c : Circ) (st i : Bs) (hold : List Int) (h : heldT (tvals c st i) hold = true) : ∀ n, heldT (tvals c (liftN c st i hold n) i) hold = true
  | 0 => h
  | n + 1 => by
    rw [liftN_succ, liftStep]
    split
    · rename_i h1
      exact h1
    · exact liftN_held c st i hold h n

theorem liftN_trits (c : Circ) (st i : Bs) (hold : List Int) (h : ∀ b ∈ st, isTrit b = true) : ∀ n, ∀ b ∈ liftN c st i hold n, isTrit b = true
  | 0 => h
  | n + 1 => by
    rw [liftN_succ, liftStep]
    split
    · intro b hb
      rcases List.mem_or_eq_of_mem_set hb with e | e
      · exact liftN_trits c st i hold h n b e
      · rw [e]; rfl
    · exact liftN_trits c st i hold h n

theorem trits_set {b : Bs} {n k : Nat} (h : tritsOk b n = true) : tritsOk (b.set k 120) n = true := by
  have hm := tritsOk_mem h
  unfold tritsOk
  rw [Bool.and_eq_true, List.all_eq_true, decide_eq_true_eq, List.length_set]
  refine ⟨fun x hx => ?_, hm.2⟩
  rcases List.mem_or_eq_of_mem_set hx with e | e
  · exact hm.1 x e
  · rw [e]; rfl

theorem liftN_ok (c : Circ) (st i : Bs) (hold : List Int) (n m : Nat) (h : tritsOk st m = true) : tritsOk (liftN c st i hold n) m = true := by
  have hm := tritsOk_mem h
  unfold tritsOk
  rw [Bool.and_eq_true, List.all_eq_true, decide_eq_true_eq, liftN_length]
  exact ⟨liftN_trits c st i hold hm.1 n, hm.2⟩

def liftE (c : Circ) (st i : Bs) (hold : List Int) : Int := if ternE c st i ≠ 0 then ternE c st i else if heldT (ternS c st i) hold = false then 51 else 0
def liftS (c : Circ) (st i : Bs) (hold : List Int) : Bs := if liftE c st i hold = 0 then liftN c st i hold st.length else []

theorem liftE_ok {c : Circ} {st i : Bs} {hold : List Int} (h : ternE c st i = 0) : liftE c st i hold = if heldT (tvals c st i) hold = true then 0 else 51 := by
  unfold liftE ternS
  rw [if_neg (by rw [h]; decide), if_pos h]
  cases heldT (tvals c st i) hold <;> rfl

/-- what was lifted still holds all that it should -/
theorem lift_sound (c : Circ) (h : Right c) {st i l' i' : Bs} {hold : List Int} (hh : heldT (tvals c st i) hold = true) (hl : Cov (liftN c st i hold st.length) l') (hi : Cov i i') (b1 : ∀ b ∈ l', b = 48 ∨ b = 49) (b2 : ∀ b ∈ i', b = 48 ∨ b = 49)
    (x : Int) (hx : x ∈ hold) (_h0 : 0 ≤ x) (h1 : x / 2 ≤ c.max) : tru (vals c l' i') x = true := by
  have hH := liftN_held c st i hold hh st.length
  unfold heldT at hH
  have hx1 := beq_iff_eq.1 (List.all_eq_true.1 hH x hx)
  have hc := cv_of (tvals_sound c h hl hi b1 b2) x
  rw [hx1] at hc
  rw [ofT_bit _ _ (vals_bits c l' i' b1 b2) (by
    rw [vals_length]
    have := h.max0
    unfold varOf
    omega)] at hc
  cases e : tru (vals c l' i') x with
  | true => rfl
  | false =>
    rw [e] at hc
    rcases hc with h2 | h2
    · exact absurd h2 (by decide)
    · exact absurd h2 (by decide)

/-- what is known of both -/
def joinT (a b : Bs) : Bs := (a.zip b).map fun p => if p.1 = p.2 then p.1 else 120
def fstT (c : Circ) : Bs := c.latches.map fun x => if x.reset = x.lit then 120 else if x.reset = 1 then 49 else 48
def xs (n : Nat) : Bs := List.replicate n 120
def widNext (c : Circ) (s : Bs) : Bs := joinT s (tnexts c (tvals c s (xs c.inputs.length)))
def widS (c : Circ) : Nat → Bs
  | 0 => fstT c
  | n + 1 => widNext c (widS c n)
def widE (c : Circ) (most : Int) : Int := if chk c = false then 9 else if most < 0 ∨ 80 < most then 4 else 0
/-- where it stops -/
def widN (c : Circ) (most : Nat) : Nat := ((List.range most).find? fun n => widNext c (widS c n) == widS c n).getD most

theorem join_length (a b : Bs) (h : a.length = b.length) : (joinT a b).length = a.length := by
  unfold joinT
  rw [List.length_map, List.length_zip]; omega

theorem join_get (a b : Bs) (j : Nat) (hj : j < (joinT a b).length) (h1 : j < a.length) (h2 : j < b.length) : (joinT a b)[j] = if a[j] = b[j] then a[j] else 120 := by
  simp [joinT]

theorem join_left (a b : Bs) (h : a.length = b.length) : Cov (joinT a b) a := by
  refine ⟨join_length a b h, fun j hj hj' => ?_⟩
  rw [join_get a b j hj hj' (by omega)]
  split
  · exact Cv.refl _
  · exact Or.inr rfl

theorem join_right (a b : Bs) (h : a.length = b.length) : Cov (joinT a b) b := by
  refine ⟨(join_length a b h).trans h, fun j hj hj' => ?_⟩
  rw [join_get a b j hj (by omega) hj']
  split
  · rename_i e
    exact Or.inl e
  · exact Or.inr rfl

theorem tnexts_length (c : Circ) (v : Bs) : (tnexts c v).length = c.latches.length := by simp [tnexts]

theorem widS_length (c : Circ) : ∀ n, (widS c n).length = c.latches.length
  | 0 => by simp [widS, fstT]
  | n + 1 => by
    show (widNext c (widS c n)).length = _
    unfold widNext
    rw [join_length _ _ (by rw [tnexts_length, widS_length c n])]
    exact widS_length c n

theorem oppT_trit (x : UInt8) : isTrit (oppT x) = true := by
  unfold oppT
  split
  · rfl
  · split <;> rfl

theorem ofT_trit (m : Bs) (l : Int) (h : ∀ b ∈ m, isTrit b = true) : isTrit (ofT m l) = true := by
  unfold ofT
  split
  · exact oppT_trit _
  · cases e : m[varOf l]? with
    | none => rfl
    | some b => exact h b (List.mem_of_getElem? e)

theorem tnexts_trits (c : Circ) (v : Bs) (h : ∀ b ∈ v, isTrit b = true) : ∀ b ∈ tnexts c v, isTrit b = true := by
  intro b hb
  unfold tnexts at hb
  obtain ⟨x, _, rfl⟩ := List.mem_map.1 hb
  exact ofT_trit _ _ h

theorem join_trits (a b : Bs) (h : ∀ x ∈ a, isTrit x = true) : ∀ x ∈ joinT a b, isTrit x = true := by
  intro x hx
  unfold joinT at hx
  obtain ⟨p, hp, rfl⟩ := List.mem_map.1 hx
  split
  · exact h _ (List.of_mem_zip hp).1
  · rfl

theorem first_trits (c : Circ) : ∀ x ∈ fstT c, isTrit x = true := by
  intro x hx
  unfold fstT at hx
  obtain ⟨y, _, rfl⟩ := List.mem_map.1 hx
  split
  · rfl
  · split <;> rfl

theorem widS_trits (c : Circ) : ∀ n, ∀ x ∈ widS c n, isTrit x = true
  | 0 => first_trits c
  | n + 1 => join_trits _ _ (widS_trits c n)

theorem widS_ok (c : Circ) (n : Nat) : tritsOk (widS c n) c.latches.length = true := by
  unfold tritsOk
  rw [Bool.and_eq_true, List.all_eq_true, decide_eq_true_eq]
  exact ⟨widS_trits c n, widS_length c n⟩

theorem xs_ok (n : Nat) : tritsOk (xs n) n = true := by
  unfold tritsOk xs
  rw [Bool.and_eq_true, List.all_eq_true, decide_eq_true_eq]
  exact ⟨fun b hb => by rw [List.eq_of_mem_replicate hb]; rfl, List.length_replicate⟩

theorem widN_hit (c : Circ) (most k : Nat) (hk : k < most) (h0 : ∀ j, j < k → (widNext c (widS c j) == widS c j) = false) (h1 : (widNext c (widS c k) == widS c k) = true) : widN c most = k := by
  unfold widN
  rw [show (List.range most).find? (fun n => widNext c (widS c n) == widS c n) = some k from by
    rw [List.find?_range_eq_some]
    exact ⟨h1, List.mem_range.2 hk, fun j hj => by rw [h0 j hj]; rfl⟩]
  rfl

theorem widN_miss (c : Circ) (most : Nat) (h0 : ∀ j, j < most → (widNext c (widS c j) == widS c j) = false) : widN c most = most := by
  unfold widN
  rw [show (List.range most).find? (fun n => widNext c (widS c n) == widS c n) = none from by
    rw [List.find?_eq_none]
    intro j hj
    rw [h0 j (List.mem_range.1 hj)]; decide]
  rfl

theorem widN_cases (c : Circ) (most : Nat) : widN c most = most ∨ (widN c most < most ∧ widNext c (widS c (widN c most)) = widS c (widN c most)) := by
  unfold widN
  cases e : (List.range most).find? (fun n => widNext c (widS c n) == widS c n) with
  | none => exact Or.inl rfl
  | some k =>
    right
    have h1 := List.find?_some e
    have h2 := List.mem_range.1 (List.mem_of_find?_eq_some e)
    exact ⟨h2, beq_iff_eq.1 h1⟩

/-- what does not change any more covers what comes of what it covers -/
theorem wid_next (c : Circ) (h : Right c) {s st i : Bs} (hs : widNext c s = s) (hl : s.length = c.latches.length) (hc : Cov s st) (hi : Cov (xs c.inputs.length) i) (b1 : ∀ b ∈ st, b = 48 ∨ b = 49) (b2 : ∀ b ∈ i, b = 48 ∨ b = 49) :
    Cov s (nexts c (vals c st i)) := by
  have h1 := cov_tnexts c (tvals_sound c h hc hi b1 b2)
  rw [nexts_eq c h st i b1 b2] at h1
  have h2 := join_right s (tnexts c (tvals c s (xs c.inputs.length))) (by rw [tnexts_length, hl])
  rw [show joinT s (tnexts c (tvals c s (xs c.inputs.length))) = s from hs] at h2
  exact cov_trans h2 h1

theorem wid_first (c : Circ) : ∀ n, Cov (widS c n) (fstT c)
  | 0 => Cov.refl _
  | n + 1 => cov_trans (join_left _ _ (by rw [tnexts_length, widS_length])) (wid_first c n)
end PC
end Go.Proofs.YtlakfaalpijhiaaDoor
