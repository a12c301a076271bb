/- Plain: trits; what is known stays known. -/
import Derived.Test.YtlakfaalpijhiaaDoorPlainM
import Derived.Test.YtlakfaalpijhiaaDoorPlainU
namespace Go.Proofs.YtlakfaalpijhiaaDoor
namespace PC

def oppT (c : UInt8) : UInt8 := if c = 48 then 49 else if c = 49 then 48 else 120
def bothT (a b : UInt8) : UInt8 := if a = 48 ∨ b = 48 then 48 else if a = 49 ∧ b = 49 then 49 else 120
/-- a literal's trit -/
def ofT (m : Bs) (l : Int) : UInt8 := if negOf l then oppT (m[varOf l]?.getD 120) else m[varOf l]?.getD 120

def isTrit (b : UInt8) : Bool := b == 48 || b == 49 || b == 120
def tritsOk (s : Bs) (n : Nat) : Bool := s.all isTrit && decide (s.length = n)

def setGatsT (s : Bs) : List Gat → Bs
  | [] => s
  | a :: r => setGatsT (s.set (varOf a.lit) (bothT (ofT s a.left) (ofT s a.right))) r

def tvals (c : Circ) (st i : Bs) : Bs := setGatsT (start c st i) c.ands

def ternE (c : Circ) (st i : Bs) : Int := if chk c = false then 9 else if tritsOk st c.latches.length = false ∨ tritsOk i c.inputs.length = false then 5 else 0
def ternS (c : Circ) (st i : Bs) : Bs := if ternE c st i = 0 then tvals c st i else []
def tnexts (c : Circ) (v : Bs) : Bs := c.latches.map fun x => ofT v x.next
def tnextS (c : Circ) (st i : Bs) : Bs := if ternE c st i = 0 then tnexts c (tvals c st i) else []

/-- one trit covers another -/
def Cv (x y : UInt8) : Prop := x = y ∨ x = 120
def Cov (a b : Bs) : Prop := a.length = b.length ∧ ∀ j (h : j < a.length) (h' : j < b.length), Cv a[j] b[j]

theorem Cv.refl (x : UInt8) : Cv x x := Or.inl rfl
theorem Cov.refl (a : Bs) : Cov a a := ⟨rfl, fun _ _ _ => Cv.refl _⟩

theorem cv_opp {x y : UInt8} (h : Cv x y) : Cv (oppT x) (oppT y) := by
  rcases h with rfl | rfl
  · exact Cv.refl _
  · exact Or.inr rfl

theorem cv_both {x x' y y' : UInt8} (h : Cv x x') (h' : Cv y y') : Cv (bothT x y) (bothT x' y') := by
  rcases h with rfl | rfl
  · rcases h' with rfl | rfl
    · exact Cv.refl _
    · by_cases e : x = 48
      · subst e; simp [bothT, Cv]
      · refine Or.inr ?_
        simp [bothT, e]
  · rcases h' with rfl | rfl
    · by_cases e : y = 48
      · subst e; simp [bothT, Cv]
      · refine Or.inr ?_
        simp [bothT, e]
    · exact Or.inr rfl

theorem Cov.get {a b : Bs} (h : Cov a b) (j : Nat) : Cv (a[j]?.getD 120) (b[j]?.getD 120) := by
  by_cases hj : j < a.length
  · have hj' : j < b.length := by rw [← h.1]; exact hj
    rw [List.getElem?_eq_getElem hj, List.getElem?_eq_getElem hj']
    exact h.2 j hj hj'
  · rw [List.getElem?_eq_none (by omega)]
    exact Or.inr rfl

theorem cv_of {a b : Bs} (h : Cov a b) (l : Int) : Cv (ofT a l) (ofT b l) := by
  unfold ofT
  split
  · exact cv_opp (h.get _)
  · exact h.get _

theorem Cov.set {a b : Bs} (h : Cov a b) (n : Nat) {x y : UInt8} (hc : Cv x y) : Cov (a.set n x) (b.set n y) := by
  refine ⟨by simp [h.1], fun j hj hj' => ?_⟩
  rw [List.getElem_set, List.getElem_set]
  split
  · exact hc
  · exact h.2 j (by simpa using hj) (by simpa using hj')

theorem cov_setGatsT : ∀ (l : List Gat) (a b : Bs), Cov a b → Cov (setGatsT a l) (setGatsT b l)
  | [], _, _, h => h
  | _g :: r, _a, _b, h => cov_setGatsT r _ _ (h.set _ (cv_both (cv_of h _) (cv_of h _)))

theorem cov_setAll : ∀ (ks : List Int) (v v' a b : Bs), Cov a b → Cov v v' → Cov (setAll a (ks.zip v)) (setAll b (ks.zip v'))
  | [], _, _, _, _, h, _ => by simpa [setAll] using h
  | k :: ks, v, v', a, b, h, hv => by
    cases v with
    | nil =>
      have : v' = [] := List.eq_nil_of_length_eq_zero (by simpa using hv.1.symm)
      subst this
      simpa [setAll] using h
    | cons x v =>
      cases v' with
      | nil => simp [Cov] at hv
      | cons y v' =>
        have h0 := hv.2 0 (by simp) (by simp)
        have hv2 : Cov v v' := ⟨by simpa using hv.1, fun j hj hj' => by
          have := hv.2 (j + 1) (by simpa using hj) (by simpa using hj')
          simpa using this⟩
        simp only [List.zip_cons_cons, setAll]
        exact cov_setAll ks v v' _ _ (h.set _ (by simpa using h0)) hv2

theorem cov_start (c : Circ) {st st' i i' : Bs} (h1 : Cov st st') (h2 : Cov i i') : Cov (start c st i) (start c st' i') :=
  cov_setAll _ _ _ _ _ (cov_setAll _ _ _ _ _ (Cov.refl _) h2) h1

theorem cov_tvals (c : Circ) {st st' i i' : Bs} (h1 : Cov st st') (h2 : Cov i i') : Cov (tvals c st i) (tvals c st' i') :=
  cov_setGatsT _ _ _ (cov_start c h1 h2)

theorem cov_tnexts (c : Circ) {a b : Bs} (h : Cov a b) : Cov (tnexts c a) (tnexts c b) := by
  refine ⟨by simp [tnexts], fun j hj hj' => ?_⟩
  simp only [tnexts, List.getElem_map]
  exact cv_of h _

theorem cv_trans {x y z : UInt8} (h1 : Cv x y) (h2 : Cv y z) : Cv x z := by
  rcases h1 with rfl | h
  · exact h2
  · exact Or.inr h

theorem cov_trans {a b d : Bs} (h1 : Cov a b) (h2 : Cov b d) : Cov a d :=
  ⟨h1.1.trans h2.1, fun j hj hj' => cv_trans (h1.2 j hj (by rw [← h1.1]; exact hj)) (h2.2 j (by rw [← h1.1]; exact hj) hj')⟩

/-- the page's word for it -/
def covers (a b : Bs) : Bool := decide (a.length = b.length) && (a.zip b).all fun p => p.1 == p.2 || p.1 == 120

theorem covers_iff (a b : Bs) : covers a b = true ↔ Cov a b := by
  unfold covers Cov
  rw [Bool.and_eq_true, decide_eq_true_eq]
  refine ⟨fun ⟨h1, h2⟩ => ⟨h1, fun j hj hj' => ?_⟩, fun ⟨h1, h2⟩ => ⟨h1, ?_⟩⟩
  · rw [all_zip _ _ h1.symm] at h2
    have := h2 j hj
    simp only [Bool.or_eq_true, beq_iff_eq] at this
    exact this
  · rw [all_zip _ _ h1.symm]
    intro j hj
    have := h2 j hj (by omega)
    simp only [Bool.or_eq_true, beq_iff_eq]
    exact this

theorem covers_no {a b : Bs} (h : covers a b = false) : ¬ Cov a b := fun hc => by
  rw [(covers_iff a b).2 hc] at h; cases h

theorem setGatsT_length (l : List Gat) : ∀ s : Bs, (setGatsT s l).length = s.length := by
  induction l with
  | nil => intro s; rfl
  | cons a r ih => intro s; rw [setGatsT, ih, List.length_set]

theorem tvals_length (c : Circ) (st i : Bs) : (tvals c st i).length = c.max.toNat + 1 := by rw [tvals, setGatsT_length, start_length]

theorem setGatsT_take_next (s : Bs) (l : List Gat) (k : Nat) (h : k < l.length) :
    setGatsT s (l.take (k + 1)) = (setGatsT s (l.take k)).set (varOf l[k].lit) (bothT (ofT (setGatsT s (l.take k)) l[k].left) (ofT (setGatsT s (l.take k)) l[k].right)) := by
  induction l generalizing s k with
  | nil => simp at h
  | cons a r ih =>
    cases k with
    | zero => simp [setGatsT]
    | succ k =>
      have h' : k < r.length := by simpa using h
      rw [List.take_succ_cons, setGatsT, ih _ k h', List.take_succ_cons, setGatsT]
      simp

/-- of bits the trit is the bit -/
theorem ofT_bit (m : Bs) (l : Int) (hb : ∀ b ∈ m, b = 48 ∨ b = 49) (hl : varOf l < m.length) : ofT m l = bitB (tru m l) := by
  rw [tru_of_bits m l hb]
  unfold ofT
  rw [List.getElem?_eq_getElem hl]
  have := hb _ (List.getElem_mem hl)
  simp only [Option.getD_some]
  rcases this with e | e <;> rw [e] <;> cases negOf l <;> rfl

theorem both_bit (a b : Bool) : bothT (bitB a) (bitB b) = bitB (a && b) := by cases a <;> cases b <;> decide

theorem gate_vars (c : Circ) (h : Right c) (a : Gat) (ha : a ∈ c.ands) : varOf a.left < c.max.toNat + 1 ∧ varOf a.right < c.max.toNat + 1 ∧ varOf a.lit < c.max.toNat + 1 := by
  have h1 := h.gats a ha
  have h2 := h.defs _ (mem_defs_gat c a ha)
  have h3 := h.max0
  unfold varOf
  omega

theorem tvals_bits (c : Circ) (h : Right c) (st i : Bs) (h1 : ∀ b ∈ st, b = 48 ∨ b = 49) (h2 : ∀ b ∈ i, b = 48 ∨ b = 49) : tvals c st i = vals c st i := by
  have hs : ∀ b ∈ start c st i, b = 48 ∨ b = 49 :=
    setAll_bits _ _ (setAll_bits _ _ (fun _ hb => Or.inl (List.eq_of_mem_replicate hb)) fun _ hp => h2 _ (List.of_mem_zip hp).2) fun _ hp => h1 _ (List.of_mem_zip hp).2
  have : ∀ k, k ≤ c.ands.length → setGatsT (start c st i) (c.ands.take k) = setGats (start c st i) (c.ands.take k) := by
    intro k
    induction k with
    | zero => intro _; rfl
    | succ k ih =>
      intro hk
      have hk' : k < c.ands.length := by omega
      rw [setGatsT_take_next _ _ _ hk', gate_step c h st i k hk', ih (by omega)]
      have hb := setGats_bits (c.ands.take k) _ hs
      have hv := gate_vars c h _ (List.getElem_mem hk')
      have hl : (setGats (start c st i) (c.ands.take k)).length = c.max.toNat + 1 := by rw [setGats_length, start_length]
      rw [ofT_bit _ _ hb (by rw [hl]; exact hv.1), ofT_bit _ _ hb (by rw [hl]; exact hv.2.1), both_bit, bit_min]
  have := this c.ands.length (Nat.le_refl _)
  rwa [List.take_length] at this

/-- what is known is so, whatever stands for x -/
theorem tvals_sound (c : Circ) (h : Right c) {st st' i i' : Bs} (h1 : Cov st st') (h2 : Cov i i') (hb1 : ∀ b ∈ st', b = 48 ∨ b = 49) (hb2 : ∀ b ∈ i', b = 48 ∨ b = 49) : Cov (tvals c st i) (vals c st' i') := by
  rw [← tvals_bits c h st' i' hb1 hb2]
  exact cov_tvals c h1 h2

theorem trit_both (a b : UInt8) : isTrit (bothT a b) = true := by
  unfold bothT
  split
  · rfl
  · split <;> rfl

theorem setGatsT_trits : ∀ (l : List Gat) (s : Bs), (∀ b ∈ s, isTrit b = true) → ∀ b ∈ setGatsT s l, isTrit b = true
  | [], _, h => h
  | g :: r, s, h => setGatsT_trits r _ fun b hb => by
    rcases List.mem_or_eq_of_mem_set hb with e | e
    · exact h b e
    · rw [e]; exact trit_both _ _

theorem setAll_trits : ∀ (l : List (Int × UInt8)) (s : Bs), (∀ b ∈ s, isTrit b = true) → (∀ p ∈ l, isTrit p.2 = true) → ∀ b ∈ setAll s l, isTrit b = true
  | [], _, h, _ => h
  | (k, x) :: r, s, h, hl => setAll_trits r _ (fun b hb => by
    rcases List.mem_or_eq_of_mem_set hb with e | e
    · exact h b e
    · rw [e]; exact hl (k, x) (by simp)) fun p hp => hl p (by simp [hp])

theorem tritsOk_mem {s : Bs} {n : Nat} (h : tritsOk s n = true) : (∀ b ∈ s, isTrit b = true) ∧ s.length = n := by
  unfold tritsOk at h
  rw [Bool.and_eq_true, List.all_eq_true, decide_eq_true_eq] at h
  exact h

theorem start_trits (c : Circ) (st i : Bs) (h1 : ∀ b ∈ st, isTrit b = true) (h2 : ∀ b ∈ i, isTrit b = true) : ∀ b ∈ start c st i, isTrit b = true :=
  setAll_trits _ _ (setAll_trits _ _ (fun _ hb => by rw [List.eq_of_mem_replicate hb]; rfl) fun _ hp => h2 _ (List.of_mem_zip hp).2) fun _ hp => h1 _ (List.of_mem_zip hp).2

theorem tvals_trits (c : Circ) (st i : Bs) (h1 : ∀ b ∈ st, isTrit b = true) (h2 : ∀ b ∈ i, isTrit b = true) : ∀ b ∈ tvals c st i, isTrit b = true :=
  setGatsT_trits _ _ (start_trits c st i h1 h2)

theorem chk_of_ternE (c : Circ) (st i : Bs) (h : ternE c st i = 0) : chk c = true ∧ tritsOk st c.latches.length = true ∧ tritsOk i c.inputs.length = true := by
  unfold ternE at h
  split at h
  · cases h
  split at h
  · cases h
  · rename_i h1 h2
    refine ⟨by simpa using h1, ?_, ?_⟩
    · cases e : tritsOk st c.latches.length with
      | true => rfl
      | false => exact absurd (Or.inl e) h2
    · cases e : tritsOk i c.inputs.length with
      | true => rfl
      | false => exact absurd (Or.inr e) h2

/-- what stands for x -/
def Fil (s r : Bs) : Prop := s.length = r.length ∧ ∀ j (h : j < s.length) (h' : j < r.length), (s[j] ≠ 120 → r[j] = s[j]) ∧ (s[j] = 120 → r[j] = 48 ∨ r[j] = 49)

theorem Fil.cov {s r : Bs} (h : Fil s r) : Cov s r := ⟨h.1, fun j hj hj' => by
  by_cases e : s[j] = 120
  · exact Or.inr e
  · exact Or.inl ((h.2 j hj hj').1 e).symm⟩

theorem Fil.bits {s r : Bs} (h : Fil s r) {n : Nat} (ht : tritsOk s n = true) : bitsOk r n = true := by
  have hm := tritsOk_mem ht
  unfold bitsOk
  rw [Bool.and_eq_true, List.all_eq_true, decide_eq_true_eq]
  refine ⟨fun b hb => ?_, h.1.symm.trans hm.2⟩
  obtain ⟨j, hj, rfl⟩ := List.getElem_of_mem hb
  have hj' : j < s.length := by rw [h.1]; exact hj
  have ht := hm.1 _ (List.getElem_mem hj')
  by_cases e : s[j] = 120
  · rcases (h.2 j hj' hj).2 e with e2 | e2 <;> rw [e2] <;> rfl
  · rw [(h.2 j hj' hj).1 e]
    simp only [isTrit, Bool.or_eq_true, beq_iff_eq] at ht
    rcases ht with (e2 | e2) | e2
    · rw [e2]; rfl
    · rw [e2]; rfl
    · exact absurd e2 e

/-- with more that is known no less is known -/
theorem more_known (c : Circ) {a b i : Bs} (h : Cov a b) : Cov (tvals c a i) (tvals c b i) ∧ Cov (tnexts c (tvals c a i)) (tnexts c (tvals c b i)) :=
  ⟨cov_tvals c h (Cov.refl _), cov_tnexts c (cov_tvals c h (Cov.refl _))⟩

theorem nexts_eq (c : Circ) (h : Right c) (st i : Bs) (h1 : ∀ b ∈ st, b = 48 ∨ b = 49) (h2 : ∀ b ∈ i, b = 48 ∨ b = 49) : tnexts c (vals c st i) = nexts c (vals c st i) := by
  have hb := vals_bits c st i h1 h2
  unfold tnexts nexts
  apply List.map_congr_left
  intro x hx
  have hk := h.latNext x hx
  rw [ofT_bit _ _ hb (by
    rw [vals_length]
    have := known_range c h _ hk
    have := h.max0
    unfold varOf
    omega)]
  rfl
end PC
end Go.Proofs.YtlakfaalpijhiaaDoor
