/- Plain: what a literal is hangs on its cone alone. -/
import Derived.Test.YtpkaoabpifeigaaGreatDoorPlainU
namespace Go.Proofs.YtpkaoabpifeigaaGreatDoor
namespace PC

/-- a list of variables with what each gate of them needs -/
def Closed (c : Circ) (L : List Int) : Prop := ∀ a ∈ c.ands, (varOf a.lit : Int) ∈ L → (varOf a.left ≠ 0 → (varOf a.left : Int) ∈ L) ∧ (varOf a.right ≠ 0 → (varOf a.right : Int) ∈ L)

theorem vals_zero (c : Circ) (h : Right c) (st i : Bs) : (vals c st i)[0]? = some 48 :=
  vals_undef c st i 0 (by omega) fun d hd e => by
    have := (h.defs d hd).1
    unfold varOf at e
    omega

theorem cone_law (c : Circ) (h : Right c) (st a b : Bs) (L : List Int) (hL : Closed c L) (hs : bitsOk st c.latches.length = true) (ha : bitsOk a c.inputs.length = true) (hb : bitsOk b c.inputs.length = true)
    (hin : ∀ k (hk : k < c.inputs.length), (varOf c.inputs[k] : Int) ∈ L → a[k]? = b[k]?) : ∀ x : Nat, (x : Int) ∈ L ∨ x = 0 → (vals c st a)[x]? = (vals c st b)[x]? := by
  have hsm := bitsOk_mem hs
  have ham := bitsOk_mem ha
  have hbm := bitsOk_mem hb
  intro x
  induction x using Nat.strongRecOn with
  | _ x ih =>
    intro hx
    by_cases hx0 : x = 0
    · subst hx0
      rw [vals_zero c h, vals_zero c h]
    have hxL : (x : Int) ∈ L := by
      rcases hx with hx | hx
      · exact hx
      · exact absurd hx hx0
    by_cases hlt : x < c.max.toNat + 1
    · by_cases hd : ∃ d ∈ c.defs, varOf d = x
      · obtain ⟨d, hd, rfl⟩ := hd
        have hdd := h.defs d hd
        unfold Circ.defs at hd
        rcases List.mem_append.1 hd with hd | hd
        · rcases List.mem_append.1 hd with hd | hd
          · obtain ⟨k, hk, rfl⟩ := List.getElem_of_mem hd
            rw [vals_in c h st a ham.2 k hk, vals_in c h st b hbm.2 k hk]
            exact hin k hk hxL
          · obtain ⟨y, hy, rfl⟩ := List.mem_map.1 hd
            obtain ⟨k, hk, rfl⟩ := List.getElem_of_mem hy
            rw [vals_lat c h st a hsm.2 k hk, vals_lat c h st b hsm.2 k hk]
        · obtain ⟨g, hg, rfl⟩ := List.mem_map.1 hd
          have hcl := hL g hg hxL
          have hgt := h.gats g hg
          have hl : varOf g.left < varOf g.lit := by unfold varOf; omega
          have hr : varOf g.right < varOf g.lit := by unfold varOf; omega
          have el : (vals c st a)[varOf g.left]? = (vals c st b)[varOf g.left]? := ih _ hl (by
            by_cases e : varOf g.left = 0
            · exact Or.inr e
            · exact Or.inl (hcl.1 e))
          have er : (vals c st a)[varOf g.right]? = (vals c st b)[varOf g.right]? := ih _ hr (by
            by_cases e : varOf g.right = 0
            · exact Or.inr e
            · exact Or.inl (hcl.2 e))
          have hv : tru (vals c st a) g.lit = tru (vals c st b) g.lit := by
            rw [vals_gate c h st a g hg, vals_gate c h st b g hg, tru_congr _ _ _ el, tru_congr _ _ _ er]
          rw [tru_even _ _ hdd.2.1, tru_even _ _ hdd.2.1] at hv
          have hla : varOf g.lit < (vals c st a).length := by rw [vals_length]; exact hlt
          have hlb : varOf g.lit < (vals c st b).length := by rw [vals_length]; exact hlt
          rw [List.getElem?_eq_getElem hla, List.getElem?_eq_getElem hlb] at hv ⊢
          have ba := vals_bits c st a hsm.1 ham.1 _ (List.getElem_mem hla)
          have bb := vals_bits c st b hsm.1 hbm.1 _ (List.getElem_mem hlb)
          congr 1
          rcases ba with e1 | e1 <;> rcases bb with e2 | e2 <;> rw [e1, e2] at hv ⊢ <;> first | rfl | (simp at hv)
      · have hd' : ∀ d ∈ c.defs, varOf d ≠ x := fun d hdm e => hd ⟨d, hdm, e⟩
        rw [vals_undef c st a x hlt hd', vals_undef c st b x hlt hd']
    · rw [List.getElem?_eq_none (by rw [vals_length]; omega), List.getElem?_eq_none (by rw [vals_length]; omega)]

theorem cone_tru (c : Circ) (h : Right c) (st a b : Bs) (L : List Int) (hL : Closed c L) (hs : bitsOk st c.latches.length = true) (ha : bitsOk a c.inputs.length = true) (hb : bitsOk b c.inputs.length = true)
    (hin : ∀ k (hk : k < c.inputs.length), (varOf c.inputs[k] : Int) ∈ L → a[k]? = b[k]?) (l : Int) (hl : varOf l ≠ 0 → (varOf l : Int) ∈ L) : tru (vals c st a) l = tru (vals c st b) l :=
  tru_congr _ _ _ (cone_law c h st a b L hL hs ha hb hin _ (by
    by_cases e : varOf l = 0
    · exact Or.inr e
    · exact Or.inl (hl e)))

theorem tw_at (p : Int → Bool) : ∀ (l : List Int) (k : Nat), k ≤ l.length → (∀ j (_ : j < k) (h : j < l.length), p l[j] = true) → (∀ h : k < l.length, p l[k] = false) → l.takeWhile p = l.take k ∧ l.dropWhile p = l.drop k
  | [], k, hk, _, _ => by
    have : k = 0 := by simpa using hk
    subst this; simp
  | x :: r, 0, _, _, he => by
    have hx : p x = false := he (by simp)
    simp [hx]
  | x :: r, k + 1, hk, h, he => by
    have hx : p x = true := h 0 (by omega) (by simp)
    have ih := tw_at p r k (by simpa using hk) (fun j hj hl => h (j + 1) (by omega) (by simpa using hl)) (fun hl => he (by simpa using hl))
    simp [hx, ih.1, ih.2]

/-- a number put into a list that rises -/
def put (l : List Int) (n : Int) : List Int :=
  l.takeWhile (fun x => decide (x < n)) ++ n :: (match l.dropWhile (fun x => decide (x < n)) with
    | [] => []
    | x :: r => if x = n then r else x :: r)

/-- where the search ends -/
theorem put_at (l : List Int) (n : Int) (k : Nat) (hk : k ≤ l.length) (h : ∀ j (hj : j < k), l[j]'(by omega) < n) (he : ∀ (h : k < l.length), ¬ l[k] < n) :
    put l n = l.take k ++ n :: (if h : k < l.length then (if l[k] = n then l.drop (k + 1) else l.drop k) else []) := by
  have ht := tw_at (fun x => decide (x < n)) l k hk (fun j hj _ => decide_eq_true (h j hj)) (fun hl => decide_eq_false (he hl))
  unfold put
  rw [ht.1, ht.2]
  by_cases hlt : k < l.length
  · rw [dif_pos hlt, List.drop_eq_getElem_cons hlt]
  · rw [dif_neg hlt, List.drop_eq_nil_of_le (by omega)]

theorem mem_put (l : List Int) (n x : Int) : x ∈ put l n ↔ x ∈ l ∨ x = n := by
  have e := List.takeWhile_append_dropWhile (p := fun x => decide (x < n)) (l := l)
  unfold put
  cases hd : l.dropWhile (fun x => decide (x < n)) with
  | nil =>
    rw [hd, List.append_nil] at e
    rw [e]; simp
  | cons y r =>
    rw [hd] at e
    have hm : x ∈ l ↔ x ∈ l.takeWhile (fun x => decide (x < n)) ∨ x = y ∨ x ∈ r := by
      conv => lhs; rw [← e]
      simp
    rw [hm]
    by_cases hy : y = n
    · subst hy; simp [or_assoc, or_comm]
    · simp only [if_neg hy, List.mem_append, List.mem_cons]
      constructor
      · rintro (h | h | h)
        · exact Or.inl (Or.inl h)
        · exact Or.inr h
        · exact Or.inl (Or.inr h)
      · rintro ((h | h) | h)
        · exact Or.inl h
        · exact Or.inr (Or.inr h)
        · exact Or.inr (Or.inl h)

theorem put_len (l : List Int) (n : Int) : l.length ≤ (put l n).length ∧ (put l n).length ≤ l.length + 1 := by
  have e := congrArg List.length (List.takeWhile_append_dropWhile (p := fun x => decide (x < n)) (l := l))
  rw [List.length_append] at e
  unfold put
  cases hd : l.dropWhile (fun x => decide (x < n)) with
  | nil => rw [hd] at e; simp at e ⊢; omega
  | cons y r =>
    rw [hd] at e
    by_cases hy : y = n
    · simp [hy] at e ⊢; omega
    · simp [hy] at e ⊢; omega

theorem tw_mem (p : Int → Bool) : ∀ (l : List Int), ∀ x ∈ l.takeWhile p, p x = true
  | [], x, hx => by simp at hx
  | y :: r, x, hx => by
    rw [List.takeWhile_cons] at hx
    cases hy : p y with
    | true =>
      rw [hy] at hx
      rcases List.mem_cons.1 (by simpa using hx : x ∈ y :: r.takeWhile p) with e | e
      · rw [e]; exact hy
      · exact tw_mem p r x e
    | false => rw [hy] at hx; simp at hx

theorem dw_head (p : Int → Bool) : ∀ (l : List Int) (y : Int) (r : List Int), l.dropWhile p = y :: r → p y = false
  | [], _, _, h => by simp at h
  | x :: l, y, r, h => by
    rw [List.dropWhile_cons] at h
    cases hx : p x with
    | true => rw [hx] at h; exact dw_head p l y r (by simpa using h)
    | false =>
      rw [hx] at h
      have h' : x :: l = y :: r := by simpa using h
      injection h' with h1 h2
      rw [← h1]; exact hx

/-- a list that rises has no number twice, and stays so -/
def Rising (l : List Int) : Prop := l.Pairwise (· < ·)

theorem put_rising (l : List Int) (n : Int) (h : Rising l) : Rising (put l n) := by
  unfold Rising at *
  have e := List.takeWhile_append_dropWhile (p := fun x => decide (x < n)) (l := l)
  have hlt : ∀ x ∈ l.takeWhile (fun x => decide (x < n)), x < n := fun x hx => by
    have := tw_mem _ l x hx
    simpa using this
  rw [← e, List.pairwise_append] at h
  obtain ⟨h1, h2, h3⟩ := h
  unfold put
  cases hd : l.dropWhile (fun x => decide (x < n)) with
  | nil =>
    rw [List.pairwise_append]
    refine ⟨h1, by simp, fun a ha b hb => ?_⟩
    have : b = n := by simpa using hb
    rw [this]; exact hlt a ha
  | cons y r =>
    rw [hd] at h2 h3
    have hy : ¬ y < n := by
      have := dw_head _ l y r hd
      simpa using this
    rw [List.pairwise_cons] at h2
    by_cases hyn : y = n
    · simp only [if_pos hyn]
      rw [List.pairwise_append, List.pairwise_cons]
      subst hyn
      refine ⟨h1, h2, fun a ha b hb => ?_⟩
      exact h3 a ha b hb
    · simp only [if_neg hyn]
      rw [List.pairwise_append, List.pairwise_cons, List.pairwise_cons]
      refine ⟨h1, ⟨fun b hb => ?_, h2⟩, fun a ha b hb => ?_⟩
      · rcases List.mem_cons.1 hb with e | e
        · subst e; omega
        · have := h2.1 b e; omega
      · rcases List.mem_cons.1 hb with e | e
        · subst e; exact hlt a ha
        · exact h3 a ha b e

/-- a list that rises within bounds is not long -/
theorem rising_len : ∀ (l : List Int) (a b : Int), Rising l → (∀ x ∈ l, a ≤ x ∧ x ≤ b) → (l.length : Int) ≤ max 0 (b - a + 1)
  | [], a, b, _, _ => by simp; omega
  | x :: r, a, b, h, hb => by
    have h' := List.pairwise_cons.1 h
    have hx := hb x (by simp)
    have ih := rising_len r (x + 1) b h'.2 (fun y hy => ⟨by have := h'.1 y hy; omega, (hb y (by simp [hy])).2⟩)
    simp only [List.length_cons]
    omega
/-- a list that does not grow has had the number -/
theorem put_same (l : List Int) (n : Int) (h : (put l n).length = l.length) : n ∈ l := by
  have e := List.takeWhile_append_dropWhile (p := fun x => decide (x < n)) (l := l)
  have e2 := congrArg List.length e
  rw [List.length_append] at e2
  unfold put at h
  cases hd : l.dropWhile (fun x => decide (x < n)) with
  | nil => rw [hd] at h e2; simp at h e2; omega
  | cons y r =>
    rw [hd] at h e2 e
    by_cases hy : y = n
    · rw [← e, hy]; simp
    · simp [hy] at h e2; omega

theorem cone_len : ∀ (l : List Int) (a b v : Int), Rising l → (∀ x ∈ l, x = v ∨ (a ≤ x ∧ x ≤ b)) → (l.length : Int) ≤ max 0 (b - a + 1) + 1
  | [], a, b, v, _, _ => by simp; omega
  | x :: r, a, b, v, h, hb => by
    have h' := List.pairwise_cons.1 h
    have hx := hb x (by simp)
    simp only [List.length_cons]
    by_cases e : x = v
    · have := rising_len r a b h'.2 (fun y hy => by
        have h1 := h'.1 y hy
        rcases hb y (by simp [hy]) with h2 | h2
        · omega
        · exact h2)
      omega
    · have ih := cone_len r (x + 1) b v h'.2 (fun y hy => by
        have h1 := h'.1 y hy
        rcases hb y (by simp [hy]) with h2 | h2
        · exact Or.inl h2
        · exact Or.inr ⟨by omega, h2.2⟩)
      have : a ≤ x ∧ x ≤ b := by
        rcases hx with h2 | h2
        · exact absurd h2 e
        · exact h2
      omega

/-- one gate of Closed -/
def closedAt (a : Gat) (L : List Int) : Prop := (varOf a.lit : Int) ∈ L → (varOf a.left ≠ 0 → (varOf a.left : Int) ∈ L) ∧ (varOf a.right ≠ 0 → (varOf a.right : Int) ∈ L)

/-- what may stand in a cone of v -/
def Okc (v : Int) (L : List Int) : Prop := Rising L ∧ ∀ x ∈ L, x = v ∨ (1 ≤ x ∧ x ≤ 2048)

theorem Okc.len {v : Int} {L : List Int} (h : Okc v L) : L.length ≤ 2049 := by
  have := cone_len L 1 2048 v h.1 h.2
  omega

theorem Okc.put {v : Int} {L : List Int} (h : Okc v L) (n : Int) (hn : 1 ≤ n ∧ n ≤ 2048) : Okc v (PC.put L n) :=
  ⟨put_rising L n h.1, fun x hx => by
    rcases (mem_put L n x).1 hx with h1 | h1
    · exact h.2 x h1
    · exact Or.inr (h1 ▸ hn)⟩

/-- the inner loop's rounds: lists that only grow; if none grew, the gates gone by are closed -/
structure Rnd (c : Circ) (v : Int) (L : List Int) (i : Nat) (L' : List Int) : Prop where
  ok : Okc v L'
  sub : ∀ x ∈ L, x ∈ L'
  len : L.length ≤ L'.length
  cl : L'.length = L.length → ∀ j (_ : j < i) (h : j < c.ands.length), closedAt c.ands[j] L'

theorem Rnd.start (c : Circ) {v : Int} {L : List Int} (h : Okc v L) : Rnd c v L 0 L := ⟨h, fun _ hx => hx, Nat.le_refl _, fun _ _j hj => absurd hj (Nat.not_lt_zero _)⟩

theorem Rnd.skip {c : Circ} {v : Int} {L L' : List Int} {i : Nat} (h : Rnd c v L i L') (hi : i < c.ands.length) (hn : (varOf c.ands[i].lit : Int) ∉ L') : Rnd c v L (i + 1) L' :=
  ⟨h.ok, h.sub, h.len, fun e j hj hl => by
    by_cases e2 : j = i
    · subst e2; exact fun hm => absurd hm hn
    · exact h.cl e j (by omega) hl⟩

/-- a list with a variable put into it, but 0 -/
def put0 (l : List Int) (n : Int) : List Int := if n = 0 then l else put l n

theorem mem_put0 (l : List Int) (n x : Int) : x ∈ put0 l n ↔ x ∈ l ∨ (n ≠ 0 ∧ x = n) := by
  unfold put0
  by_cases h : n = 0
  · simp [h]
  · rw [if_neg h, mem_put]; simp [h]

theorem put0_len (l : List Int) (n : Int) : l.length ≤ (put0 l n).length := by
  unfold put0
  split
  · exact Nat.le_refl _
  · exact (put_len l n).1

theorem put0_same (l : List Int) (n : Int) (h : (put0 l n).length = l.length) (h0 : n ≠ 0) : n ∈ l := by
  unfold put0 at h
  rw [if_neg h0] at h
  exact put_same l n h

theorem Okc.put0 {v : Int} {L : List Int} (h : Okc v L) (n : Int) (hn : n ≤ 2048) (h1 : 0 ≤ n) : Okc v (PC.put0 L n) := by
  unfold PC.put0
  split
  · exact h
  · exact h.put n ⟨by omega, hn⟩

theorem Rnd.next {c : Circ} {v : Int} {L L' : List Int} {i : Nat} (h : Rnd c v L i L') (hi : i < c.ands.length) (hl : varOf c.ands[i].left ≤ 2048) (hr : varOf c.ands[i].right ≤ 2048) :
    Rnd c v L (i + 1) (put0 (put0 L' (varOf c.ands[i].left)) (varOf c.ands[i].right)) := by
  have l1 := put0_len L' (varOf c.ands[i].left)
  have l2 := put0_len (put0 L' (varOf c.ands[i].left)) (varOf c.ands[i].right)
  refine ⟨(h.ok.put0 _ (by omega) (by omega)).put0 _ (by omega) (by omega), fun x hx => ?_, ?_, fun e j hj hj2 => ?_⟩
  · rw [mem_put0, mem_put0]; exact Or.inl (Or.inl (h.sub x hx))
  · have := h.len; omega
  · have hlen := h.len
    have e1 : (put0 L' (varOf c.ands[i].left)).length = L'.length := by omega
    have e2 : (put0 (put0 L' (varOf c.ands[i].left)) (varOf c.ands[i].right)).length = (put0 L' (varOf c.ands[i].left)).length := by omega
    have m1 := put0_same _ _ e1
    have m2 := put0_same _ _ e2
    by_cases e3 : j = i
    · subst e3
      intro _
      refine ⟨fun h0 => ?_, fun h0 => ?_⟩
      · rw [mem_put0, mem_put0]; exact Or.inl (Or.inr ⟨by omega, rfl⟩)
      · rw [mem_put0]; exact Or.inr ⟨by omega, rfl⟩
    · have hc := h.cl (by omega) j (by omega) hj2
      have hback : ∀ x, x ∈ put0 (put0 L' (varOf c.ands[i].left)) (varOf c.ands[i].right) → x ∈ L' := by
        intro x hx
        have hx1 : x ∈ put0 L' (varOf c.ands[i].left) := by
          rcases (mem_put0 _ _ _).1 hx with h1 | ⟨h1, h2⟩
          · exact h1
          · rw [h2]; exact m2 h1
        rcases (mem_put0 _ _ _).1 hx1 with h1 | ⟨h1, h2⟩
        · exact h1
        · rw [h2]; exact m1 h1
      intro hm
      have := hc (hback _ hm)
      exact ⟨fun h0 => by rw [mem_put0, mem_put0]; exact Or.inl (Or.inl (this.1 h0)), fun h0 => by rw [mem_put0, mem_put0]; exact Or.inl (Or.inl (this.2 h0))⟩
end PC
end Go.Proofs.YtpkaoabpifeigaaGreatDoor
