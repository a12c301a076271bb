/- Plain law: each gate's value is the and of its literals; a circuit's clauses have one model. -/
import Derived.Test.YtjcaejdokillgaaPlainT
namespace Go.Proofs.Ytjcaejdokillgaa.PC

theorem tru_even (s : Bs) (l : Int) (h : l % 2 = 0) : tru s l = (s[varOf l]? == some 49) := by
  have : negOf l = false := by simp [negOf]; omega
  simp [tru, this]

theorem tru_congr (s t : Bs) (l : Int) (h : s[varOf l]? = t[varOf l]?) : tru s l = tru t l := by simp [tru, h]

theorem setGats_other : ∀ (l : List Gat) (s : Bs) (x : Nat), (∀ a ∈ l, varOf a.lit ≠ x) → (setGats s l)[x]? = s[x]? := by
  intro l
  induction l with
  | nil => intro s x _; rfl
  | cons a r ih =>
    intro s x h
    simp only [setGats]
    rw [ih _ _ fun b hb => h b (by simp [hb])]
    split
    · rw [List.getElem?_set_ne (h a (by simp))]
    · rfl

theorem rising_lt : ∀ (r : List Gat) (p : Int), rising (some p) r = true → ∀ b ∈ r, p < b.lit := by
  intro r
  induction r with
  | nil => intro p _ b hb; cases hb
  | cons a r ih =>
    intro p h b hb
    simp only [rising, Bool.and_eq_true, decide_eq_true_eq] at h
    rcases List.mem_cons.1 hb with rfl | hb
    · exact h.1
    · have := ih a.lit h.2 b hb; omega

theorem setGats_gate : ∀ (l : List Gat) (s : Bs) (p : Option Int), rising p l = true →
    (∀ a ∈ l, 2 ≤ a.lit ∧ a.lit % 2 = 0 ∧ a.left < a.lit ∧ a.right < a.lit ∧ 0 ≤ a.left ∧ 0 ≤ a.right ∧ varOf a.lit < s.length ∧ s[varOf a.lit]? = some 48) →
    ∀ a ∈ l, tru (setGats s l) a.lit = (tru (setGats s l) a.left && tru (setGats s l) a.right) := by
  intro l
  induction l with
  | nil => intro s p _ _ a ha; cases ha
  | cons g r ih =>
    intro s p hr h a ha
    have hr' : rising (some g.lit) r = true := by
      cases p with
      | none => exact hr
      | some q => simp only [rising, Bool.and_eq_true] at hr; exact hr.2
    have hlt := rising_lt r g.lit hr'
    obtain ⟨g1, g2, g3, g4, g5, g6, g7, g8⟩ := h g (by simp)
    simp only [setGats]
    generalize hs : (if tru s g.left && tru s g.right then s.set (varOf g.lit) 49 else s) = s'
    have hother : ∀ x, x ≠ varOf g.lit → s'[x]? = s[x]? := by
      intro x hx
      rw [← hs]
      split
      · rw [List.getElem?_set_ne (Ne.symm hx)]
      · rfl
    have hlen : s'.length = s.length := by rw [← hs]; split <;> simp
    have hrest : ∀ b ∈ r, 2 ≤ b.lit ∧ b.lit % 2 = 0 ∧ b.left < b.lit ∧ b.right < b.lit ∧ 0 ≤ b.left ∧ 0 ≤ b.right ∧ varOf b.lit < s'.length ∧ s'[varOf b.lit]? = some 48 := by
      intro b hb
      obtain ⟨b1, b2, b3, b4, b5, b6, b7, b8⟩ := h b (by simp [hb])
      have := hlt b hb
      refine ⟨b1, b2, b3, b4, b5, b6, by omega, ?_⟩
      rw [hother _ (by unfold varOf; omega)]
      exact b8
    rcases List.mem_cons.1 ha with rfl | ha
    · have hfar : ∀ x, x ≤ varOf a.lit → (setGats s' r)[x]? = s'[x]? := by
        intro x hx
        refine setGats_other r s' x fun b hb => ?_
        have := hlt b hb
        have hb2 := (hrest b hb).2.1
        unfold varOf at *; omega
      have el : tru (setGats s' r) a.left = tru s a.left := by
        refine tru_congr _ _ _ ?_
        rw [hfar _ (by unfold varOf; omega), hother _ (by unfold varOf; omega)]
      have er : tru (setGats s' r) a.right = tru s a.right := by
        refine tru_congr _ _ _ ?_
        rw [hfar _ (by unfold varOf; omega), hother _ (by unfold varOf; omega)]
      rw [el, er, tru_even _ _ g2, hfar _ (Nat.le_refl _), ← hs]
      cases hc : (tru s a.left && tru s a.right) with
      | true => simp [g7]
      | false => simp [g8]
    · exact ih s' _ hr' hrest a ha

theorem setAll_other : ∀ (l : List (Int × UInt8)) (s : Bs) (x : Nat), (∀ p ∈ l, varOf p.1 ≠ x) → (setAll s l)[x]? = s[x]? := by
  intro l
  induction l with
  | nil => intro s x _; rfl
  | cons p r ih =>
    intro s x h
    obtain ⟨d, b⟩ := p
    simp only [setAll]
    rw [ih _ _ fun q hq => h q (by simp [hq]), List.getElem?_set_ne (h (d, b) (by simp))]

theorem start_other (c : Circ) (st i : Bs) (x : Nat) (hx : x < c.max.toNat + 1) (h1 : ∀ d ∈ c.inputs, varOf d ≠ x) (h2 : ∀ y ∈ c.latches, varOf y.lit ≠ x) : (start c st i)[x]? = some 48 := by
  unfold start
  rw [setAll_other _ _ _ fun p hp => by
    have := (List.of_mem_zip hp).1
    obtain ⟨y, hy, e⟩ := List.mem_map.1 this
    rw [← e]; exact h2 y hy]
  rw [setAll_other _ _ _ fun p hp => h1 _ (List.of_mem_zip hp).1]
  simp [hx]

theorem varOf_inj (a b : Int) (ha : 2 ≤ a ∧ a % 2 = 0) (hb : 2 ≤ b ∧ b % 2 = 0) (h : varOf a = varOf b) : a = b := by
  unfold varOf at h; omega

/-- the gates' variables are no input's and no latch's -/
theorem gate_apart (c : Circ) (h : Right c) (a : Gat) (ha : a ∈ c.ands) : (∀ d ∈ c.inputs, varOf d ≠ varOf a.lit) ∧ (∀ y ∈ c.latches, varOf y.lit ≠ varOf a.lit) := by
  have hnd := h.nodup
  unfold Circ.defs at hnd
  rw [List.nodup_append] at hnd
  have hd : ∀ d ∈ c.inputs ++ c.latches.map (·.lit), d ≠ a.lit := fun d hd => hnd.2.2 d hd a.lit (List.mem_map.2 ⟨a, ha, rfl⟩)
  have hr : ∀ d ∈ c.defs, 2 ≤ d ∧ d % 2 = 0 := fun d hd => ⟨(h.defs d hd).1, (h.defs d hd).2.1⟩
  have hg : a.lit ∈ c.defs := by unfold Circ.defs; simp only [List.mem_append, List.mem_map]; exact Or.inr ⟨a, ha, rfl⟩
  constructor
  · intro d hdm e
    refine hd d (by simp [hdm]) (varOf_inj _ _ (hr d ?_) (hr _ hg) e)
    unfold Circ.defs; simp [hdm]
  · intro y hy e
    refine hd y.lit (by simp only [List.mem_append, List.mem_map]; exact Or.inr ⟨y, hy, rfl⟩) (varOf_inj _ _ (hr y.lit ?_) (hr _ hg) e)
    unfold Circ.defs; simp only [List.mem_append, List.mem_map]; exact Or.inl (Or.inr ⟨y, hy, rfl⟩)

theorem def_lt (c : Circ) (h : Right c) (d : Int) (hd : d ∈ c.defs) : varOf d < c.max.toNat + 1 := by
  have := h.defs d hd
  unfold varOf; omega

theorem mem_defs_gat (c : Circ) (a : Gat) (ha : a ∈ c.ands) : a.lit ∈ c.defs := by
  unfold Circ.defs; simp only [List.mem_append, List.mem_map]; exact Or.inr ⟨a, ha, rfl⟩
theorem mem_defs_lat (c : Circ) (x : Lat) (hx : x ∈ c.latches) : x.lit ∈ c.defs := by
  unfold Circ.defs; simp only [List.mem_append, List.mem_map]; exact Or.inl (Or.inr ⟨x, hx, rfl⟩)
theorem mem_defs_in (c : Circ) (l : Int) (hl : l ∈ c.inputs) : l ∈ c.defs := by
  unfold Circ.defs; simp [hl]

/-- P7: each and is the and of its literals -/
theorem vals_gate (c : Circ) (h : Right c) (st i : Bs) (a : Gat) (ha : a ∈ c.ands) : tru (vals c st i) a.lit = (tru (vals c st i) a.left && tru (vals c st i) a.right) := by
  refine setGats_gate c.ands (start c st i) none h.rise (fun b hb => ?_) a ha
  have hd := h.defs b.lit (mem_defs_gat c b hb)
  obtain ⟨h1, h2, h3, h4⟩ := h.gats b hb
  obtain ⟨k1, _⟩ := known_range c h _ h3
  obtain ⟨k2, _⟩ := known_range c h _ h4
  obtain ⟨q1, q2⟩ := gate_apart c h b hb
  have hlt := def_lt c h b.lit (mem_defs_gat c b hb)
  exact ⟨hd.1, hd.2.1, h1, h2, k1, k2, by rw [start_length]; exact hlt, start_other c st i _ hlt q1 q2⟩

/-- a variable that nothing defines is 0 -/
theorem vals_undef (c : Circ) (st i : Bs) (x : Nat) (hx : x < c.max.toNat + 1) (hd : ∀ d ∈ c.defs, varOf d ≠ x) : (vals c st i)[x]? = some 48 := by
  unfold vals
  rw [setGats_other _ _ _ fun a ha => hd _ (mem_defs_gat c a ha)]
  exact start_other c st i x hx (fun d hm => hd d (mem_defs_in c d hm)) (fun y hy => hd _ (mem_defs_lat c y hy))

theorem setAll_bits : ∀ (l : List (Int × UInt8)) (s : Bs), (∀ b ∈ s, b = 48 ∨ b = 49) → (∀ p ∈ l, p.2 = 48 ∨ p.2 = 49) → ∀ b ∈ setAll s l, b = 48 ∨ b = 49 := by
  intro l
  induction l with
  | nil => intro s h _; exact h
  | cons p r ih =>
    intro s h hp
    obtain ⟨d, b⟩ := p
    refine ih _ (fun x hx => ?_) (fun q hq => hp q (by simp [hq]))
    rcases List.mem_or_eq_of_mem_set hx with hx | rfl
    · exact h x hx
    · exact hp (d, x) (by simp)

theorem setGats_bits : ∀ (l : List Gat) (s : Bs), (∀ b ∈ s, b = 48 ∨ b = 49) → ∀ b ∈ setGats s l, b = 48 ∨ b = 49 := by
  intro l
  induction l with
  | nil => intro s h; exact h
  | cons a r ih =>
    intro s h
    refine ih _ fun x hx => ?_
    split at hx
    · rcases List.mem_or_eq_of_mem_set hx with hx | rfl
      · exact h x hx
      · exact Or.inr rfl
    · exact h x hx

theorem vals_bits (c : Circ) (st i : Bs) (h1 : ∀ b ∈ st, b = 48 ∨ b = 49) (h2 : ∀ b ∈ i, b = 48 ∨ b = 49) : ∀ b ∈ vals c st i, b = 48 ∨ b = 49 := by
  refine setGats_bits _ _ (setAll_bits _ _ (setAll_bits _ _ (fun b hb => Or.inl (List.eq_of_mem_replicate hb)) fun p hp => h2 _ (List.of_mem_zip hp).2) fun p hp => h1 _ (List.of_mem_zip hp).2)

theorem bitsOk_mem {s : Bs} {n : Nat} (h : bitsOk s n = true) : (∀ b ∈ s, b = 48 ∨ b = 49) ∧ s.length = n := by
  simp only [bitsOk, Bool.and_eq_true, List.all_eq_true, Bool.or_eq_true, beq_iff_eq, decide_eq_true_eq] at h
  exact h

/-! ### the clauses -/
def isDef (c : Circ) (v : Nat) : Bool := c.defs.any fun d => varOf d == v

def gateClauses (b : Int) (a : Gat) : List (List Int) := [[-litT b a.lit, litT b a.left], [-litT b a.lit, litT b a.right], [litT b a.lit, -litT b a.left, -litT b a.right]]

def gatesT (c : Circ) (b : Int) : List (List Int) :=
  ((List.range (c.max.toNat + 1)).filter fun v => !isDef c v).map (fun (v : Nat) => [-(b + (v : Int) + 1)]) ++ c.ands.flatMap (gateClauses b)

theorem isM_neg (m : Bs) (x : Int) (h1 : 1 ≤ max x (-x)) (h2 : max x (-x) ≤ m.length) : isM m (-x) = !isM m x := by
  unfold isM
  have e : max (-x) (- -x) = max x (-x) := by omega
  rw [e]
  have d1 : decide (1 ≤ max x (-x)) = true := by simpa using h1
  have d2 : decide (max x (-x) ≤ (m.length : Int)) = true := by simpa using h2
  rw [d1, d2]
  have d3 : decide (0 < -x) = !decide (0 < x) := by
    by_cases h : 0 < x
    · rw [decide_eq_true h, decide_eq_false (show ¬ 0 < -x by omega)]; rfl
    · rw [decide_eq_false h, decide_eq_true (show 0 < -x by omega)]; rfl
  rw [d3]
  cases (m[(max x (-x)).toNat - 1]? == some 49) <;> cases decide (0 < x) <;> rfl

theorem litT_abs (l : Int) (h0 : 0 ≤ l) (h1 : l ≤ 4097) : max (litT 0 l) (-litT 0 l) = l / 2 + 1 := by
  unfold litT
  have hm : min (max l 0) 4097 = l := by omega
  rw [hm]
  split <;> omega

theorem isM_unit (w : Bs) (v : Nat) (hv : v < w.length) : isM w (-(0 + (v : Int) + 1)) = !(w[v]? == some 49) := by
  have h := isM_neg w (0 + (v : Int) + 1) (by omega) (by omega)
  rw [h]
  congr 1
  unfold isM
  have e : max (0 + (v : Int) + 1) (-(0 + (v : Int) + 1)) = v + 1 := by omega
  rw [e]
  have d1 : decide (1 ≤ (v : Int) + 1) = true := decide_eq_true (by omega)
  have d2 : decide ((v : Int) + 1 ≤ (w.length : Int)) = true := decide_eq_true (by omega)
  have d3 : decide (0 < 0 + (v : Int) + 1) = true := decide_eq_true (by omega)
  rw [d1, d2, d3, show ((v : Int) + 1).toNat - 1 = v from by omega]
  cases (w[v]? == some 49) <;> rfl

theorem gate_clauses (c : Circ) (h : Right c) (w : Bs) (hw : w.length = c.max.toNat + 1) (a : Gat) (ha : a ∈ c.ands) :
    (gateClauses 0 a).all (one w) = (tru w a.lit == (tru w a.left && tru w a.right)) := by
  have hm := h.max1
  have h0 := h.max0
  have hd := h.defs a.lit (mem_defs_gat c a ha)
  obtain ⟨_, _, h3, h4⟩ := h.gats a ha
  have k1 := known_range c h _ h3
  have k2 := known_range c h _ h4
  have key : ∀ l : Int, 0 ≤ l → l ≤ 2 * c.max + 1 → isM w (litT 0 l) = tru w l ∧ isM w (-litT 0 l) = !tru w l := by
    intro l g0 g1
    have e := isM_lit w l g0 (by omega) (by rw [hw]; unfold varOf; omega)
    refine ⟨e, ?_⟩
    rw [isM_neg _ _ (by rw [litT_abs l g0 (by omega)]; omega) (by rw [litT_abs l g0 (by omega)]; omega), e]
  have eg := key a.lit (by omega) (by omega)
  have el := key a.left k1.1 k1.2
  have er := key a.right k2.1 k2.2
  simp only [gateClauses, List.all_cons, List.all_nil, Bool.and_true, one, List.any_cons, List.any_nil, Bool.or_false, eg.1, eg.2, el.1, el.2, er.1, er.2]
  cases tru w a.lit <;> cases tru w a.left <;> cases tru w a.right <;> rfl

theorem gatesT_iff (c : Circ) (h : Right c) (w : Bs) (hw : w.length = c.max.toNat + 1) :
    (gatesT c 0).all (one w) = true ↔ (∀ v, v < c.max.toNat + 1 → isDef c v = false → w[v]? ≠ some 49) ∧ ∀ a ∈ c.ands, tru w a.lit = (tru w a.left && tru w a.right) := by
  unfold gatesT
  rw [List.all_append, Bool.and_eq_true, List.all_eq_true, List.all_eq_true]
  constructor
  · rintro ⟨h1, h2⟩
    refine ⟨fun v hv hd => ?_, fun a ha => ?_⟩
    · have := h1 [-(0 + (v : Int) + 1)] (List.mem_map.2 ⟨v, List.mem_filter.2 ⟨List.mem_range.2 hv, by simp [hd]⟩, rfl⟩)
      simp only [one, List.any_cons, List.any_nil, Bool.or_false, isM_unit w v (by omega)] at this
      simpa using this
    · have : (gateClauses 0 a).all (one w) = true := List.all_eq_true.2 fun cl hcl => h2 cl (List.mem_flatMap.2 ⟨a, ha, hcl⟩)
      rw [gate_clauses c h w hw a ha] at this
      simpa using this
  · rintro ⟨h1, h2⟩
    refine ⟨fun cl hcl => ?_, fun cl hcl => ?_⟩
    · obtain ⟨v, hv, rfl⟩ := List.mem_map.1 hcl
      obtain ⟨hv1, hv2⟩ := List.mem_filter.1 hv
      have hv3 := List.mem_range.1 hv1
      simp only [one, List.any_cons, List.any_nil, Bool.or_false, isM_unit w v (by omega)]
      have := h1 v hv3 (by simpa using hv2)
      simpa using this
    · obtain ⟨a, ha, hcl'⟩ := List.mem_flatMap.1 hcl
      have : (gateClauses 0 a).all (one w) = true := by rw [gate_clauses c h w hw a ha, h2 a ha]; simp
      exact List.all_eq_true.1 this cl hcl'

/-- the values make the clauses true -/
theorem vals_models (c : Circ) (h : Right c) (st i : Bs) : (gatesT c 0).all (one (vals c st i)) = true := by
  rw [gatesT_iff c h _ (vals_length c st i)]
  refine ⟨fun v hv hd => ?_, fun a ha => vals_gate c h st i a ha⟩
  rw [vals_undef c st i v hv fun d hm e => by
    have : isDef c v = true := List.any_eq_true.2 ⟨d, hm, by simpa using e⟩
    rw [hd] at this; cases this]
  simp

theorem bit_eq {b b' : UInt8} (h : b = 48 ∨ b = 49) (h' : b' = 48 ∨ b' = 49) (e : (b == 49) = (b' == 49)) : b = b' := by
  rcases h with rfl | rfl <;> rcases h' with rfl | rfl <;> first | rfl | (simp at e)

/-- nothing else with the same inputs and latches does -/
theorem models_unique (c : Circ) (h : Right c) (w v : Bs) (hw : w.length = c.max.toNat + 1) (hv : v.length = c.max.toNat + 1) (bw : ∀ b ∈ w, b = 48 ∨ b = 49) (bv : ∀ b ∈ v, b = 48 ∨ b = 49)
    (hd : ∀ d, d ∈ c.inputs ∨ d ∈ c.latches.map (·.lit) → w[varOf d]? = v[varOf d]?) (h1 : (gatesT c 0).all (one w) = true) (h2 : (gatesT c 0).all (one v) = true) : w = v := by
  rw [gatesT_iff c h w hw] at h1
  rw [gatesT_iff c h v hv] at h2
  have key : ∀ n : Nat, n < c.max.toNat + 1 → w[n]? = v[n]? := by
    intro n
    induction n using Nat.strongRecOn with
    | _ n ih =>
      intro hn
      have gw : w[n]? = some w[n] := List.getElem?_eq_getElem (by omega)
      have gv : v[n]? = some v[n] := List.getElem?_eq_getElem (by omega)
      have mw := bw w[n] (List.getElem_mem _)
      have mv := bv v[n] (List.getElem_mem _)
      cases hdn : isDef c n with
      | false =>
        have e1 := h1.1 n hn hdn
        have e2 := h2.1 n hn hdn
        rw [gw] at e1
        rw [gv] at e2
        rw [gw, gv]
        simp only [ne_eq, Option.some.injEq] at e1 e2
        rcases mw with mw | mw
        · rcases mv with mv | mv
          · rw [mw, mv]
          · exact absurd mv e2
        · exact absurd mw e1
      | true =>
        obtain ⟨d, hm, e⟩ := List.any_eq_true.1 hdn
        have e : varOf d = n := by simpa using e
        have hm' := hm
        unfold Circ.defs at hm
        rw [List.mem_append, List.mem_append] at hm
        rcases hm with hm | hm
        · rw [← e]; exact hd d hm
        · obtain ⟨a, ha, rfl⟩ := List.mem_map.1 hm
          have hda := h.defs _ hm'
          obtain ⟨l1, l2, l3, l4⟩ := h.gats a ha
          have k1 := known_range c h _ l3
          have k2 := known_range c h _ l4
          have el : tru w a.left = tru v a.left := tru_congr _ _ _ (ih _ (by unfold varOf at *; omega) (by unfold varOf at *; omega))
          have er : tru w a.right = tru v a.right := tru_congr _ _ _ (ih _ (by unfold varOf at *; omega) (by unfold varOf at *; omega))
          have q1 := h1.2 a ha
          have q2 := h2.2 a ha
          rw [el, er, ← q2, tru_even _ _ hda.2.1, tru_even _ _ hda.2.1, e, gw, gv] at q1
          rw [gw, gv]
          congr 1
          exact bit_eq mw mv (by simpa using q1)
  refine List.ext_getElem? fun n => ?_
  by_cases hn : n < c.max.toNat + 1
  · exact key n hn
  · rw [List.getElem?_eq_none (by omega), List.getElem?_eq_none (by omega)]

end Go.Proofs.Ytjcaejdokillgaa.PC
