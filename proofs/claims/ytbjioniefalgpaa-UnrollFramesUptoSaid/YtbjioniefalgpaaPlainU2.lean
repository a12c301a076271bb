/- Plain laws: clauses from another base; frames that are apart. -/
import Derived.Test.YtbjioniefalgpaaPlainU
namespace Go.Proofs.Ytbjioniefalgpaa.PC

/-- a solver's literal, moved -/
def mv (b x : Int) : Int := if x < 0 then x - b else x + b

theorem litT_mv (b l : Int) : litT b l = mv b (litT 0 l) := by
  unfold litT mv
  split <;> split <;> omega

theorem litT_ne (l : Int) : litT 0 l ≠ 0 := by unfold litT; split <;> omega

theorem mv_neg (b x : Int) (h : x ≠ 0) : mv b (-x) = -mv b x := by unfold mv; split <;> split <;> omega

theorem litT_neg_mv (b l : Int) : -litT b l = mv b (-litT 0 l) := by rw [mv_neg _ _ (litT_ne l), litT_mv]

theorem gateClauses_mv (b : Int) (a : Gat) : gateClauses b a = (gateClauses 0 a).map (List.map (mv b)) := by
  simp [gateClauses, litT_mv b, mv_neg _ _ (litT_ne _)]

theorem gatesT_mv (c : Circ) (b : Int) : gatesT c b = (gatesT c 0).map (List.map (mv b)) := by
  unfold gatesT
  rw [List.map_append, List.map_map, List.map_flatMap]
  congr 1
  · refine List.map_congr_left fun v _ => ?_
    simp only [Function.comp, List.map_cons, List.map_nil, mv]
    rw [if_pos (by omega)]
    congr 1; omega
  · congr 1
    funext a
    exact gateClauses_mv b a

theorem force_mv (c : Circ) (assume : List (List Int)) (b : Int) : force c assume b = (force c assume 0).map (List.map (mv b)) := by
  unfold force
  rw [List.map_append, List.map_map, List.map_map]
  congr 1
  · refine List.map_congr_left fun l _ => ?_
    simp only [Function.comp, List.map_cons, List.map_nil, litT_mv b l]
  · refine List.map_congr_left fun a _ => ?_
    simp only [Function.comp, List.map_map]
    exact List.map_congr_left fun l _ => litT_mv b l

theorem isM_mv (p v q : Bs) (x : Int) (h1 : 1 ≤ max x (-x)) (h2 : max x (-x) ≤ v.length) : isM (p ++ (v ++ q)) (mv p.length x) = isM v x := by
  have e : max (mv p.length x) (-mv p.length x) = max x (-x) + p.length := by unfold mv; split <;> omega
  have es : decide (0 < mv p.length x) = decide (0 < x) := by
    apply decide_eq_decide.2
    unfold mv; split <;> omega
  unfold isM
  rw [e, es]
  have d1 : decide (1 ≤ max x (-x) + (p.length : Int)) = true := decide_eq_true (by omega)
  have d2 : decide (max x (-x) + (p.length : Int) ≤ ((p ++ (v ++ q)).length : Int)) = true := decide_eq_true (by simp; omega)
  have d3 : decide (1 ≤ max x (-x)) = true := decide_eq_true h1
  have d4 : decide (max x (-x) ≤ (v.length : Int)) = true := decide_eq_true h2
  rw [d1, d2, d3, d4]
  have ei : (max x (-x) + (p.length : Int)).toNat - 1 = p.length + ((max x (-x)).toNat - 1) := by omega
  rw [ei, List.getElem?_append_right (by omega), List.getElem?_append_left (by omega)]
  simp

theorem one_mv (p v q : Bs) (cl : List Int) (h : ∀ x ∈ cl, 1 ≤ max x (-x) ∧ max x (-x) ≤ v.length) : one (p ++ (v ++ q)) (cl.map (mv p.length)) = one v cl := by
  unfold one
  rw [List.any_map]
  exact any_congr' _ _ _ fun x hx => isM_mv p v q x (h x hx).1 (h x hx).2

theorem all_one_mv (p v q : Bs) (l : List (List Int)) (h : ∀ cl ∈ l, ∀ x ∈ cl, 1 ≤ max x (-x) ∧ max x (-x) ≤ v.length) : (l.map (List.map (mv p.length))).all (one (p ++ (v ++ q))) = l.all (one v) := by
  rw [List.all_map]
  exact all_congr' _ _ _ fun cl hcl => one_mv p v q cl (h cl hcl)

theorem gatesT_range (c : Circ) (h : Right c) : ∀ cl ∈ gatesT c 0, ∀ x ∈ cl, 1 ≤ max x (-x) ∧ max x (-x) ≤ c.max + 1 := by
  have h0 := h.max0
  have h1 := h.max1
  intro cl hcl x hx
  unfold gatesT at hcl
  rw [List.mem_append] at hcl
  rcases hcl with hcl | hcl
  · obtain ⟨v, hv, rfl⟩ := List.mem_map.1 hcl
    have := List.mem_range.1 (List.mem_filter.1 hv).1
    simp only [List.mem_cons, List.mem_nil_iff, or_false] at hx
    omega
  · obtain ⟨a, ha, hcl⟩ := List.mem_flatMap.1 hcl
    have hd := h.defs a.lit (mem_defs_gat c a ha)
    obtain ⟨_, _, h3, h4⟩ := h.gats a ha
    have k1 := known_range c h _ h3
    have k2 := known_range c h _ h4
    have key : ∀ l : Int, 0 ≤ l → l ≤ 2 * c.max + 1 → 1 ≤ max (litT 0 l) (-litT 0 l) ∧ max (litT 0 l) (-litT 0 l) ≤ c.max + 1 := by
      intro l g0 g1
      rw [litT_abs l g0 (by omega)]; omega
    have e1 := key a.lit (by omega) (by omega)
    have e2 := key a.left (by omega) (by omega)
    have e3 := key a.right (by omega) (by omega)
    simp only [gateClauses, List.mem_cons, List.mem_nil_iff, or_false] at hcl
    rcases hcl with rfl | rfl | rfl <;> simp only [List.mem_cons, List.mem_nil_iff, or_false] at hx <;> rcases hx with rfl | hx <;> try omega

theorem lits_range (c : Circ) (h : Right c) (l : Int) (g0 : 0 ≤ l) (g1 : l / 2 ≤ c.max) : 1 ≤ max (litT 0 l) (-litT 0 l) ∧ max (litT 0 l) (-litT 0 l) ≤ c.max + 1 := by
  have h1 := h.max1
  rw [litT_abs l g0 (by omega)]; omega

theorem force_range (c : Circ) (h : Right c) (assume : List (List Int)) (ha : ∀ a ∈ assume, ∀ l ∈ a, 0 ≤ l ∧ l / 2 ≤ c.max) : ∀ cl ∈ force c assume 0, ∀ x ∈ cl, 1 ≤ max x (-x) ∧ max x (-x) ≤ c.max + 1 := by
  intro cl hcl x hx
  unfold force at hcl
  rw [List.mem_append] at hcl
  rcases hcl with hcl | hcl
  · obtain ⟨l, hl, rfl⟩ := List.mem_map.1 hcl
    have := known_range c h l (h.invK l hl)
    simp only [List.mem_cons, List.mem_nil_iff, or_false] at hx
    subst hx
    exact lits_range c h l this.1 (by omega)
  · obtain ⟨a, hm, rfl⟩ := List.mem_map.1 hcl
    obtain ⟨l, hl, rfl⟩ := List.mem_map.1 hx
    exact lits_range c h l (ha a hm l hl).1 (ha a hm l hl).2

/-! ### frames -/
/-- a latch's literal in a frame; 0 where there is none -/
def latchT (c : Circ) (frame n : Int) : Int :=
  if n = 0 ∨ (c.latches.length : Int) < n ∨ n < -(c.latches.length : Int) then 0
  else if n < 0 then -litT (frame * (c.max + 1)) ((c.latches[(max n (-n)).toNat - 1]?.getD default).lit) else litT (frame * (c.max + 1)) ((c.latches[(max n (-n)).toNat - 1]?.getD default).lit)

def frameT (c : Circ) (assume lemmas known : List (List Int)) (frame : Int) : List (List Int) :=
  gatesT c (frame * (c.max + 1)) ++ force c assume (frame * (c.max + 1)) ++ lemmas.map (List.map (litT (frame * (c.max + 1)))) ++ known.map (List.map (latchT c frame))

/-- is a state in clauses over latches? -/
def inT (known : List (List Int)) (st : Bs) : Bool :=
  known.all fun cl => cl.any fun n => decide (1 ≤ max n (-n)) && decide (max n (-n) ≤ st.length) && ((st[(max n (-n)).toNat - 1]? == some 49) == decide (0 < n))

theorem isM_zero (m : Bs) : isM m 0 = false := by simp [isM]

theorem frame_law (c : Circ) (h : Right c) (assume lemmas known : List (List Int)) (ha : ∀ a ∈ assume, ∀ l ∈ a, 0 ≤ l ∧ l / 2 ≤ c.max) (hl : ∀ a ∈ lemmas, ∀ l ∈ a, 0 ≤ l ∧ l / 2 ≤ c.max)
    (frame : Nat) (st i p : Bs) (hs : bitsOk st c.latches.length = true) (hi : bitsOk i c.inputs.length = true) (hp : p.length = frame * (c.max.toNat + 1)) :
    (frameT c assume lemmas known frame).all (one (p ++ vals c st i)) = (allowed c assume (vals c st i) && inT known st && lemmas.all (holds (vals c st i))) := by
  have h0 := h.max0
  have h1 := h.max1
  have hb := bitsOk_mem hs
  have hv := vals_length c st i
  have hbase : (frame : Int) * (c.max + 1) = (p.length : Int) := by rw [hp, Int.natCast_mul]; congr 1; omega
  have hmax : (c.max + 1 : Int) = ((vals c st i).length : Int) := by rw [hv]; omega
  have happ : p ++ vals c st i = p ++ (vals c st i ++ []) := by simp
  unfold frameT
  rw [hbase, gatesT_mv, force_mv, happ, List.all_append, List.all_append, List.all_append, all_one_mv, all_one_mv, vals_models c h, force_law c h assume ha _ hv, Bool.true_and]
  rotate_left
  · intro cl hcl x hx; rw [← hmax]; exact force_range c h assume ha cl hcl x hx
  · intro cl hcl x hx; rw [← hmax]; exact gatesT_range c h cl hcl x hx
  have el : (lemmas.map (List.map (litT p.length))).all (one (p ++ (vals c st i ++ []))) = lemmas.all (holds (vals c st i)) := by
    rw [List.all_map]
    refine all_congr' _ _ _ fun a hm => ?_
    simp only [Function.comp]
    rw [show a.map (litT (p.length : Int)) = (a.map (litT 0)).map (mv p.length) from by rw [List.map_map]; exact List.map_congr_left fun l _ => litT_mv _ l]
    rw [one_mv _ _ _ _ fun x hx => by
      obtain ⟨l, hlm, rfl⟩ := List.mem_map.1 hx
      rw [← hmax]; exact lits_range c h l (hl a hm l hlm).1 (hl a hm l hlm).2]
    simp only [one, holds, List.any_map]
    refine any_congr' _ _ _ fun l hlm => ?_
    have := hl a hm l hlm
    exact isM_lit _ l this.1 (by omega) (by rw [hv]; unfold varOf; omega)
  have ek : (known.map (List.map (latchT c frame))).all (one (p ++ (vals c st i ++ []))) = inT known st := by
    rw [List.all_map]
    unfold inT
    refine all_congr' _ _ _ fun cl _ => ?_
    simp only [Function.comp, one, List.any_map]
    refine any_congr' _ _ _ fun n _ => ?_
    by_cases hn : n = 0 ∨ (c.latches.length : Int) < n ∨ n < -(c.latches.length : Int)
    · have e0 : latchT c frame n = 0 := by unfold latchT; rw [if_pos hn]
      simp only [Function.comp]
      rw [e0, isM_zero]
      symm
      rw [Bool.and_eq_false_iff, Bool.and_eq_false_iff]
      left
      rcases hn with hn | hn | hn
      · left; subst hn; rfl
      · right; exact decide_eq_false (by rw [hb.2]; omega)
      · right; exact decide_eq_false (by rw [hb.2]; omega)
    · have hn1 : 1 ≤ max n (-n) := by omega
      have hn2 : max n (-n) ≤ c.latches.length := by omega
      have hk : (max n (-n)).toNat - 1 < c.latches.length := by omega
      have d1 : decide (1 ≤ max n (-n)) = true := decide_eq_true hn1
      have d2 : decide (max n (-n) ≤ (st.length : Int)) = true := decide_eq_true (by rw [hb.2]; exact hn2)
      rw [d1, d2]
      have hx := List.getElem_mem hk
      generalize hxe : c.latches[(max n (-n)).toNat - 1] = x at hx
      have hd := h.defs _ (mem_defs_lat c x hx)
      have hvl := vals_lat c h st i hb.2 _ hk
      rw [hxe] at hvl
      obtain ⟨e1, e2⟩ := lat_lit c h x hx _ hv
      have hr := lits_range c h x.lit (by omega) (by omega)
      have hr' : 1 ≤ max (-litT 0 x.lit) (- -litT 0 x.lit) ∧ max (-litT 0 x.lit) (- -litT 0 x.lit) ≤ c.max + 1 := by omega
      rw [hmax] at hr hr'
      simp only [Function.comp]
      unfold latchT
      rw [if_neg hn, List.getElem?_eq_getElem hk, hxe, Option.getD_some, hbase]
      by_cases hneg : n < 0
      · rw [if_pos hneg, litT_neg_mv, isM_mv _ _ _ _ hr'.1 hr'.2, e2, hvl, decide_eq_false (show ¬ 0 < n by omega)]
        cases (st[(max n (-n)).toNat - 1]? == some 49) <;> rfl
      · rw [if_neg hneg, litT_mv, isM_mv _ _ _ _ hr.1 hr.2, e1, hvl, decide_eq_true (show 0 < n by omega)]
        cases (st[(max n (-n)).toNat - 1]? == some 49) <;> rfl
  rw [el, ek]
  cases allowed c assume (vals c st i) <;> cases inT known st <;> cases lemmas.all (holds (vals c st i)) <;> rfl

/-! ### apart -/
def apartT (c : Circ) (a b aux : Int) : List (List Int) :=
  ((List.range c.latches.length).flatMap fun (i : Nat) =>
    [[-(aux + i + 1), litT (a * (c.max + 1)) ((c.latches[i]?.getD default).lit), litT (b * (c.max + 1)) ((c.latches[i]?.getD default).lit)],
     [-(aux + i + 1), -litT (a * (c.max + 1)) ((c.latches[i]?.getD default).lit), -litT (b * (c.max + 1)) ((c.latches[i]?.getD default).lit)]])
  ++ [(List.range c.latches.length).map fun (i : Nat) => aux + i + 1]

theorem apartT_length (c : Circ) (a b aux : Int) : (apartT c a b aux).length = 2 * c.latches.length + 1 := by
  unfold apartT
  rw [List.length_append, List.length_flatMap]
  have : ∀ n : Nat, ((List.range n).map fun _ => 2).sum = 2 * n := by
    intro n
    induction n with
    | zero => rfl
    | succ n ih => rw [List.range_succ, List.map_append, List.sum_append, ih]; simp; omega
  simp only [List.length_cons, List.length_nil, this]

/-- where two states are unlike -/
def diffs (a b : Bs) : Bs := (a.zip b).map fun p => if p.1 != p.2 then 49 else 48

theorem isM_pos (m : Bs) (k : Nat) (hk : k < m.length) : isM m ((k : Int) + 1) = (m[k]? == some 49) ∧ isM m (-((k : Int) + 1)) = !(m[k]? == some 49) := by
  have e : isM m ((k : Int) + 1) = (m[k]? == some 49) := by
    unfold isM
    have e : max ((k : Int) + 1) (-((k : Int) + 1)) = k + 1 := by omega
    rw [e, decide_eq_true (show 1 ≤ (k : Int) + 1 by omega), decide_eq_true (show (k : Int) + 1 ≤ (m.length : Int) by omega), decide_eq_true (show 0 < (k : Int) + 1 by omega), show ((k : Int) + 1).toNat - 1 = k from by omega]
    cases (m[k]? == some 49) <;> rfl
  refine ⟨e, ?_⟩
  rw [isM_neg m _ (by omega) (by omega), e]

theorem apart_law (c : Circ) (h : Right c) (a b i : Bs) (ha : bitsOk a c.latches.length = true) (hb : bitsOk b c.latches.length = true) :
    (apartT c 0 1 ((vals c a i).length + (vals c b i).length)).all (one (vals c a i ++ vals c b i ++ diffs a b)) = (a != b) := by
  have h0 := h.max0
  have h1 := h.max1
  have ga := bitsOk_mem ha
  have gb := bitsOk_mem hb
  have hva := vals_length c a i
  have hvb := vals_length c b i
  have hdl : (diffs a b).length = c.latches.length := by simp [diffs, ga.2, gb.2]
  have hmax : ((1 : Int) * (c.max + 1)) = ((vals c a i).length : Int) := by rw [hva]; omega
  generalize hsd : vals c a i ++ vals c b i ++ diffs a b = s
  have hD : ∀ k, k < c.latches.length → s[(vals c a i).length + (vals c b i).length + k]? = (diffs a b)[k]? := by
    intro k hk
    rw [← hsd, List.getElem?_append_right (by simp), List.length_append]
    congr 1; omega
  have hdk : ∀ k (hk : k < c.latches.length), (diffs a b)[k]? = some (if (a[k]'(by omega)) != (b[k]'(by omega)) then 49 else 48) := by
    intro k hk
    unfold diffs
    rw [List.getElem?_map, List.getElem?_eq_getElem (by simp; omega)]
    simp
  have hsl : s.length = (vals c a i).length + (vals c b i).length + c.latches.length := by rw [← hsd]; simp [hdl, Nat.add_assoc]
  -- each latch's literals
  have hlit : ∀ k (hk : k < c.latches.length), isM s (litT 0 c.latches[k].lit) = ((a[k]'(by omega)) == 49) ∧ isM s (-litT 0 c.latches[k].lit) = !((a[k]'(by omega)) == 49) ∧
      isM s (litT (vals c a i).length c.latches[k].lit) = ((b[k]'(by omega)) == 49) ∧ isM s (-litT (vals c a i).length c.latches[k].lit) = !((b[k]'(by omega)) == 49) := by
    intro k hk
    have hx : c.latches[k] ∈ c.latches := List.getElem_mem hk
    have hd := h.defs _ (mem_defs_lat c _ hx)
    have hr := lits_range c h c.latches[k].lit (by omega) (by omega)
    have hr' : 1 ≤ max (-litT 0 c.latches[k].lit) (- -litT 0 c.latches[k].lit) ∧ max (-litT 0 c.latches[k].lit) (- -litT 0 c.latches[k].lit) ≤ c.max + 1 := by omega
    obtain ⟨a1, a2⟩ := lat_lit c h _ hx _ hva
    obtain ⟨b1, b2⟩ := lat_lit c h _ hx _ hvb
    rw [vals_lat c h a i ga.2 k hk, List.getElem?_eq_getElem (by omega)] at a1 a2
    rw [vals_lat c h b i gb.2 k hk, List.getElem?_eq_getElem (by omega)] at b1 b2
    have sA : ∀ x : Int, 1 ≤ max x (-x) → max x (-x) ≤ c.max + 1 → isM s x = isM (vals c a i) x := by
      intro x x1 x2
      have := isM_mv [] (vals c a i) (vals c b i ++ diffs a b) x x1 (by rw [hva]; omega)
      have e0 : mv (([] : Bs).length : Int) x = x := by simp [mv]
      rw [e0] at this
      rw [← hsd, ← this]; simp
    have sB : ∀ x : Int, 1 ≤ max x (-x) → max x (-x) ≤ c.max + 1 → isM s (mv (vals c a i).length x) = isM (vals c b i) x := by
      intro x x1 x2
      rw [← isM_mv (vals c a i) (vals c b i) (diffs a b) x x1 (by rw [hvb]; omega), ← hsd, List.append_assoc]
    refine ⟨?_, ?_, ?_, ?_⟩
    · rw [sA _ hr.1 hr.2, a1]; simp
    · rw [sA _ hr'.1 hr'.2, a2]; simp
    · rw [litT_mv, sB _ hr.1 hr.2, b1]; simp
    · rw [litT_neg_mv, sB _ hr'.1 hr'.2, b2]; simp
  have hda : ∀ k (hk : k < c.latches.length), isM s (((vals c a i).length + (vals c b i).length : Int) + k + 1) = ((a[k]'(by omega)) != (b[k]'(by omega))) ∧
      isM s (-(((vals c a i).length + (vals c b i).length : Int) + k + 1)) = !((a[k]'(by omega)) != (b[k]'(by omega))) := by
    intro k hk
    have := isM_pos s ((vals c a i).length + (vals c b i).length + k) (by omega)
    rw [hD k hk, hdk k hk] at this
    have e : ((((vals c a i).length + (vals c b i).length + k : Nat) : Int) + 1) = ((vals c a i).length + (vals c b i).length : Int) + k + 1 := by omega
    rw [e] at this
    rw [this.1, this.2]
    cases (a[k]'(by omega)) != (b[k]'(by omega)) <;> simp
  unfold apartT
  rw [List.all_append, all_flatMap, hmax, Int.zero_mul]
  have e1 : ((List.range c.latches.length).all fun (k : Nat) => ([[-(((vals c a i).length + (vals c b i).length : Int) + k + 1), litT 0 ((c.latches[k]?.getD default).lit), litT (vals c a i).length ((c.latches[k]?.getD default).lit)],
      [-(((vals c a i).length + (vals c b i).length : Int) + k + 1), -litT 0 ((c.latches[k]?.getD default).lit), -litT (vals c a i).length ((c.latches[k]?.getD default).lit)]]).all (one s)) = true := by
    rw [List.all_eq_true]
    intro k hk
    have hk := List.mem_range.1 hk
    obtain ⟨l1, l2, l3, l4⟩ := hlit k hk
    obtain ⟨d1, d2⟩ := hda k hk
    rw [List.getElem?_eq_getElem hk, Option.getD_some]
    simp only [List.all_cons, List.all_nil, one, List.any_cons, List.any_nil, Bool.or_false, Bool.and_true, l1, l2, l3, l4, d2]
    have ba := ga.1 _ (List.getElem_mem (l := a) (n := k) (by omega))
    have bb := gb.1 _ (List.getElem_mem (l := b) (n := k) (by omega))
    rcases ba with ba | ba <;> rcases bb with bb | bb <;> rw [ba, bb] <;> decide
  rw [e1, Bool.true_and]
  simp only [List.all_cons, List.all_nil, Bool.and_true, one, List.any_map]
  rw [Bool.eq_iff_iff, List.any_eq_true, bne_iff_ne]
  constructor
  · rintro ⟨k, hk, hm⟩ e
    have hk := List.mem_range.1 hk
    simp only [Function.comp, (hda k hk).1] at hm
    subst e
    simp at hm
  · intro hne
    have : ∃ k, ∃ hk : k < c.latches.length, (a[k]'(by omega)) ≠ (b[k]'(by omega)) := by
      refine Classical.byContradiction fun hn => hne ?_
      refine List.ext_getElem (by omega) fun k h1 h2 => ?_
      refine Classical.byContradiction fun hk => hn ⟨k, by omega, hk⟩
    obtain ⟨k, hk, hd⟩ := this
    refine ⟨k, List.mem_range.2 hk, ?_⟩
    simp only [Function.comp, (hda k hk).1, bne_iff_ne]
    exact hd

end Go.Proofs.Ytbjioniefalgpaa.PC
