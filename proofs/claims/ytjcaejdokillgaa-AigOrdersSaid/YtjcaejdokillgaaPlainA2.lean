/- Plain: a circuit put in order is in order, and stays. -/
import Derived.Test.YtjcaejdokillgaaPlainA
namespace Go.Proofs.Ytjcaejdokillgaa.PA
open PC

theorem seqB_iff : ∀ (l : List Int) (v : Int), seqB v l = true ↔ ∀ j (h : j < l.length), l[j] = 2 * (v + j + 1) := by
  intro l
  induction l with
  | nil => intro v; simp [seqB]
  | cons x r ih =>
    intro v
    simp only [seqB, Bool.and_eq_true, decide_eq_true_eq, ih]
    constructor
    · rintro ⟨h1, h2⟩ j hj
      cases j with
      | zero => simpa using h1
      | succ j => have := h2 j (by simpa using hj); simp only [List.getElem_cons_succ]; omega
    · intro h
      refine ⟨by have := h 0 (by simp); simp only [List.getElem_cons_zero] at this; omega, fun j hj => ?_⟩
      have := h (j + 1) (by simpa using hj)
      simp only [List.getElem_cons_succ] at this
      omega

/-- what the program looks at -/
def gapless (c : PC.Circ) : Bool := seqB 0 c.defs && c.ands.all downB && decide (c.max = c.defs.length)

theorem gapless_iff (c : PC.Circ) : gapless c = true ↔ (∀ j (h : j < c.inputs.length), c.inputs[j] = 2 * ((j : Int) + 1)) ∧ (∀ j (h : j < c.latches.length), c.latches[j].lit = 2 * ((c.inputs.length : Int) + j + 1)) ∧
    (∀ j (h : j < c.ands.length), c.ands[j].lit = 2 * ((c.inputs.length : Int) + c.latches.length + j + 1) ∧ c.ands[j].right ≤ c.ands[j].left) ∧ c.max = (c.inputs.length : Int) + c.latches.length + c.ands.length := by
  have hlen : (c.defs.length : Int) = (c.inputs.length : Int) + c.latches.length + c.ands.length := by unfold PC.Circ.defs; simp only [List.length_append, List.length_map]; omega
  simp only [gapless, Bool.and_eq_true, decide_eq_true_eq, seqB_iff, List.all_eq_true, downB, hlen]
  constructor
  · rintro ⟨⟨h1, h2⟩, h3⟩
    refine ⟨fun j h => ?_, fun j h => ?_, fun j h => ⟨?_, h2 _ (List.getElem_mem h)⟩, h3⟩
    · have := h1 j (by omega)
      simp only [PC.Circ.defs] at this
      rw [List.getElem_append_left (by simp only [List.length_append, List.length_map]; omega), List.getElem_append_left h] at this
      omega
    · have := h1 (c.inputs.length + j) (by omega)
      simp only [PC.Circ.defs] at this
      rw [List.getElem_append_left (by simp only [List.length_append, List.length_map]; omega), List.getElem_append_right (by omega)] at this
      simp at this
      omega
    · have := h1 (c.inputs.length + c.latches.length + j) (by omega)
      simp only [PC.Circ.defs] at this
      rw [List.getElem_append_right (by simp only [List.length_append, List.length_map]; omega)] at this
      simp at this
      omega
  · rintro ⟨h1, h2, h3, h4⟩
    refine ⟨⟨fun j h => ?_, fun a ha => ?_⟩, h4⟩
    · simp only [PC.Circ.defs]
      by_cases ha : j < c.inputs.length
      · rw [List.getElem_append_left (by simp only [List.length_append, List.length_map]; omega), List.getElem_append_left ha, h1 j ha]; omega
      · by_cases hb : j < c.inputs.length + c.latches.length
        · rw [List.getElem_append_left (by simp only [List.length_append, List.length_map]; omega), List.getElem_append_right (by omega)]
          have := h2 (j - c.inputs.length) (by omega)
          simp
          omega
        · rw [List.getElem_append_right (by simp only [List.length_append, List.length_map]; omega)]
          have := (h3 (j - (c.inputs.length + c.latches.length)) (by omega)).1
          simp
          omega
    · obtain ⟨j, hj, rfl⟩ := List.getElem_of_mem ha
      exact (h3 j hj).2

theorem ordered_eq (c : PC.Circ) : ordered c = (PC.chk c && gapless c) := rfl

/-- where a variable stands among some; 0: nowhere -/
def place : List Int → Nat → Nat
  | [], _ => 0
  | d :: r, v => if varOf d = v then 1 else match place r v with | 0 => 0 | k + 1 => k + 2

theorem place_at : ∀ (l : List Int) (k : Nat) (hk : k < l.length), (l.map varOf).Nodup → place l (varOf l[k]) = k + 1 := by
  intro l
  induction l with
  | nil => intro k hk; simp at hk
  | cons d r ih =>
    intro k hk hn
    rw [List.map_cons, List.nodup_cons] at hn
    cases k with
    | zero => simp [place]
    | succ k =>
      have hk' : k < r.length := by simpa using hk
      have hne : varOf d ≠ varOf r[k] := fun e => hn.1 (by rw [e]; exact List.mem_map_of_mem (List.getElem_mem hk'))
      simp only [List.getElem_cons_succ, place, if_neg hne, ih k hk' hn.2]

theorem place_none : ∀ (l : List Int) (v : Nat), (∀ d ∈ l, varOf d ≠ v) → place l v = 0 := by
  intro l
  induction l with
  | nil => intro v _; rfl
  | cons d r ih =>
    intro v h
    simp only [place, if_neg (h d (by simp)), ih v fun e he => h e (by simp [he])]

/-- a literal in a circuit put in order -/
def ol (c : Circ) (l : Int) : Int := 2 * (place c.defs (varOf l) : Int) + (if negOf l then 1 else 0)

def orderC (c : Circ) : Circ :=
  ⟨c.defs.length, c.inputs.map (ol c), c.latches.map (fun x => ⟨ol c x.lit, ol c x.next, ol c x.reset⟩), c.outputs.map (ol c), c.bads.map (ol c), c.invars.map (ol c),
    c.ands.map (fun a => ⟨ol c a.lit, max (ol c a.left) (ol c a.right), min (ol c a.left) (ol c a.right)⟩), c.names⟩

theorem order_defs (c : Circ) : (orderC c).defs = c.defs.map (ol c) := by
  unfold Circ.defs orderC
  simp only [List.map_append, List.map_map]
  rfl

theorem defs_vars (c : Circ) (h : Right c) : (c.defs.map varOf).Nodup := varOf_nodup _ (fun d hd => ⟨(h.defs d hd).1, (h.defs d hd).2.1⟩) h.nodup

theorem ol_def (c : Circ) (h : Right c) (k : Nat) (hk : k < c.defs.length) : ol c c.defs[k] = 2 * ((k : Int) + 1) := by
  have hd := h.defs _ (List.getElem_mem hk)
  unfold ol
  rw [place_at _ k hk (defs_vars c h), if_neg (by simp [negOf]; omega)]
  omega

theorem ol_low (c : Circ) (h : Right c) (l : Int) (h0 : 0 ≤ l) (h1 : l < 2) : ol c l = l := by
  unfold ol
  rw [place_none _ _ fun d hd e => by have := (h.defs d hd).1; unfold varOf at e; omega]
  by_cases e : l = 0
  · subst e; simp [negOf]
  · obtain rfl : l = 1 := by omega
    simp [negOf]

theorem ol_half (c : Circ) (l : Int) (h0 : 0 ≤ l) : ol c l / 2 = place c.defs (varOf l) ∧ ol c l % 2 = l % 2 ∧ 0 ≤ ol c l := by
  unfold ol
  by_cases e : l % 2 = 1
  · rw [if_pos (by simp [negOf]; omega)]; omega
  · rw [if_neg (by simp [negOf]; omega)]; omega

/-- a known literal's place -/
theorem ol_known (c : Circ) (h : Right c) (l : Int) (hk : known c l = true) : (l < 2 ∧ ol c l = l ∧ 0 ≤ l) ∨ ∃ k, ∃ hk : k < c.defs.length, varOf c.defs[k] = varOf l ∧ 0 ≤ l ∧ ol c l / 2 = k + 1 := by
  have hr := known_range c h l hk
  simp only [known, Bool.and_eq_true, decide_eq_true_eq, Bool.not_eq_true', kindS_ne, hasVar_iff] at hk
  obtain ⟨h0, h1⟩ := hk
  rcases h1 with h1 | ⟨d, hd, hd0, e⟩
  · exact .inl ⟨by omega, ol_low c h l h0 (by omega), h0⟩
  · obtain ⟨k, hk, rfl⟩ := List.getElem_of_mem hd
    have hv : varOf c.defs[k] = varOf l := by unfold varOf; omega
    refine .inr ⟨k, hk, hv, h0, ?_⟩
    rw [(ol_half c l h0).1, ← hv, place_at _ k hk (defs_vars c h)]
    omega

theorem known_order (c : Circ) (h : Right c) (l : Int) (hk : known c l = true) : known (orderC c) (ol c l) = true := by
  simp only [known, Bool.and_eq_true, decide_eq_true_eq, Bool.not_eq_true', kindS_ne, hasVar_iff]
  rcases ol_known c h l hk with ⟨h1, h2, h3⟩ | ⟨k, hk, _, h0, h2⟩
  · rw [h2]
    exact ⟨h3, .inl (by omega)⟩
  · refine ⟨(ol_half c l h0).2.2, .inr ⟨2 * ((k : Int) + 1), ?_, by omega, by omega⟩⟩
    rw [order_defs, ← ol_def c h k hk]
    exact List.mem_map_of_mem (List.getElem_mem hk)

theorem nodup_le : ∀ (n : Nat) (l : List Nat), l.Nodup → (∀ x ∈ l, x < n) → l.length ≤ n := by
  intro n
  induction n with
  | zero => intro l _ h; cases l with
    | nil => simp
    | cons a r => exact absurd (h a (by simp)) (by omega)
  | succ n ih =>
    intro l hn h
    by_cases hm : n ∈ l
    · have := ih (l.erase n) (hn.erase n) (fun x hx => by
        have h1 := (hn.mem_erase_iff).1 hx
        have := h x h1.2
        have := h1.1
        omega)
      rw [List.length_erase_of_mem hm] at this
      omega
    · have := ih l hn (fun x hx => by
        have := h x hx
        have : x ≠ n := fun e => hm (e ▸ hx)
        omega)
      omega

theorem defs_le (c : Circ) (h : Right c) : (c.defs.length : Int) ≤ c.max := by
  have h0 := h.max0
  have := nodup_le c.max.toNat ((c.defs.map varOf).map (· - 1)) ?_ ?_
  · simp only [List.length_map] at this; omega
  · rw [List.nodup_iff_pairwise_ne, List.pairwise_map]
    refine List.Pairwise.imp_of_mem ?_ (List.nodup_iff_pairwise_ne.1 (defs_vars c h))
    intro a b ha hb hne e
    obtain ⟨x, hx, rfl⟩ := List.mem_map.1 ha
    obtain ⟨y, hy, rfl⟩ := List.mem_map.1 hb
    have := (h.defs x hx).1
    have := (h.defs y hy).1
    unfold varOf at e hne
    omega
  · intro x hx
    obtain ⟨y, hy, rfl⟩ := List.mem_map.1 hx
    obtain ⟨d, hd, rfl⟩ := List.mem_map.1 hy
    have := h.defs d hd
    unfold varOf
    omega

theorem names_same (c d : Circ) (h : ∀ k, count d k = count c k) : ∀ (l : List Nam) (p : Option Nam), namesFrom d p l = namesFrom c p l := by
  have hn : ∀ x, nameOk d x = nameOk c x := fun x => by unfold nameOk; rw [h]
  intro l
  induction l with
  | nil => intro p; cases p <;> rfl
  | cons x r ih => intro p; cases p <;> simp [namesFrom, hn, ih]

theorem gat_index (c : Circ) (k : Nat) (hk : k < c.ands.length) : ∃ hj : c.inputs.length + c.latches.length + k < c.defs.length, c.defs[c.inputs.length + c.latches.length + k] = c.ands[k].lit := by
  have hlen : c.defs.length = c.inputs.length + c.latches.length + c.ands.length := by unfold Circ.defs; simp only [List.length_append, List.length_map]
  refine ⟨by omega, ?_⟩
  simp only [Circ.defs]
  rw [List.getElem_append_right (by simp only [List.length_append, List.length_map]; omega)]
  simp

theorem gat_before (c : Circ) (h : Right c) (k : Nat) (hk : k < c.ands.length) (l : Int) (hl : known c l = true) (hlt : l < c.ands[k].lit) : ol c l < 2 * (((c.inputs.length + c.latches.length + k : Nat) : Int) + 1) := by
  rcases ol_known c h l hl with ⟨h1, h2, h3⟩ | ⟨j, hj, hv, h0, h2⟩
  · omega
  · have hjk : j < c.inputs.length + c.latches.length + k := by
      rcases Nat.lt_or_ge j (c.inputs.length + c.latches.length + k) with h' | h'
      · exact h'
      · exfalso
        have hlen : c.defs.length = c.inputs.length + c.latches.length + c.ands.length := by unfold Circ.defs; simp only [List.length_append, List.length_map]
        obtain ⟨hj2, e2⟩ := gat_index c (j - (c.inputs.length + c.latches.length)) (by omega)
        have ej : c.defs[j] = c.ands[j - (c.inputs.length + c.latches.length)].lit := by rw [← e2]; congr 1; omega
        have hr := (rising_iff c.ands).1 h.rise
        have mono : ∀ d i (hi : i + d < c.ands.length), c.ands[i].lit ≤ c.ands[i + d].lit := by
          intro d
          induction d with
          | zero => intro i hi; exact Int.le_refl _
          | succ d ih => intro i hi; have := ih i (by omega); have := hr (i + d) (by omega); simp only [Nat.add_assoc] at *; omega
        have hm := mono (j - (c.inputs.length + c.latches.length) - k) k (by omega)
        have hd := h.defs _ (mem_defs_gat c _ (List.getElem_mem hk))
        have hdj := h.defs _ (List.getElem_mem hj)
        have e3 : c.ands[k + (j - (c.inputs.length + c.latches.length) - k)].lit = c.defs[j] := by rw [ej]; congr 2; omega
        rw [e3] at hm
        unfold varOf at hv
        omega
    omega

/-- a circuit put in order is one, and in order -/
theorem order_ok (c : Circ) (hc : chk c = true) : chk (orderC c) = true ∧ gapless (orderC c) = true := by
  have h := right_of c hc
  have hlen : c.defs.length = c.inputs.length + c.latches.length + c.ands.length := by unfold Circ.defs; simp only [List.length_append, List.length_map]
  have hle := defs_le c h
  have hm1 := h.max1
  have hdl : (orderC c).defs.length = c.defs.length := by rw [order_defs, List.length_map]
  have hdk : ∀ k (hk : k < c.defs.length), (orderC c).defs[k]'(by omega) = 2 * ((k : Int) + 1) := fun k hk => by
    have : (orderC c).defs[k]'(by omega) = (c.defs.map (ol c))[k]'(by simpa using hk) := by congr 1; exact order_defs c
    rw [this, List.getElem_map, ol_def c h k hk]
  have hal : ∀ k (hk : k < c.ands.length), ol c c.ands[k].lit = 2 * (((c.inputs.length + c.latches.length + k : Nat) : Int) + 1) := fun k hk => by
    obtain ⟨hj, e⟩ := gat_index c k hk
    rw [← e, ol_def c h _ hj]
  constructor
  · unfold chk
    simp only [Bool.and_eq_true, decide_eq_true_eq, List.all_eq_true, nodupB_iff, allKnown]
    refine ⟨⟨⟨⟨⟨⟨⟨⟨⟨⟨⟨⟨?_, ?_⟩, ?_⟩, ?_⟩, ?_⟩, ?_⟩, ?_⟩, ?_⟩, ?_⟩, ?_⟩, ?_⟩, ?_⟩, ?_⟩
    · show (0 : Int) ≤ c.defs.length; omega
    · show (c.defs.length : Int) ≤ 2048; omega
    · show (c.inputs.map _).length ≤ 64; rw [List.length_map]; exact h.ins
    · show (c.latches.map _).length ≤ 64; rw [List.length_map]; exact h.lats
    · have hn : namesFrom c none c.names = true := by
        simp only [chk, Bool.and_eq_true] at hc
        exact hc.1.1.1.1.1.1.1.1.2
      rw [names_same c (orderC c) fun k => by simp only [count, orderC, List.length_map]]
      exact hn
    · intro x hx
      obtain ⟨y, hy, rfl⟩ := List.mem_map.1 hx
      simp only [latOk, Bool.and_eq_true, Bool.or_eq_true, decide_eq_true_eq]
      refine ⟨?_, known_order c h _ (h.latNext y hy)⟩
      rcases h.latReset y hy with e | e | e
      · rw [e, ol_low c h 0 (by omega) (by omega)]; exact .inl (.inl rfl)
      · rw [e, ol_low c h 1 (by omega) (by omega)]; exact .inl (.inr rfl)
      · rw [e]; exact .inr rfl
    · intro x hx
      obtain ⟨a, ha, rfl⟩ := List.mem_map.1 hx
      obtain ⟨k, hk, rfl⟩ := List.getElem_of_mem ha
      obtain ⟨g1, g2, g3, g4⟩ := h.gats _ ha
      have b1 := gat_before c h k hk _ g3 g1
      have b2 := gat_before c h k hk _ g4 g2
      have k3 := known_order c h _ g3
      have k4 := known_order c h _ g4
      simp only [gatOk, Bool.and_eq_true, decide_eq_true_eq]
      rw [hal k hk]
      refine ⟨⟨⟨by omega, by omega⟩, ?_⟩, ?_⟩
      · rcases Int.le_total (ol c c.ands[k].left) (ol c c.ands[k].right) with e | e
        · rw [Int.max_eq_right e]; exact k4
        · rw [Int.max_eq_left e]; exact k3
      · rcases Int.le_total (ol c c.ands[k].left) (ol c c.ands[k].right) with e | e
        · rw [Int.min_eq_left e]; exact k3
        · rw [Int.min_eq_right e]; exact k4
    · rw [rising_iff]
      intro k hk
      have hk' : k + 1 < c.ands.length := by simpa [orderC] using hk
      simp only [orderC, List.getElem_map]
      rw [hal k (by omega), hal (k + 1) hk']
      omega
    · intro d hd
      obtain ⟨k, hk, rfl⟩ := List.getElem_of_mem hd
      rw [hdk k (by omega)]
      simp only [defOk, Bool.and_eq_true, decide_eq_true_eq]
      refine ⟨⟨by omega, by omega⟩, ?_⟩
      show 2 * ((k : Int) + 1) ≤ 2 * (c.defs.length : Int)
      omega
    · rw [List.nodup_iff_pairwise_ne, List.pairwise_iff_getElem]
      intro i j hi hj hij
      rw [hdk i (by omega), hdk j (by omega)]
      omega
    · refine ⟨fun l hl => ?_, by show (c.outputs.map _).length ≤ 64; rw [List.length_map]; exact h.outs⟩
      obtain ⟨y, hy, rfl⟩ := List.mem_map.1 hl
      exact known_order c h y (h.outK y hy)
    · refine ⟨fun l hl => ?_, by show (c.bads.map _).length ≤ 64; rw [List.length_map]; exact h.bads⟩
      obtain ⟨y, hy, rfl⟩ := List.mem_map.1 hl
      exact known_order c h y (h.badK y hy)
    · refine ⟨fun l hl => ?_, by show (c.invars.map _).length ≤ 64; rw [List.length_map]; exact h.invs⟩
      obtain ⟨y, hy, rfl⟩ := List.mem_map.1 hl
      exact known_order c h y (h.invK y hy)
  · simp only [gapless, Bool.and_eq_true, decide_eq_true_eq, seqB_iff, List.all_eq_true]
    refine ⟨⟨fun j hj => by rw [hdk j (by omega)]; omega, fun a ha => ?_⟩, by rw [hdl]; rfl⟩
    obtain ⟨b, hb, rfl⟩ := List.mem_map.1 ha
    simp only [downB, decide_eq_true_eq]
    omega

/-- what is in order stays -/
theorem order_stays (d : Circ) (hc : chk d = true) (hg : gapless d = true) : orderC d = d := by
  have h := right_of d hc
  simp only [gapless, Bool.and_eq_true, decide_eq_true_eq, seqB_iff, List.all_eq_true] at hg
  obtain ⟨⟨g1, g2⟩, g3⟩ := hg
  have hol : ∀ l, known d l = true → ol d l = l := by
    intro l hl
    rcases ol_known d h l hl with ⟨_, h2, _⟩ | ⟨k, hk, hv, h0, h2⟩
    · exact h2
    · have := g1 k hk
      have hh := (ol_half d l h0).2.1
      rw [this] at hv
      unfold varOf at hv
      omega
  have hod : ∀ x ∈ d.defs, ol d x = x := by
    intro x hx
    obtain ⟨k, hk, rfl⟩ := List.getElem_of_mem hx
    rw [ol_def d h k hk, g1 k hk]; omega
  have hmap : ∀ l : List Int, (∀ x ∈ l, ol d x = x) → l.map (ol d) = l := fun l hl => by
    rw [List.map_congr_left (g := id) fun x hx => hl x hx]; simp
  cases d with
  | mk mx ins lats outs bads invs ands names =>
    unfold orderC
    simp only [Circ.mk.injEq, and_true]
    refine ⟨g3.symm, hmap _ fun x hx => hod x (mem_defs_in _ x hx), ?_, hmap _ fun x hx => hol x (h.outK x hx), hmap _ fun x hx => hol x (h.badK x hx), hmap _ fun x hx => hol x (h.invK x hx), ?_⟩
    · rw [List.map_congr_left (g := id) fun x hx => ?_]
      · simp
      · have e1 := hod x.lit (mem_defs_lat _ x hx)
        have e2 := hol x.next (h.latNext x hx)
        have e3 : ol ⟨mx, ins, lats, outs, bads, invs, ands, names⟩ x.reset = x.reset := by
          rcases h.latReset x hx with e | e | e
          · rw [e]; exact ol_low _ h 0 (by omega) (by omega)
          · rw [e]; exact ol_low _ h 1 (by omega) (by omega)
          · rw [e]; exact e1
        rw [e1, e2, e3]; rfl
    · rw [List.map_congr_left (g := id) fun x hx => ?_]
      · simp
      · have e1 := hod x.lit (mem_defs_gat _ x hx)
        have e2 := hol x.left (h.gats x hx).2.2.1
        have e3 := hol x.right (h.gats x hx).2.2.2
        have := g2 x hx
        simp only [downB, decide_eq_true_eq] at this
        rw [e1, e2, e3, Int.max_eq_left this, Int.min_eq_right this]; rfl

end Go.Proofs.Ytjcaejdokillgaa.PA
