/- Plain circuits: the page's look, stage by stage. -/
import Derived.Test.YtjcaejdokillgaaPlainV
namespace Go.Proofs.Ytjcaejdokillgaa.PC

theorem rising_iff (l : List Gat) : rising none l = true ↔ ∀ k (h : k + 1 < l.length), l[k].lit < l[k + 1].lit := by
  have key : ∀ (l : List Gat) (a : Gat), rising (some a.lit) l = true ↔ ∀ k (h : k + 1 < (a :: l).length), (a :: l)[k].lit < (a :: l)[k + 1].lit := by
    intro l
    induction l with
    | nil => intro a; simp [rising]
    | cons b r ih =>
      intro a
      simp only [rising, Bool.and_eq_true, decide_eq_true_eq, ih b]
      constructor
      · rintro ⟨h1, h2⟩ k h
        cases k with
        | zero => simpa using h1
        | succ k => exact h2 k (by simp at h ⊢; omega)
      · intro h
        refine ⟨by simpa using h 0 (by simp), fun k hk => ?_⟩
        exact h (k + 1) (by simp at hk ⊢; omega)
  cases l with
  | nil => simp [rising]
  | cons a r => exact key r a

theorem nodup_iff (l : List Int) : l.Nodup ↔ ∀ i (h : i < l.length), ¬ l[i] ∈ l.take i := by
  constructor
  · intro hn i hi hm
    obtain ⟨j, hj, e⟩ := List.getElem_of_mem hm
    rw [List.getElem_take] at e
    have hj' : j < i := by rw [List.length_take] at hj; omega
    have := (List.nodup_iff_pairwise_ne.1 hn)
    rw [List.pairwise_iff_getElem] at this
    exact this j i (by omega) hi hj' e
  · intro h
    rw [List.nodup_iff_pairwise_ne, List.pairwise_iff_getElem]
    intro i j hi hj hij e
    refine h j hj ?_
    rw [← e]
    have : i < (l.take j).length := by rw [List.length_take]; omega
    have := List.getElem_mem this
    rwa [List.getElem_take] at this

theorem chk_iff (c : Circ) : chk c = true ↔ (0 ≤ c.max ∧ c.max ≤ 2048 ∧ c.inputs.length ≤ 64 ∧ c.latches.length ≤ 64) ∧ namesFrom c none c.names = true ∧
    (∀ k (h : k < c.latches.length), latOk c c.latches[k] = true) ∧ (∀ k (h : k < c.ands.length), gatOk c c.ands[k] = true) ∧ (∀ k (h : k + 1 < c.ands.length), c.ands[k].lit < c.ands[k + 1].lit) ∧
    (∀ i (h : i < c.defs.length), defOk c c.defs[i] = true ∧ hasI (c.defs.take i) c.defs[i] = false) ∧
    allKnown c c.outputs = true ∧ allKnown c c.bads = true ∧ allKnown c c.invars = true := by
  have hall : ∀ {α : Type} (l : List α) (p : α → Bool), l.all p = true ↔ ∀ k (h : k < l.length), p l[k] = true := by
    intro α l p
    rw [List.all_eq_true]
    constructor
    · intro g k h; exact g _ (List.getElem_mem h)
    · intro g x hx; obtain ⟨k, h, e⟩ := List.getElem_of_mem hx; rw [← e]; exact g k h
  unfold chk
  simp only [Bool.and_eq_true, decide_eq_true_eq, hall, nodupB_iff, nodup_iff, rising_iff]
  have hn : ∀ i (h : i < c.defs.length), hasI (c.defs.take i) c.defs[i] = false ↔ ¬ c.defs[i] ∈ c.defs.take i := by
    intro i h
    rw [hasI_eq, Bool.eq_false_iff]
    simp
  constructor
  · rintro ⟨⟨⟨⟨⟨⟨⟨⟨⟨⟨⟨⟨h1, h2⟩, h3⟩, h4⟩, h5⟩, h6⟩, h7⟩, h8⟩, h9⟩, h10⟩, h11⟩, h12⟩, h13⟩
    exact ⟨⟨h1, h2, h3, h4⟩, h5, h6, h7, h8, fun i h => ⟨h9 i h, (hn i h).2 (h10 i h)⟩, h11, h12, h13⟩
  · rintro ⟨⟨h1, h2, h3, h4⟩, h5, h6, h7, h8, h9, h11, h12, h13⟩
    exact ⟨⟨⟨⟨⟨⟨⟨⟨⟨⟨⟨⟨h1, h2⟩, h3⟩, h4⟩, h5⟩, h6⟩, h7⟩, h8⟩, fun i h => (h9 i h).1⟩, fun i h => (hn i h).1 (h9 i h).2⟩, h11⟩, h12⟩, h13⟩

theorem chk_false_of {c : Circ} (h : ¬ chk c = true) : chk c = false := by simpa using h

theorem take_defs_in (c : Circ) : c.defs.take c.inputs.length = c.inputs := by simp [Circ.defs, List.append_assoc]
theorem defs_lat (c : Circ) (k : Nat) (h : k < c.latches.length) : c.inputs ++ (c.latches.take (k + 1)).map (·.lit) = (c.inputs ++ (c.latches.take k).map (·.lit)) ++ [c.latches[k].lit] := by
  rw [List.take_succ_eq_append_getElem h, List.map_append, ← List.append_assoc]; rfl
theorem defs_gat (c : Circ) (k : Nat) (h : k < c.ands.length) : c.inputs ++ c.latches.map (·.lit) ++ (c.ands.take (k + 1)).map (·.lit) = (c.inputs ++ c.latches.map (·.lit) ++ (c.ands.take k).map (·.lit)) ++ [c.ands[k].lit] := by
  rw [List.take_succ_eq_append_getElem h, List.map_append, ← List.append_assoc]; rfl

end Go.Proofs.Ytjcaejdokillgaa.PC
