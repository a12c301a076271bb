/- Plain laws: frames. -/
import Derived.Test.YtjcaejdokillgaaPlainW
namespace Go.Proofs.Ytjcaejdokillgaa.PC

theorem setAll_get : ∀ (l : List (Int × UInt8)) (s : Bs), (l.map fun p => varOf p.1).Nodup → ∀ p ∈ l, varOf p.1 < s.length → (setAll s l)[varOf p.1]? = some p.2 := by
  intro l
  induction l with
  | nil => intro s _ p hp; cases hp
  | cons q r ih =>
    intro s hn p hp hlt
    obtain ⟨d, b⟩ := q
    simp only [List.map_cons, List.nodup_cons] at hn
    simp only [setAll]
    rcases List.mem_cons.1 hp with rfl | hp
    · rw [setAll_other _ _ _ fun x hx e => hn.1 (List.mem_map.2 ⟨x, hx, e⟩)]
      simp [hlt]
    · exact ih _ hn.2 p hp (by simpa using hlt)

theorem varOf_nodup (l : List Int) (h : ∀ d ∈ l, 2 ≤ d ∧ d % 2 = 0) (hn : l.Nodup) : (l.map varOf).Nodup := by
  induction l with
  | nil => simp
  | cons x r ih =>
    simp only [List.map_cons, List.nodup_cons] at hn ⊢
    refine ⟨fun hm => ?_, ih (fun d hd => h d (by simp [hd])) hn.2⟩
    obtain ⟨y, hy, e⟩ := List.mem_map.1 hm
    have := varOf_inj y x (h y (by simp [hy])) (h x (by simp)) e
    exact hn.1 (this ▸ hy)

theorem zip_fst_map {α β γ : Type} (f : α → γ) (l : List α) (m : List β) (h : l.length = m.length) : (l.zip m).map (fun p => f p.1) = l.map f := by
  induction l generalizing m with
  | nil => simp
  | cons x r ih =>
    cases m with
    | nil => simp at h
    | cons y m => simp only [List.zip_cons_cons, List.map_cons, ih m (by simpa using h)]

theorem parts_nodup (c : Circ) (h : Right c) : (c.inputs.map varOf).Nodup ∧ ((c.latches.map (·.lit)).map varOf).Nodup ∧ (∀ d ∈ c.inputs, ∀ x ∈ c.latches, varOf x.lit ≠ varOf d) := by
  have hnd := h.nodup
  have hr : ∀ d ∈ c.defs, 2 ≤ d ∧ d % 2 = 0 := fun d hd => ⟨(h.defs d hd).1, (h.defs d hd).2.1⟩
  have hv := varOf_nodup _ hr hnd
  unfold Circ.defs at hv
  rw [List.map_append, List.map_append, List.nodup_append, List.nodup_append] at hv
  refine ⟨hv.1.1, hv.1.2.1, fun d hd x hx e => ?_⟩
  exact hv.1.2.2 (varOf d) (List.mem_map.2 ⟨d, hd, rfl⟩) (varOf x.lit) (List.mem_map.2 ⟨x.lit, List.mem_map.2 ⟨x, hx, rfl⟩, rfl⟩) e.symm

/-- a latch's value is its state's -/
theorem vals_lat (c : Circ) (h : Right c) (st i : Bs) (hs : st.length = c.latches.length) (k : Nat) (hk : k < c.latches.length) : (vals c st i)[varOf c.latches[k].lit]? = st[k]? := by
  have hm : c.latches[k] ∈ c.latches := List.getElem_mem hk
  have hlt := def_lt c h _ (mem_defs_lat c _ hm)
  unfold vals
  rw [setGats_other _ _ _ fun a ha e => (gate_apart c h a ha).2 _ hm e.symm]
  unfold start
  have hz : (c.latches[k].lit, st[k]'(by omega)) ∈ (c.latches.map (·.lit)).zip st := by
    rw [List.mem_iff_getElem]
    exact ⟨k, by simp; omega, by simp⟩
  have := setAll_get ((c.latches.map (·.lit)).zip st) (setAll (List.replicate (c.max.toNat + 1) 48) (c.inputs.zip i)) (by
    rw [zip_fst_map varOf _ _ (by simp [hs])]
    exact (parts_nodup c h).2.1) _ hz (by rw [setAll_length]; simpa using hlt)
  rw [this, List.getElem?_eq_getElem (by omega)]

/-- an input's value is what came in -/
theorem vals_in (c : Circ) (h : Right c) (st i : Bs) (hi : i.length = c.inputs.length) (k : Nat) (hk : k < c.inputs.length) : (vals c st i)[varOf c.inputs[k]]? = i[k]? := by
  have hm : c.inputs[k] ∈ c.inputs := List.getElem_mem hk
  have hlt := def_lt c h _ (mem_defs_in c _ hm)
  unfold vals
  rw [setGats_other _ _ _ fun a ha e => (gate_apart c h a ha).1 _ hm e.symm]
  unfold start
  rw [setAll_other _ _ _ fun p hp e => by
    have h1 := (List.of_mem_zip hp).1
    obtain ⟨x, hx, e'⟩ := List.mem_map.1 h1
    rw [← e'] at e
    exact (parts_nodup c h).2.2 _ hm x hx e]
  have hz : (c.inputs[k], i[k]'(by omega)) ∈ c.inputs.zip i := by
    rw [List.mem_iff_getElem]
    exact ⟨k, by simp; omega, by simp⟩
  have := setAll_get (c.inputs.zip i) (List.replicate (c.max.toNat + 1) 48) (by
    rw [zip_fst_map varOf _ _ (by simp [hi])]
    exact (parts_nodup c h).1) _ hz (by simpa using hlt)
  rw [this, List.getElem?_eq_getElem (by omega)]

/-! ### first -/
def firstT (c : Circ) : List (List Int) := c.latches.flatMap fun x => if x.reset = 0 then [[-litT 0 x.lit]] else if x.reset = 1 then [[litT 0 x.lit]] else []

theorem all_flatMap {α β : Type} (l : List α) (f : α → List β) (p : β → Bool) : (l.flatMap f).all p = l.all fun x => (f x).all p := by
  induction l with
  | nil => rfl
  | cons x r ih => simp [List.flatMap_cons, List.all_append, ih]

theorem all_zip {α β : Type} (l : List α) (m : List β) (h : m.length = l.length) (p : α × β → Bool) : (l.zip m).all p = true ↔ ∀ k (hk : k < l.length), p (l[k], m[k]'(by omega)) = true := by
  rw [List.all_eq_true]
  constructor
  · intro g k hk
    exact g _ (List.mem_iff_getElem.2 ⟨k, by simp; omega, by simp⟩)
  · intro g x hx
    obtain ⟨k, hk, e⟩ := List.mem_iff_getElem.1 hx
    have hk' : k < l.length := by simp at hk; omega
    have := g k hk'
    rw [← e]; simpa using this

theorem lat_lit (c : Circ) (h : Right c) (x : Lat) (hx : x ∈ c.latches) (w : Bs) (hw : w.length = c.max.toNat + 1) :
    isM w (litT 0 x.lit) = (w[varOf x.lit]? == some 49) ∧ isM w (-litT 0 x.lit) = !(w[varOf x.lit]? == some 49) := by
  have hd := h.defs _ (mem_defs_lat c x hx)
  have h1 := h.max1
  have h0 := h.max0
  have e := isM_lit w x.lit (by omega) (by omega) (by rw [hw]; exact def_lt c h _ (mem_defs_lat c x hx))
  refine ⟨by rw [e, tru_even _ _ hd.2.1], ?_⟩
  rw [isM_neg _ _ (by rw [litT_abs x.lit (by omega) (by omega)]; omega) (by rw [litT_abs x.lit (by omega) (by omega)]; omega), e, tru_even _ _ hd.2.1]

theorem first_law (c : Circ) (h : Right c) (st i : Bs) (hs : bitsOk st c.latches.length = true) : (firstT c).all (one (vals c st i)) = initial c st := by
  have hb := bitsOk_mem hs
  rw [Bool.eq_iff_iff]
  unfold firstT initial
  rw [hs, Bool.true_and, all_flatMap, all_zip c.latches st hb.2, List.all_eq_true]
  have key : ∀ k (hk : k < c.latches.length), ((if c.latches[k].reset = 0 then [[-litT 0 c.latches[k].lit]] else if c.latches[k].reset = 1 then [[litT 0 c.latches[k].lit]] else []).all (one (vals c st i)) = true) ↔
      (!(c.latches[k].reset != c.latches[k].lit && (c.latches[k].reset == 1) != (st[k]'(by omega) == 49))) = true := by
    intro k hk
    have hm : c.latches[k] ∈ c.latches := List.getElem_mem hk
    have hd := h.defs _ (mem_defs_lat c _ hm)
    have hr := h.latReset _ hm
    obtain ⟨e1, e2⟩ := lat_lit c h _ hm _ (vals_length c st i)
    have hv := vals_lat c h st i hb.2 k hk
    have hg : st[k]? = some (st[k]'(by omega)) := List.getElem?_eq_getElem (by omega)
    rw [hv, hg] at e1 e2
    by_cases r0 : c.latches[k].reset = 0
    · have n1 : (c.latches[k].reset != c.latches[k].lit) = true := by rw [bne_iff_ne]; omega
      rw [if_pos r0, n1, r0]
      simp [one, e2]
    · rw [if_neg r0]
      by_cases r1 : c.latches[k].reset = 1
      · have n1 : (c.latches[k].reset != c.latches[k].lit) = true := by rw [bne_iff_ne]; omega
        rw [if_pos r1, n1, r1]
        simp [one, e1]
      · have n1 : (c.latches[k].reset != c.latches[k].lit) = false := by
          have : c.latches[k].reset = c.latches[k].lit := by omega
          rw [this]; simp
        rw [if_neg r1, n1]
        simp
  constructor
  · intro g k hk
    exact (key k hk).1 (g _ (List.getElem_mem hk))
  · intro g x hx
    obtain ⟨k, hk, e⟩ := List.getElem_of_mem hx
    rw [← e]
    exact (key k hk).2 (g k hk)

end Go.Proofs.Ytjcaejdokillgaa.PC
