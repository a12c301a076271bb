/- Plain law: what is forced, as clauses, is true of values just if the step is allowed. -/
import Derived.Test.YtjcaejdokillgaaPlainV
namespace Go.Proofs.Ytjcaejdokillgaa.PC

/-- a circuit's literal, as a solver's, from a base -/
def litT (b l : Int) : Int := if min (max l 0) 4097 % 2 = 1 then -(b + min (max l 0) 4097 / 2 + 1) else b + min (max l 0) 4097 / 2 + 1

def isM (m : Bs) (x : Int) : Bool := decide (1 ≤ max x (-x)) && decide (max x (-x) ≤ m.length) && ((m[(max x (-x)).toNat - 1]? == some 49) == decide (0 < x))

def one (m : Bs) (cl : List Int) : Bool := cl.any (isM m)

def force (c : Circ) (assume : List (List Int)) (b : Int) : List (List Int) := c.invars.map (fun l => [litT b l]) ++ assume.map (fun a => a.map (litT b))

theorem litT_small (b l : Int) (h0 : 0 ≤ b) (h1 : b ≤ 262144) : -264194 ≤ litT b l ∧ litT b l ≤ 264194 := by
  unfold litT; split <;> omega

theorem isM_lit (v : Bs) (l : Int) (h0 : 0 ≤ l) (h1 : l ≤ 4097) (h2 : varOf l < v.length) : isM v (litT 0 l) = tru v l := by
  have hm : min (max l 0) 4097 = l := by omega
  unfold litT isM tru negOf
  rw [hm]
  unfold varOf at *
  by_cases ho : l % 2 = 1
  · rw [if_pos ho]
    have e : max (-(0 + l / 2 + 1)) (-(-(0 + l / 2 + 1))) = l / 2 + 1 := by omega
    rw [e]
    have e2 : (l / 2 + 1).toNat - 1 = l.toNat / 2 := by omega
    rw [e2]
    have d1 : decide (1 ≤ l / 2 + 1) = true := by simp; omega
    have d2 : decide (l / 2 + 1 ≤ (v.length : Int)) = true := by simp; omega
    have d3 : decide (0 < -(0 + l / 2 + 1)) = false := by simp; omega
    have d4 : decide (0 < l) = true := by simp; omega
    rw [d1, d2, d3, d4]
    simp only [ho, decide_true, Bool.true_and, Bool.and_true]
    cases (v[l.toNat / 2]? == some 49) <;> rfl
  · rw [if_neg ho]
    have e : max (0 + l / 2 + 1) (-(0 + l / 2 + 1)) = l / 2 + 1 := by omega
    rw [e]
    have e2 : (l / 2 + 1).toNat - 1 = l.toNat / 2 := by omega
    rw [e2]
    have d1 : decide (1 ≤ l / 2 + 1) = true := by simp; omega
    have d2 : decide (l / 2 + 1 ≤ (v.length : Int)) = true := by simp; omega
    have d3 : decide (0 < 0 + l / 2 + 1) = true := by simp; omega
    rw [d1, d2, d3]
    simp only [ho, decide_false, Bool.true_and, Bool.and_false]
    cases (v[l.toNat / 2]? == some 49) <;> rfl

theorem all_congr' {α : Type} (l : List α) (p q : α → Bool) (h : ∀ x ∈ l, p x = q x) : l.all p = l.all q := by
  induction l with
  | nil => rfl
  | cons x r ih => simp only [List.all_cons, h x (by simp), ih fun y hy => h y (by simp [hy])]

theorem any_congr' {α : Type} (l : List α) (p q : α → Bool) (h : ∀ x ∈ l, p x = q x) : l.any p = l.any q := by
  induction l with
  | nil => rfl
  | cons x r ih => simp only [List.any_cons, h x (by simp), ih fun y hy => h y (by simp [hy])]

theorem force_law (c : Circ) (h : Right c) (assume : List (List Int)) (ha : ∀ a ∈ assume, ∀ l ∈ a, 0 ≤ l ∧ l / 2 ≤ c.max) (v : Bs) (hv : v.length = c.max.toNat + 1) :
    (force c assume 0).all (one v) = allowed c assume v := by
  have h1 := h.max1
  have h0 := h.max0
  have key : ∀ l : Int, 0 ≤ l → l ≤ 2 * c.max + 1 → isM v (litT 0 l) = tru v l := fun l g0 g1 => isM_lit v l g0 (by omega) (by rw [hv]; unfold varOf; omega)
  unfold force allowed
  rw [List.all_append, List.all_map, List.all_map]
  congr 1
  · refine all_congr' _ _ _ fun l hl => ?_
    obtain ⟨g0, g1⟩ := known_range c h l (h.invK l hl)
    simp [Function.comp, one, key l g0 g1]
  · refine all_congr' _ _ _ fun a hm => ?_
    simp only [Function.comp, one, holds, List.any_map]
    refine any_congr' _ _ _ fun l hl => ?_
    have := ha a hm l hl
    exact key l this.1 (by omega)

end Go.Proofs.Ytjcaejdokillgaa.PC
