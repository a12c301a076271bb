/- What an argument reads as: slices, circuits, lists of lists; how much they hold. -/
import Derived.Test.YtjcaejdokillgaaLibC
import Derived.Deep.Slices
import Derived.SizedLaws
import Derived.OpenShut
namespace Go.Proofs.Ytjcaejdokillgaa
open Go.ChangeShapes Go.WideShapes Go.RowKit

section
variable {H : Type} {enc : TypeId × Value → H} {P : Program} {w : World} {spare : Nat → Bool} {held : Bool}

/-- all weights of a datum are at most B -/
def Wt (P : Program) (B : Nat) (t : TypeId) (d : DataW H) : Prop := ∀ n ∈ d.weights P t, n ≤ B

theorem weightsAll_mem {e : TypeId} {l : List (DataW H)} {d : DataW H} (h : d ∈ l) : ∀ n ∈ d.weights P e, n ∈ DataW.weightsAll P e l := by
  induction l with
  | nil => cases h
  | cons x r ih =>
    intro n hn
    simp only [DataW.weightsAll, List.mem_append]
    rcases List.mem_cons.1 h with e | e
    · subst e; exact Or.inl hn
    · exact Or.inr (ih e n hn)

/-- a slice, element by element -/
theorem tr_slice {α : Type} [Inhabited α] {t e : TypeId} {k fuel : Nat} {cs : List Value} {x : DataW H × List MemPlace} (ht : P.underlying t = some (.slice e)) (hk : P.cellsOf e = k) (hk0 : 0 < k)
    (f : α → List Value) (ok : α → DataW H → Prop) (hf : ∀ y, (f y).length = k)
    (elem : ∀ (n : Nat) (cs' : List Value) (x' : DataW H × List MemPlace), DataW.trod enc P w 0 spare held n e cs' = some x' → ∃ y, cs' = f y ∧ ok y x'.1)
    (h : DataW.trod enc P w 0 spare held fuel t cs = some x) (hw : ∀ b o, w.cell? b = some o → b.block < w.heap.size) :
    ∃ (v : Value) (ys : List α), cs = [v] ∧ Cells w k v ys.length (ys.flatMap f) ∧ (∀ B, Wt P B t x.1 → ys.length * P.bytesOf e ≤ B ∧ ∀ y ∈ ys, ∃ d, ok y d ∧ Wt P B e d) ∧ (∀ y ∈ ys, ∃ d, ok y d) := by
  subst hk
  rcases Go.Deep.open_slice ht h with ⟨rfl, rfl⟩ | ⟨a, len, cap, m, n, D, Pl, rfl, hb, hl, hm, hmm, rfl, hx⟩
  · exact ⟨_, [], rfl, Cells.nil _ _, fun B _ => ⟨by simp, fun y hy => by simp at hy⟩, fun y hy => by simp at hy⟩
  · have hlm : len ≤ m := by rw [hmm]; split <;> omega
    obtain ⟨Y, hY⟩ := Go.Deep.choose_lt (α := α) (n := len) (p := fun i y => w.cells? 0 (a.add (i * P.cellsOf e)) (P.cellsOf e) = some (f y) ∧ ok y (D i)) (fun i hi => by
      obtain ⟨cs', h1, h2⟩ := hx i (by omega)
      obtain ⟨y, e1, e2⟩ := elem _ _ _ h2
      exact ⟨y, by rw [h1, e1], e2⟩)
    refine ⟨_, (List.range len).map Y, rfl, ?_, ?_, ?_⟩
    · refine ⟨some a, cap, by simp, by simpa using hl, hm, fun hh => by (cases hh), ?_, ?_⟩
      · rw [List.flatMap_map]
        have : ∀ l : List Nat, (l.flatMap fun i => f (Y i)).length = l.length * P.cellsOf e := by
          intro l
          induction l with
          | nil => simp
          | cons i r ih => rw [List.flatMap_cons, List.length_append, ih, hf, List.length_cons, Nat.succ_mul, Nat.add_comm]
        rw [this, List.length_range, List.length_map, List.length_range]
      · intro j hj
        have hj0 := hj
        rw [List.flatMap_map] at hj
        have hlen : ∀ l : List Nat, (l.flatMap fun i => f (Y i)).length = l.length * P.cellsOf e := by
          intro l
          induction l with
          | nil => simp
          | cons i r ih => rw [List.flatMap_cons, List.length_append, ih, hf, List.length_cons, Nat.succ_mul, Nat.add_comm]
        have hjl : j < len * P.cellsOf e := by rw [hlen, List.length_range] at hj; exact hj
        have hi : j / P.cellsOf e < len := by rw [Nat.div_lt_iff_lt_mul hk0]; exact hjl
        obtain ⟨hc, _⟩ := hY _ hi
        obtain ⟨_, hfl, hcc⟩ := World.cells?_some hc
        have hr := Nat.mod_lt j hk0
        have hcell := hcc _ hr
        rw [Go.Deep.add_add] at hcell
        have hdm : j / P.cellsOf e * P.cellsOf e + j % P.cellsOf e = j := by rw [Nat.mul_comm]; exact Nat.div_add_mod j _
        rw [hdm] at hcell
        have hget : ∀ (l : List Nat) (i r : Nat), i < l.length → r < P.cellsOf e → (l.flatMap fun i => f (Y i))[i * P.cellsOf e + r]? = (f (Y (l.getD i 0)))[r]? := by
          intro l
          induction l with
          | nil => intro i r hi; simp at hi
          | cons q l ih =>
            intro i r hi hr
            rw [List.flatMap_cons]
            cases i with
            | zero =>
              rw [Nat.zero_mul, Nat.zero_add, List.getElem?_append_left (by rw [hf]; exact hr)]
              rfl
            | succ i =>
              rw [List.getElem?_append_right (by rw [hf, Nat.succ_mul]; omega), hf, show (i + 1) * P.cellsOf e + r - P.cellsOf e = i * P.cellsOf e + r by rw [Nat.succ_mul]; omega]
              exact ih i r (by simpa using hi) hr
        have hg := hget (List.range len) (j / P.cellsOf e) (j % P.cellsOf e) (by simpa using hi) hr
        have hgd : (List.range len).getD (j / P.cellsOf e) 0 = j / P.cellsOf e := by simp [List.getD, hi]
        rw [hgd, hdm] at hg
        rw [← hg, ← List.flatMap_map, List.getElem?_eq_getElem hj0] at hcell
        have hspot : a.spot = none := by
          obtain ⟨_, _, h0⟩ := World.cells?_some (hY 0 (by omega)).1
          have h00 := h0 0 hk0
          rw [Nat.zero_mul] at h00
          have e0 : (a.add 0).add 0 = a := by simp [Addr.add]
          rw [e0] at h00
          obtain ⟨u, hu⟩ : ∃ u, w.cell? a = some u := by
            rw [h00]
            exact ⟨_, List.getElem?_eq_getElem (by rw [hf]; exact hk0)⟩
          cases hs : a.spot with
          | none => rfl
          | some s =>
            unfold World.cell? at hu
            split at hu
            · rw [hs] at hu; simp at hu
            · cases hu
        obtain ⟨b, off, sp⟩ := a
        simp only at hspot
        subst hspot
        rw [add_plain] at hcell
        exact ⟨b, off, rfl, hw _ _ hcell, hcell⟩
    · intro B hB
      have hB' : ∀ q ∈ (DataW.slice ((List.range len).map D) ((List.range (m - len)).map fun j => D (len + j)) : DataW H).weights P t, q ≤ B := hB
      simp only [DataW.weights, ht, List.mem_cons, List.mem_append] at hB'
      refine ⟨?_, fun y hy => ?_⟩
      · have := hB' _ (Or.inl rfl)
        simp only [List.length_map, List.length_range] at this ⊢
        exact Nat.le_trans (Nat.mul_le_mul_right _ (Nat.le_add_right _ _)) this
      · obtain ⟨i, hi, rfl⟩ := List.mem_map.1 hy
        have hi' := List.mem_range.1 hi
        exact ⟨D i, (hY i hi').2, fun q hq => hB' q (Or.inr (Or.inl (weightsAll_mem (List.mem_map.2 ⟨i, hi, rfl⟩) q hq)))⟩
    · intro y hy
      obtain ⟨i, hi, rfl⟩ := List.mem_map.1 hy
      exact ⟨D i, (hY i (List.mem_range.1 hi)).2⟩

end
end Go.Proofs.Ytjcaejdokillgaa
