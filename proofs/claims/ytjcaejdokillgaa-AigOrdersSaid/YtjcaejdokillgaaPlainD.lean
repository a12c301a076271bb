/- Plain circuits: the program's look, stage by stage. -/
import Derived.Test.YtjcaejdokillgaaPlainC3
namespace Go.Proofs.Ytjcaejdokillgaa.PC

def metI (c : Circ) (k : Nat) : List Int := (c.inputs.take k).map (· / 2)
def metL (c : Circ) (k : Nat) : List Int := c.inputs.map (· / 2) ++ (c.latches.take k).map (fun x => x.lit / 2)
def metG (c : Circ) (k : Nat) : List Int := c.inputs.map (· / 2) ++ c.latches.map (fun x => x.lit / 2) ++ (c.ands.take k).map (fun x => x.lit / 2)
def prevLit (c : Circ) (k : Nat) : Option Int := if k = 0 then none else (c.ands[k - 1]?).map (·.lit)
def sIn (c : Circ) (k : Nat) : Bool := stageIn c.max c.latches c.ands (metI c k) (c.inputs.drop k)
def sLat (c : Circ) (k : Nat) : Bool := stageLat c.max c.ands (metL c k) (c.latches.drop k)
def sGat (c : Circ) (k : Nat) : Bool := stageGat c.max (metG c k) (prevLit c k) (c.ands.drop k)

theorem metI_succ (c : Circ) (k : Nat) (h : k < c.inputs.length) : metI c (k + 1) = metI c k ++ [c.inputs[k] / 2] := by
  unfold metI; rw [List.take_succ_eq_append_getElem h, List.map_append]; rfl
theorem metL_succ (c : Circ) (k : Nat) (h : k < c.latches.length) : metL c (k + 1) = metL c k ++ [c.latches[k].lit / 2] := by
  unfold metL; rw [List.take_succ_eq_append_getElem h, List.map_append, ← List.append_assoc]; rfl
theorem metG_succ (c : Circ) (k : Nat) (h : k < c.ands.length) : metG c (k + 1) = metG c k ++ [c.ands[k].lit / 2] := by
  unfold metG; rw [List.take_succ_eq_append_getElem h, List.map_append, ← List.append_assoc]; rfl

theorem sIn_zero (c : Circ) : definedOk c = sIn c 0 := by simp [definedOk, sIn, metI]
theorem sIn_step (c : Circ) (k : Nat) (h : k < c.inputs.length) : sIn c k = (defineOk c.max (metI c k) c.inputs[k] && sIn c (k + 1)) := by
  unfold sIn
  rw [List.drop_eq_getElem_cons h, stageIn, metI_succ c k h]
theorem sIn_end (c : Circ) : sIn c c.inputs.length = sLat c 0 := by
  simp [sIn, sLat, stageIn, metI, metL]
theorem sLat_step (c : Circ) (k : Nat) (h : k < c.latches.length) : sLat c k = (defineOk c.max (metL c k) c.latches[k].lit && resetOk c.latches[k] && sLat c (k + 1)) := by
  unfold sLat
  rw [List.drop_eq_getElem_cons h, stageLat, metL_succ c k h]
theorem sLat_end (c : Circ) : sLat c c.latches.length = sGat c 0 := by
  simp [sLat, sGat, stageLat, metL, metG, prevLit]
theorem sGat_zero (c : Circ) (h : 0 < c.ands.length) : sGat c 0 = (defineOk c.max (metG c 0) c.ands[0].lit && sGat c 1) := by
  unfold sGat
  rw [List.drop_eq_getElem_cons h, metG_succ c 0 h]
  simp [prevLit, stageGat, h]
theorem sGat_step (c : Circ) (k : Nat) (h0 : 0 < k) (h : k < c.ands.length) :
    sGat c k = (defineOk c.max (metG c k) c.ands[k].lit && decide ((c.ands[k - 1]'(by omega)).lit < c.ands[k].lit) && sGat c (k + 1)) := by
  unfold sGat
  rw [List.drop_eq_getElem_cons h, metG_succ c k h]
  have e1 : prevLit c k = some (c.ands[k - 1]'(by omega)).lit := by
    simp [prevLit, show ¬ k = 0 by omega, List.getElem?_eq_getElem (show k - 1 < c.ands.length by omega)]
  have e2 : prevLit c (k + 1) = some c.ands[k].lit := by
    simp [prevLit, List.getElem?_eq_getElem h]
  rw [e1, e2, stageGat]
theorem sGat_end (c : Circ) : sGat c c.ands.length = true := by
  unfold sGat
  rw [List.drop_length]
  cases prevLit c c.ands.length <;> rfl
theorem metG_end (c : Circ) : metG c c.ands.length = mets c := by
  simp [metG, mets, Circ.defs, Function.comp_def]

theorem pchk_iff (c : Circ) : pchk c = true ↔ boundsOk c = true ∧ definedOk c = true ∧ (∀ k (h : k < c.latches.length), knownP (mets c) c.latches[k].next = true) ∧
    (∀ k (h : k < c.ands.length), knownP (mets c) c.ands[k].left = true ∧ knownP (mets c) c.ands[k].right = true ∧ c.ands[k].left < c.ands[k].lit ∧ c.ands[k].right < c.ands[k].lit) ∧
    c.outputs.all (knownP (mets c)) = true ∧ c.bads.all (knownP (mets c)) = true ∧ c.invars.all (knownP (mets c)) = true ∧ namedP c none c.names = true := by
  unfold pchk
  simp only [Bool.and_eq_true]
  constructor
  · rintro ⟨⟨⟨⟨⟨⟨⟨h1, h2⟩, h3⟩, h4⟩, h5⟩, h6⟩, h7⟩, h8⟩
    rw [List.all_eq_true] at h3 h4
    refine ⟨h1, h2, fun k h => h3 _ (List.getElem_mem h), fun k h => ?_, h5, h6, h7, h8⟩
    have := h4 _ (List.getElem_mem h)
    simp only [Bool.and_eq_true, decide_eq_true_eq] at this
    exact ⟨this.1.1.1, this.1.1.2, this.1.2, this.2⟩
  · rintro ⟨h1, h2, h3, h4, h5, h6, h7, h8⟩
    refine ⟨⟨⟨⟨⟨⟨⟨h1, h2⟩, ?_⟩, ?_⟩, h5⟩, h6⟩, h7⟩, h8⟩
    · rw [List.all_eq_true]
      intro x hx
      obtain ⟨k, hk, rfl⟩ := List.getElem_of_mem hx
      exact h3 k hk
    · rw [List.all_eq_true]
      intro x hx
      obtain ⟨k, hk, rfl⟩ := List.getElem_of_mem hx
      obtain ⟨a, b, d, e⟩ := h4 k hk
      simp [a, b, d, e]

theorem pchk_false_of {c : Circ} (h : ¬ pchk c = true) : pchk c = false := by simpa using h

end Go.Proofs.Ytjcaejdokillgaa.PC
