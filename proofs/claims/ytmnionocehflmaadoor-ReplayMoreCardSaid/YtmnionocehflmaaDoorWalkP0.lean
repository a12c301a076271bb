/- Plain: which witnesses are right. -/
import Derived.Test.YtmnionocehflmaaDoorWalkM8
namespace Go.Proofs.YtmnionocehflmaaDoor
open Go.RowKit

/-- the state behind inputs -/
def stS (c : PC.Circ) (st : PC.Bs) (ins : List PC.Bs) : PC.Bs := ins.foldl (nextS c) st

theorem stS_succ (c : PC.Circ) (st : PC.Bs) (ins : List PC.Bs) (k : Nat) (h : k < ins.length) : stS c st (ins.take (k + 1)) = nextS c (stS c st (ins.take k)) ins[k] := by
  unfold stS
  rw [List.take_succ_eq_append_getElem h, List.foldl_append]; rfl

theorem valuesE_ok (c : PC.Circ) (st i : PC.Bs) (h0 : PC.chk c = true) (h1 : PC.bitsOk st c.latches.length = true) (h2 : PC.bitsOk i c.inputs.length = true) : PC.valuesE c st i = 0 := by
  unfold PC.valuesE
  rw [if_neg (by rw [h0]; decide), if_neg (by rw [h1, h2]; simp)]

theorem nextS_bits (c : PC.Circ) (st i : PC.Bs) (h : PC.valuesE c st i = 0) : PC.bitsOk (nextS c st i) c.latches.length = true := by
  unfold nextS
  rw [if_pos h, PC.bitsOk, PC.nexts, Bool.and_eq_true, List.all_eq_true]
  refine ⟨fun b hb => ?_, by simp⟩
  obtain ⟨x, _, rfl⟩ := List.mem_map.1 hb
  split <;> rfl

theorem valuesS_bits (c : PC.Circ) (st i : PC.Bs) : ∀ b ∈ PC.valuesS c st i, b = 48 ∨ b = 49 := by
  unfold PC.valuesS
  split
  · rename_i h
    have hc := PC.chk_of_valuesE c st i h
    exact PC.vals_bits c st i (PC.bitsOk_mem hc.2.1).1 (PC.bitsOk_mem hc.2.2).1
  · simp

theorem valuesS_len (c : PC.Circ) (st i : PC.Bs) : (PC.valuesS c st i).length ≤ 2049 := by
  unfold PC.valuesS
  split
  · rename_i h
    have hR := PC.right_of c (PC.chk_of_valuesE c st i h).1
    rw [PC.vals_length]
    have := hR.max1
    omega
  · simp

theorem stS_bits (c : PC.Circ) (st : PC.Bs) (ins : List PC.Bs) (h0 : PC.chk c = true) (h1 : PC.bitsOk st c.latches.length = true) (h2 : ∀ i ∈ ins, PC.bitsOk i c.inputs.length = true) :
    ∀ k, k ≤ ins.length → PC.bitsOk (stS c st (ins.take k)) c.latches.length = true := by
  intro k
  induction k with
  | zero => intro _; exact h1
  | succ k ih =>
    intro hk
    rw [stS_succ c st ins k (by omega)]
    exact nextS_bits _ _ _ (valuesE_ok _ _ _ h0 (ih (by omega)) (h2 _ (List.getElem_mem _)))

/-- is a path's step right? -/
def okAt (c : PC.Circ) (A : List (List Int)) (b : Int) (st : PC.Bs) (ins : List PC.Bs) (k : Nat) : Bool :=
  PC.allowed c A (PC.valuesS c (stS c st (ins.take k)) (ins.getD k [])) && (decide (k + 1 ≠ ins.length) || PC.tru (PC.valuesS c (stS c st (ins.take k)) (ins.getD k [])) b)

/-- why a witness is none of a circuit, or 0 -/
def formE (c : PC.Circ) (bad : Int) (st : PC.Bs) (ins : List PC.Bs) : Int :=
  if PC.chk c = false then 9 else if bad < 0 ∨ (c.bads.length : Int) ≤ bad then 4 else if ins.isEmpty = true then 8
  else if PC.bitsOk st c.latches.length = false ∨ ins.any (fun s => !PC.bitsOk s c.inputs.length) = true then 5 else if PC.initial c st = false then 9 else 0

/-- is a witness right? -/
def pathE (c : PC.Circ) (A : List (List Int)) (bad : Int) (st : PC.Bs) (ins : List PC.Bs) : Int :=
  if formE c bad st ins ≠ 0 then formE c bad st ins else if (List.range ins.length).all (okAt c A (c.bads.getD bad.toNat 0) st ins) = true then 0 else 51

theorem pathE_form {c : PC.Circ} {A : List (List Int)} {bad : Int} {st : PC.Bs} {ins : List PC.Bs} (h : formE c bad st ins ≠ 0) : pathE c A bad st ins = formE c bad st ins := by
  unfold pathE; rw [if_pos h]

theorem pathE_bad {c : PC.Circ} {A : List (List Int)} {bad : Int} {st : PC.Bs} {ins : List PC.Bs} (h : formE c bad st ins = 0) (k : Nat) (hk : k < ins.length) (hb : okAt c A (c.bads.getD bad.toNat 0) st ins k = false) :
    pathE c A bad st ins = 51 := by
  unfold pathE
  rw [if_neg (by rw [h]; decide), if_neg]
  intro hall
  rw [List.all_eq_true] at hall
  rw [hall k (List.mem_range.2 hk)] at hb
  cases hb

theorem pathE_ok {c : PC.Circ} {A : List (List Int)} {bad : Int} {st : PC.Bs} {ins : List PC.Bs} (h : formE c bad st ins = 0) (hb : ∀ k, k < ins.length → okAt c A (c.bads.getD bad.toNat 0) st ins k = true) :
    pathE c A bad st ins = 0 := by
  unfold pathE
  rw [if_neg (by rw [h]; decide), if_pos]
  rw [List.all_eq_true]
  exact fun k hk => hb k (List.mem_range.1 hk)

theorem pathE_zero {c : PC.Circ} {A : List (List Int)} {bad : Int} {st : PC.Bs} {ins : List PC.Bs} (h : pathE c A bad st ins = 0) :
    formE c bad st ins = 0 ∧ ∀ k, k < ins.length → okAt c A (c.bads.getD bad.toNat 0) st ins k = true := by
  by_cases hf : formE c bad st ins = 0
  · refine ⟨hf, fun k hk => ?_⟩
    cases hb : okAt c A (c.bads.getD bad.toNat 0) st ins k with
    | true => rfl
    | false => rw [pathE_bad hf k hk hb] at h; cases h
  · rw [pathE_form hf] at h; exact absurd h hf

theorem formE_zero {c : PC.Circ} {bad : Int} {st : PC.Bs} {ins : List PC.Bs} (h : formE c bad st ins = 0) :
    PC.chk c = true ∧ 0 ≤ bad ∧ bad < (c.bads.length : Int) ∧ ins ≠ [] ∧ PC.bitsOk st c.latches.length = true ∧ (∀ i ∈ ins, PC.bitsOk i c.inputs.length = true) ∧ PC.initial c st = true := by
  unfold formE at h
  split at h
  · cases h
  rename_i h1
  split at h
  · cases h
  rename_i h2
  split at h
  · cases h
  rename_i h3
  split at h
  · cases h
  rename_i h4
  split at h
  · cases h
  rename_i h5
  refine ⟨by simpa using h1, by omega, by omega, by simpa using h3, ?_, fun i hi => ?_, by simpa using h5⟩
  · cases e : PC.bitsOk st c.latches.length with
    | true => rfl
    | false => exact absurd (Or.inl e) h4
  · cases e : PC.bitsOk i c.inputs.length with
    | true => rfl
    | false => exact absurd (Or.inr (List.any_eq_true.2 ⟨i, hi, by rw [e]; rfl⟩)) h4

theorem allowed_more (c : PC.Circ) (A : List (List Int)) (m : List Int) (v : PC.Bs) (h : PC.allowed c (A ++ [m]) v = true) : PC.allowed c A v = true := by
  unfold PC.allowed at *
  rw [List.all_append] at h
  simp only [Bool.and_eq_true] at *
  exact ⟨h.1, h.2.1⟩

theorem pathE_more (c : PC.Circ) (A : List (List Int)) (m : List Int) (bad : Int) (st : PC.Bs) (ins : List PC.Bs) (h : pathE c (A ++ [m]) bad st ins = 0) : pathE c A bad st ins = 0 := by
  obtain ⟨h1, h2⟩ := pathE_zero h
  refine pathE_ok h1 fun k hk => ?_
  have := h2 k hk
  unfold okAt at *
  rw [Bool.and_eq_true] at *
  exact ⟨allowed_more _ _ _ _ this.1, this.2⟩

end Go.Proofs.YtmnionocehflmaaDoor
