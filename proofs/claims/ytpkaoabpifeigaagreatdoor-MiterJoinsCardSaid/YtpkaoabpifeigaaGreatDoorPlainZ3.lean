/- Plain: a miter's ands fit; at which step two circuits differ. -/
import Derived.Test.YtpkaoabpifeigaaGreatDoorPlainZ
import Derived.Test.YtpkaoabpifeigaaGreatDoorPlainM
namespace Go.Proofs.YtpkaoabpifeigaaGreatDoor.PC

def Fit (x : Int) : Prop := -9223372036854775808 ≤ x ∧ x ≤ 9223372036854775807
theorem mkN_fit (a b : Circ) (h : a.outputs.length = b.outputs.length) (h0 : 0 ≤ a.max) (h1 : 0 ≤ b.max) (hm : a.max + b.max + 4 * (a.outputs.length : Int) ≤ 2048)
    (hA : ∀ x ∈ a.ands, Fit x.lit ∧ Fit x.left ∧ Fit x.right) (hB : ∀ x ∈ (shiftC b a.inputs a.max).ands, Fit x.lit ∧ Fit x.left ∧ Fit x.right)
    (hx : ∀ x ∈ a.outputs, 0 ≤ x ∧ x ≤ 10000) (hy : ∀ x ∈ (shiftC b a.inputs a.max).outputs, 0 ≤ x ∧ x ≤ 10000) :
    ∀ k, k ≤ a.outputs.length → ∀ x ∈ (mkN a b k).gs, Fit x.lit ∧ Fit x.left ∧ Fit x.right := by
  intro k
  induction k with
  | zero =>
    intro _ x hx
    rcases List.mem_append.1 (show x ∈ a.ands ++ (shiftC b a.inputs a.max).ands from hx) with h | h
    · exact hA x h
    · exact hB x h
  | succ k ih =>
    intro hk x hg
    rw [mkN_succ a b h k (by omega)] at hg
    obtain ⟨s1, _, s3⟩ := mkN_shape a b h k (by omega)
    have g1 := hx _ (List.getElem_mem (show k < a.outputs.length by omega))
    have g2 := hy _ (List.getElem_mem (show k < (shiftC b a.inputs a.max).outputs.length by simp [shiftC]; omega))
    have hop : ∀ y : Int, 0 ≤ y → y ≤ 100000 → Fit (opn y) := fun y _ _ => by unfold opn Fit; split <;> omega
    simp only [mkStep, List.mem_append, List.mem_cons, List.mem_nil_iff, or_false] at hg
    have hb : 0 ≤ (mkN a b k).bad ∧ (mkN a b k).bad ≤ 100000 := by rw [s3]; split <;> omega
    rcases hg with hg | rfl | rfl | rfl | rfl
    · exact ih (by omega) x hg
    · exact ⟨by unfold Fit; simp only; omega, by unfold Fit; simp only; omega, hop _ g2.1 (by omega)⟩
    · exact ⟨by unfold Fit; simp only; omega, hop _ g1.1 (by omega), by unfold Fit; simp only; omega⟩
    · exact ⟨by unfold Fit; simp only; omega, by unfold Fit; simp only; omega, by unfold Fit; simp only; omega⟩
    · exact ⟨by unfold Fit; simp only; omega, hop _ hb.1 hb.2, by unfold Fit; simp only; omega⟩
theorem mkAll_rng (a b : Circ) (h : a.outputs.length = b.outputs.length) (h0 : 0 ≤ a.max) (h1 : 0 ≤ b.max) (hm : a.max + b.max + 4 * (a.outputs.length : Int) ≤ 2048)
    (hA : ∀ x ∈ a.ands, Fit x.lit ∧ Fit x.left ∧ Fit x.right) (hB : ∀ x ∈ (shiftC b a.inputs a.max).ands, Fit x.lit ∧ Fit x.left ∧ Fit x.right)
    (hx : ∀ x ∈ a.outputs, 0 ≤ x ∧ x ≤ 10000) (hy : ∀ x ∈ (shiftC b a.inputs a.max).outputs, 0 ≤ x ∧ x ≤ 10000) : ∀ x ∈ (mkAll a b).gs, Fit x.lit ∧ Fit x.left ∧ Fit x.right := by
  rw [← mkN_all a b h]
  exact mkN_fit a b h h0 h1 hm hA hB hx hy _ (Nat.le_refl _)

end Go.Proofs.YtpkaoabpifeigaaGreatDoor.PC

namespace Go.Proofs.YtpkaoabpifeigaaGreatDoor.PC

def outsB (c : Circ) (v : Bs) : Bs := c.outputs.map fun l => bitB (tru v l)

def difN (a b : Circ) : Bs → Bs → List Bs → Nat → Int
  | _, _, [], _ => -1
  | x, y, s :: r, k => if outsB a (vals a x s) = outsB b (vals b y s) then difN a b (nexts a (vals a x s)) (nexts b (vals b y s)) r (k + 1) else k

theorem difN_self (c : Circ) : ∀ (l : List Bs) (x : Bs) (k : Nat), difN c c x x l k = -1
  | [], _, _ => rfl
  | s :: r, x, k => by rw [difN, if_pos rfl]; exact difN_self c r _ _

theorem nexts_bits (c : Circ) (v : Bs) : bitsOk (nexts c v) c.latches.length = true := by
  simp only [bitsOk, nexts, Bool.and_eq_true, List.all_eq_true, List.length_map, decide_true, and_true]
  intro b hb
  obtain ⟨x, _, rfl⟩ := List.mem_map.1 hb
  split <;> rfl

def badIns (n : Nat) (l : List Bs) : Bool := l.any fun s => !bitsOk s n

def difE (a b : Circ) (l : List Bs) : Int := if togE a b ≠ 0 then togE a b else if badIns a.inputs.length l = true then 5 else 0

theorem tog_ok {a b : Circ} (h : togE a b = 0) : chk a = true ∧ chk b = true ∧ a.inputs.length = b.inputs.length ∧ a.outputs.length = b.outputs.length := by
  unfold togE at h
  split at h
  · cases h
  · rename_i h1
    split at h
    · cases h
    · rename_i h2
      refine ⟨?_, ?_, ?_, ?_⟩
      · cases h : chk a with
        | true => rfl
        | false => exact absurd (Or.inl h) h1
      · cases h : chk b with
        | true => rfl
        | false => exact absurd (Or.inr h) h1
      · by_cases h : a.inputs.length = b.inputs.length
        · exact h
        · exact absurd (Or.inl h) h2
      · by_cases h : a.outputs.length = b.outputs.length
        · exact h
        · exact absurd (Or.inr h) h2

end Go.Proofs.YtpkaoabpifeigaaGreatDoor.PC
