/- Plain: witnesses' texts. -/
import Derived.Test.YtfjejjdkogfelaaDoorPlain01
import Derived.Test.YtfjejjdkogfelaaDoorPlainS
import Derived.Test.YtfjejjdkogfelaaDoorPlainM
import Derived.Lib.Join
namespace Go.Proofs.YtfjejjdkogfelaaDoor
open Go
namespace PW
abbrev Bs := List UInt8

/-- may a witness be printed? -/
def fits (bad : Int) (st : Bs) (ins : List Bs) : Bool :=
  decide (0 ≤ bad) && decide (bad ≤ 63) && decide (st.length ≤ 64) && decide (1 ≤ ins.length) && decide (ins.length ≤ 80) && PC.bitsOk st st.length &&
    ins.all fun x => PC.bitsOk x (ins.headD []).length && decide (x.length ≤ 64)

def lines (bad : Int) (st : Bs) (ins : List Bs) : List Bs := [49] :: (98 :: P01.decI bad) :: st :: (ins ++ [[46]])
def text (bad : Int) (st : Bs) (ins : List Bs) : Bs := PS.flat 10 (lines bad st ins)
def printE (bad : Int) (st : Bs) (ins : List Bs) : Int := if fits bad st ins = true then 0 else 9
def printS (bad : Int) (st : Bs) (ins : List Bs) : Bs := if fits bad st ins = true then text bad st ins else []

theorem fits_iff (bad : Int) (st : Bs) (ins : List Bs) : fits bad st ins = true ↔ (0 ≤ bad ∧ bad ≤ 63 ∧ st.length ≤ 64 ∧ 1 ≤ ins.length ∧ ins.length ≤ 80 ∧ PC.bitsOk st st.length = true) ∧
    ∀ x ∈ ins, PC.bitsOk x (ins.headD []).length = true ∧ x.length ≤ 64 := by
  unfold fits
  simp only [Bool.and_eq_true, decide_eq_true_eq, List.all_eq_true, and_assoc]

/-- the code's form of it: the first input's length alone is held against the bound -/
theorem fits_code (bad : Int) (st : Bs) (ins : List Bs) (h : 1 ≤ ins.length) : fits bad st ins = (decide (0 ≤ bad) && decide (bad ≤ 63) && decide (st.length ≤ 64) && decide (ins.length ≤ 80) && decide ((ins.headD []).length ≤ 64) &&
    PC.bitsOk st st.length && !(ins.any fun x => !PC.bitsOk x (ins.headD []).length)) := by
  rw [Bool.eq_iff_iff, fits_iff]
  simp only [Bool.and_eq_true, decide_eq_true_eq, Bool.not_eq_true', List.any_eq_false, Bool.not_eq_false, and_assoc]
  have hm : ins.headD [] ∈ ins := by
    cases ins with
    | nil => simp at h
    | cons x r => simp
  constructor
  · rintro ⟨h1, h2, h3, _, h5, h6, h7⟩
    exact ⟨h1, h2, h3, h5, (h7 _ hm).2, h6, fun x hx => by simp only [(h7 x hx).1]⟩
  · rintro ⟨h1, h2, h3, h5, h4, h6, h7⟩
    refine ⟨h1, h2, h3, h, h5, h6, fun x hx => ?_⟩
    have hb : PC.bitsOk x (ins.headD []).length = true := by simpa using h7 x hx
    refine ⟨hb, ?_⟩
    have : x.length = (ins.headD []).length := by
      unfold PC.bitsOk at hb
      simp only [Bool.and_eq_true, decide_eq_true_eq] at hb
      exact hb.2
    omega

theorem fits_none (bad : Int) (st : Bs) (ins : List Bs) (h : ins.length = 0) : fits bad st ins = false := by
  rw [Bool.eq_false_iff]
  intro hf
  have := ((fits_iff bad st ins).1 hf).1.2.2.2.1
  omega

/-- with a newline between, and one behind -/
theorem join_flat : ∀ l : List Bs, l ≠ [] → Lib.join l [10] ++ [10] = PS.flat 10 l
  | [], h => absurd rfl h
  | [p], _ => by rw [Lib.join_one, PS.flat_one]
  | p :: q :: r, _ => by
    have ih := join_flat (q :: r) (by simp)
    rw [Lib.join_cons] at ih ⊢
    rw [show PS.flat 10 (p :: q :: r) = p ++ [10] ++ PS.flat 10 (q :: r) from by simp [PS.flat], ← ih]
    simp [Lib.joinTail]

theorem flat_len (l : List Bs) (m : Nat) (h : ∀ p ∈ l, p.length ≤ m) : (PS.flat 10 l).length ≤ l.length * (m + 1) := by
  induction l with
  | nil => simp [PS.flat]
  | cons p r ih =>
    have h1 := h p (by simp)
    have h2 := ih fun q hq => h q (by simp [hq])
    have e : PS.flat 10 (p :: r) = p ++ [10] ++ PS.flat 10 r := by simp [PS.flat]
    have e2 : (p :: r).length * (m + 1) = r.length * (m + 1) + (m + 1) := by rw [List.length_cons, Nat.succ_mul]
    have e3 : (p ++ [10] ++ PS.flat 10 r).length = p.length + 1 + (PS.flat 10 r).length := by rw [List.length_append, List.length_append]; rfl
    rw [e, e2, e3]
    omega

theorem lines_len (bad : Int) (st : Bs) (ins : List Bs) : (lines bad st ins).length = ins.length + 4 := by simp [lines]

theorem lines_short {bad : Int} {st : Bs} {ins : List Bs} (h : fits bad st ins = true) : ∀ p ∈ lines bad st ins, p.length ≤ 64 := by
  obtain ⟨⟨h1, h2, h3, h4, h5, h6⟩, h7⟩ := (fits_iff bad st ins).1 h
  intro p hp
  simp only [lines, List.mem_cons, List.mem_append] at hp
  rcases hp with rfl | rfl | rfl | hp | rfl | hp
  · decide
  · have := P01.dec_len bad.natAbs 2 (by omega) (by omega)
    unfold P01.decI
    rw [if_neg (by omega)]
    simp; omega
  · exact h3
  · exact (h7 p hp).2
  · decide
  · cases hp

theorem text_len {bad : Int} {st : Bs} {ins : List Bs} (h : fits bad st ins = true) : (text bad st ins).length ≤ 5460 := by
  have h1 := flat_len _ 64 (lines_short h)
  rw [lines_len] at h1
  have := ((fits_iff bad st ins).1 h).1.2.2.2.2.1
  unfold text
  omega
end PW
end Go.Proofs.YtfjejjdkogfelaaDoor
