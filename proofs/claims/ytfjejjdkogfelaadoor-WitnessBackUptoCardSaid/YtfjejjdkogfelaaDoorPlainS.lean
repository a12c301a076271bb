/- Plain: what stands between some octet; lines and words. -/
import Derived.Lib.Split
import Derived.Lib.SplitLaws
namespace Go.Proofs.YtfjejjdkogfelaaDoor
open Go

namespace PS
/-- what stands between the octet c -/
def cut (c : UInt8) : List UInt8 → List (List UInt8)
  | [] => [[]]
  | b :: l => if b = c then [] :: cut c l else match cut c l with
    | [] => [[b]]
    | p :: r => (b :: p) :: r

theorem cut_ne (c : UInt8) (s : List UInt8) : cut c s ≠ [] := by
  cases s with
  | nil => simp [cut]
  | cons b l =>
    unfold cut
    split
    · simp
    · split <;> simp

theorem cut_cons_ne {c b : UInt8} (h : b ≠ c) (l : List UInt8) : ∃ p r, cut c l = p :: r ∧ cut c (b :: l) = (b :: p) :: r := by
  cases e : cut c l with
  | nil => exact absurd e (cut_ne c l)
  | cons p r => exact ⟨p, r, rfl, by rw [cut, if_neg h, e]⟩

theorem splitK_cut (c : UInt8) : ∀ s : List UInt8, Lib.splitK [c] 0 (Lib.count s [c]) s = cut c s
  | [] => by rw [show Lib.count [] [c] = 0 by rw [Lib.count_one]; rfl]; rfl
  | b :: l => by
    have ih := splitK_cut c l
    by_cases h : b = c
    · subst h
      rw [Lib.count_cons_eq, Nat.add_comm, cut, if_pos rfl, ← ih]
      have hi : Lib.index (b :: l) [b] = 0 := by simp [Lib.index, List.isPrefixOf]
      rw [Lib.splitK, hi]
      simp
    · obtain ⟨p, r, e1, e2⟩ := cut_cons_ne h l
      rw [Lib.count_cons_ne b c l h, e2]
      rw [e1] at ih
      cases hk : Lib.count l [c] with
      | zero =>
        rw [hk] at ih
        have e : [l] = p :: r := ih
        injection e with e3 e4
        rw [← e3, ← e4]; rfl
      | succ k =>
        rw [hk] at ih
        have hge := Lib.index_ge l [c]
        have hi : Lib.index (b :: l) [c] = if Lib.index l [c] == -1 then -1 else Lib.index l [c] + 1 := by
          have : ([c] : List UInt8).isPrefixOf (b :: l) = false := by simp [List.isPrefixOf]; exact fun e => h e.symm
          rw [Lib.index, this]; rfl
        unfold Lib.splitK at ih ⊢
        rw [hi]
        by_cases hm : (Lib.index l [c] == -1) = true
        · rw [if_pos hm] at ih
          rw [if_pos (by rw [if_pos hm]; rfl)]
          injection ih with e3 e4
          rw [← e3, ← e4]
        · rw [if_neg hm] at ih
          have hm2 : Lib.index l [c] ≠ -1 := by simpa using hm
          rw [if_neg hm, if_neg (by simp; omega)]
          injection ih with e3 e4
          have en : (Lib.index l [c] + 1).toNat = (Lib.index l [c]).toNat + 1 := by omega
          rw [en]
          simp only [Nat.add_zero] at *
          rw [List.take_succ_cons, e3]
          congr 1

/-- the pieces, the octet behind each -/
def flat (c : UInt8) (l : List (List UInt8)) : List UInt8 := (l.map fun p => p ++ [c]).flatten

theorem flat_append (c : UInt8) (a b : List (List UInt8)) : flat c (a ++ b) = flat c a ++ flat c b := by simp [flat]
theorem flat_one (c : UInt8) (p : List UInt8) : flat c [p] = p ++ [c] := by simp [flat]
theorem flat_nil (c : UInt8) : flat c [] = [] := rfl

theorem flat_cut (c : UInt8) : ∀ s : List UInt8, flat c (cut c s) = s ++ [c]
  | [] => by simp [cut, flat]
  | b :: l => by
    have ih := flat_cut c l
    by_cases h : b = c
    · rw [cut, if_pos h, show ([] :: cut c l) = [[]] ++ cut c l from rfl, flat_append, ih, h]; simp [flat]
    · obtain ⟨p, r, e1, e2⟩ := cut_cons_ne h l
      rw [e1, show p :: r = [p] ++ r from rfl, flat_append, flat_one] at ih
      rw [e2, show (b :: p) :: r = [b :: p] ++ r from rfl, flat_append, flat_one]
      simp only [List.cons_append]
      rw [ih]

theorem cut_clean (c : UInt8) : ∀ (s : List UInt8), ∀ p ∈ cut c s, c ∉ p
  | [] => by simp [cut]
  | b :: l => by
    have ih := cut_clean c l
    intro p hp
    by_cases h : b = c
    · rw [cut, if_pos h] at hp
      rcases List.mem_cons.1 hp with e | e
      · subst e; simp
      · exact ih p e
    · obtain ⟨q, r, e1, e2⟩ := cut_cons_ne h l
      rw [e1] at ih
      rw [e2] at hp
      rcases List.mem_cons.1 hp with e | e
      · subst e
        intro hm
        rcases List.mem_cons.1 hm with e3 | e3
        · exact h e3.symm
        · exact ih q (by simp) e3
      · exact ih p (by simp [e])

/-- lines: the last piece is left out, if it is empty -/
def lines (s : List UInt8) : List (List UInt8) := if (cut 10 s).getLast (cut_ne 10 s) = [] then (cut 10 s).dropLast else cut 10 s

theorem lines_law (s : List UInt8) : flat 10 (lines s) = s ∨ flat 10 (lines s) = s ++ [10] := by
  unfold lines
  split
  · rename_i h
    left
    have h1 := flat_cut 10 s
    rw [← List.dropLast_concat_getLast (cut_ne 10 s), flat_append, flat_one, h, List.nil_append] at h1
    exact (List.append_inj' h1 rfl).1
  · right
    exact flat_cut 10 s

/-- a piece without the octet -/
theorem cut_one {c : UInt8} : ∀ {p : List UInt8}, c ∉ p → cut c p = [p]
  | [], _ => rfl
  | b :: l, h => by
    have h1 : b ≠ c := fun e => h (by simp [e])
    have ih := cut_one (c := c) (p := l) (fun e => h (by simp [e]))
    rw [cut, if_neg h1, ih]

theorem cut_append {c : UInt8} : ∀ {p : List UInt8} (s : List UInt8), c ∉ p → cut c (p ++ c :: s) = p :: cut c s
  | [], s, _ => by rw [List.nil_append, cut, if_pos rfl]
  | b :: l, s, h => by
    have h1 : b ≠ c := fun e => h (by simp [e])
    have ih := cut_append (p := l) s (fun e => h (List.mem_cons_of_mem _ e))
    rw [List.cons_append, cut, if_neg h1, ih]

/-- words: the pieces that are not empty -/
def words (s : List UInt8) : List (List UInt8) := (cut 32 s).filter fun p => !p.isEmpty

/-- words with one blank between -/
def join : List (List UInt8) → List UInt8
  | [] => []
  | [p] => p
  | p :: q :: r => p ++ 32 :: join (q :: r)

theorem cut_join : ∀ (l : List (List UInt8)), l ≠ [] → (∀ p ∈ l, (32 : UInt8) ∉ p) → cut 32 (join l) = l
  | [], h, _ => absurd rfl h
  | [p], _, h => by rw [join, cut_one (h p (by simp))]
  | p :: q :: r, _, h => by
    rw [join, cut_append _ (h p (by simp)), cut_join (q :: r) (by simp) (fun x hx => h x (by simp [hx]))]

theorem words_mem (s : List UInt8) : ∀ p ∈ words s, p ≠ [] ∧ (32 : UInt8) ∉ p := by
  intro p hp
  obtain ⟨h1, h2⟩ := List.mem_filter.1 hp
  exact ⟨by intro e; subst e; simp at h2, cut_clean 32 s p h1⟩

theorem words_join (s : List UInt8) : words (join (words s)) = words s := by
  have hm := words_mem s
  generalize words s = l at hm
  cases l with
  | nil => rfl
  | cons p r =>
    unfold words
    rw [cut_join _ (by simp) fun x hx => (hm x hx).2]
    rw [List.filter_eq_self]
    intro x hx
    have := (hm x hx).1
    cases x with
    | nil => exact absurd rfl this
    | cons y t => rfl
end PS
end Go.Proofs.YtfjejjdkogfelaaDoor
