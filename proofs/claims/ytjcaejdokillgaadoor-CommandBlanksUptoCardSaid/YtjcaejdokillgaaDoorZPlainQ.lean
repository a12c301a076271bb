/- Plain: words with blanks between and around them are the words again. -/
import Derived.Test.YtjcaejdokillgaaDoorZP2
namespace Go.Proofs.YtjcaejdokillgaaDoor
open Go

namespace PS
/-- with something between -/
def jn (b : List UInt8) : List (List UInt8) → List UInt8
  | [] => []
  | [p] => p
  | p :: q :: r => p ++ (b ++ jn b (q :: r))

theorem jn_snoc (b : List UInt8) : ∀ (l : List (List UInt8)) (p : List UInt8), l ≠ [] → jn b (l ++ [p]) = jn b l ++ b ++ p
  | [], _, h => absurd rfl h
  | [q], p, _ => by simp [jn]
  | q :: r :: t, p, _ => by
    have ih := jn_snoc b (r :: t) p (by simp)
    rw [show q :: r :: t ++ [p] = q :: r :: (t ++ [p]) from rfl, jn, show r :: (t ++ [p]) = r :: t ++ [p] from rfl, ih, jn]
    simp

theorem jn_mem (b : List UInt8) (x : UInt8) : ∀ l : List (List UInt8), x ∈ jn b l → x ∈ b ∨ ∃ p ∈ l, x ∈ p
  | [], h => by simp [jn] at h
  | [p], h => .inr ⟨p, by simp, h⟩
  | p :: q :: r, h => by
    rw [jn] at h
    rcases List.mem_append.1 h with h | h
    · exact .inr ⟨p, by simp, h⟩
    · rcases List.mem_append.1 h with h | h
      · exact .inl h
      · rcases jn_mem b x (q :: r) h with h | ⟨t, ht, h⟩
        · exact .inl h
        · exact .inr ⟨t, by simp at ht; rcases ht with rfl | ht <;> simp_all, h⟩

theorem flat_cons (c : UInt8) (p : List UInt8) (l : List (List UInt8)) : (flat c (p :: l)).length = p.length + 1 + (flat c l).length := by
  rw [show p :: l = [p] ++ l from rfl, flat_append, flat_one]
  simp
  omega

theorem jn_len (b : List UInt8) (hb : b.length = 3) : ∀ l : List (List UInt8), (jn b l).length ≤ 3 * (flat 32 l).length
  | [] => by simp [jn]
  | [p] => by have := flat_cons 32 p []; simp only [jn]; omega
  | p :: q :: r => by
    have ih := jn_len b hb (q :: r)
    have := flat_cons 32 p (q :: r)
    rw [jn, List.length_append, List.length_append, hb]
    omega

theorem flat_filter_leQ (c : UInt8) (f : List UInt8 → Bool) : ∀ l : List (List UInt8), (flat c (l.filter f)).length ≤ (flat c l).length
  | [] => by simp
  | p :: r => by
    have ih := flat_filter_leQ c f r
    have h1 := flat_cons c p r
    rw [List.filter_cons]
    split
    · have := flat_cons c p (r.filter f)
      omega
    · omega

theorem flat_words (s : List UInt8) : (flat 32 (words s)).length ≤ s.length + 1 := by
  have h := flat_filter_leQ 32 (fun p : List UInt8 => !p.isEmpty) (cut 32 s)
  rw [flat_cut] at h
  simpa [words] using h

theorem words_mem_of {s : List UInt8} {p : List UInt8} (h : p ∈ words s) {x : UInt8} (hx : x ∈ p) : x ∈ s := by
  have h1 := (List.mem_filter.1 h).1
  have h2 := (words_mem s p h).2
  have h3 : x ∈ flat 32 (cut 32 s) := by
    unfold flat
    exact List.mem_flatten.2 ⟨p ++ [32], List.mem_map.2 ⟨p, h1, rfl⟩, by simp [hx]⟩
  rw [flat_cut] at h3
  rcases List.mem_append.1 h3 with h3 | h3
  · exact h3
  · have : x = 32 := by simpa using h3
    rw [this] at hx
    exact absurd hx h2

theorem words_blank (s : List UInt8) : words (32 :: s) = words s := by
  unfold words
  rw [cut, if_pos rfl]
  simp
theorem words_cons {p : List UInt8} (h0 : p ≠ []) (h1 : (32 : UInt8) ∉ p) (s : List UInt8) : words (p ++ 32 :: s) = p :: words s := by
  unfold words
  rw [cut_append s h1, List.filter_cons]
  cases p with
  | nil => exact absurd rfl h0
  | cons a r => rfl
theorem words_nil : words [] = [] := rfl

theorem words_jn : ∀ l : List (List UInt8), (∀ p ∈ l, p ≠ [] ∧ (32 : UInt8) ∉ p) → words (jn [32, 32, 32] l ++ [32]) = l
  | [], _ => rfl
  | [p], h => by
    obtain ⟨h0, h1⟩ := h p (by simp)
    rw [jn, show p ++ [32] = p ++ 32 :: [] from rfl, words_cons h0 h1, words_nil]
  | p :: q :: r, h => by
    obtain ⟨h0, h1⟩ := h p (by simp)
    have ih := words_jn (q :: r) fun t ht => h t (by simp at ht ⊢; exact .inr ht)
    rw [jn, show (p ++ ([32, 32, 32] ++ jn [32, 32, 32] (q :: r))) ++ [32] = p ++ 32 :: (32 :: (32 :: (jn [32, 32, 32] (q :: r) ++ [32]))) from by simp, words_cons h0 h1, words_blank, words_blank, ih]

/-- the line with more blanks -/
def wide (s : List UInt8) : List UInt8 := [32, 32] ++ jn [32, 32, 32] (words s) ++ [32]
theorem words_wide (s : List UInt8) : words (wide s) = words s := by
  unfold wide
  rw [show [32, 32] ++ jn [32, 32, 32] (words s) ++ [32] = 32 :: (32 :: (jn [32, 32, 32] (words s) ++ [32])) from by simp, words_blank, words_blank, words_jn _ (words_mem s)]
theorem wide_len (s : List UInt8) : (wide s).length ≤ 3 * s.length + 6 := by
  have h1 := jn_len [32, 32, 32] rfl (words s)
  have h2 := flat_words s
  unfold wide
  rw [List.length_append, List.length_append]
  simp only [List.length_cons, List.length_nil]
  omega
theorem wide_any (f : UInt8 → Bool) (h32 : f 32 = false) {s : List UInt8} (h : s.any f = false) : (wide s).any f = false := by
  rw [List.any_eq_false] at h ⊢
  intro x hx
  unfold wide at hx
  have hb : x = 32 ∨ ∃ p ∈ words s, x ∈ p := by
    rcases List.mem_append.1 hx with hx | hx
    · rcases List.mem_append.1 hx with hx | hx
      · left; simpa using hx
      · rcases jn_mem _ x _ hx with hx | hx
        · left; simpa using hx
        · exact .inr hx
    · left; simpa using hx
  rcases hb with rfl | ⟨p, hp, hx⟩
  · rw [h32]; simp
  · exact h x (words_mem_of hp hx)
end PS
end Go.Proofs.YtjcaejdokillgaaDoor
