/- Plain: what sim computes is the page's. -/
import Derived.Test.YtpkaoabpifeigaaGreatDoorPlainW
import Derived.Test.YtpkaoabpifeigaaGreatDoorPlainC3
import Derived.Lib.SlTrimSet
namespace Go.Proofs.YtpkaoabpifeigaaGreatDoor
namespace PC

/-- a bit's octet -/
def bitB (b : Bool) : UInt8 := if b then 49 else 48

theorem bit_min (a b : Bool) : min (bitB a) (bitB b) = bitB (a && b) := by cases a <;> cases b <;> decide

theorem setGats_take_next (s : Bs) (l : List Gat) (k : Nat) (h : k < l.length) : setGats s (l.take (k + 1)) = (if tru (setGats s (l.take k)) l[k].left && tru (setGats s (l.take k)) l[k].right then (setGats s (l.take k)).set (varOf l[k].lit) 49 else setGats s (l.take k)) := by
  induction l generalizing s k with
  | nil => simp at h
  | cons a r ih =>
    cases k with
    | zero => simp [setGats]
    | succ k =>
      have h' : k < r.length := by simpa using h
      rw [List.take_succ_cons, setGats, ih _ k h', List.take_succ_cons, setGats]
      simp

theorem setAll_take_next (l : List (Int × UInt8)) (k : Nat) (h : k < l.length) (s : Bs) : setAll s (l.take (k + 1)) = (setAll s (l.take k)).set (varOf l[k].1) l[k].2 := by
  induction l generalizing s k with
  | nil => simp at h
  | cons p r ih =>
    cases k with
    | zero => rfl
    | succ k =>
      simp only [List.take_succ_cons, setAll, List.getElem_cons_succ]
      exact ih k (by simpa using h) _

theorem gate_bit (c : Circ) (h : Right c) (st i : Bs) (k : Nat) (hk : k < c.ands.length) : (setGats (start c st i) (c.ands.take k))[varOf c.ands[k].lit]? = some 48 := by
  have hm := List.getElem_mem hk
  have hap := gate_apart c h _ hm
  rw [setGats_other _ _ _ fun a ha e => ?_]
  · exact start_other c st i _ (def_lt c h _ (mem_defs_gat c _ hm)) hap.1 hap.2
  · obtain ⟨j, hj, rfl⟩ := List.getElem_of_mem ha
    rw [List.getElem_take] at e
    have hj' : j < k := by simp at hj; omega
    have hr := (rising_iff c.ands).1 h.rise
    have hlt : ∀ m, j < m → (hm : m < c.ands.length) → (c.ands[j]'(by omega)).lit < c.ands[m].lit := by
      intro m
      induction m with
      | zero => intro h0; omega
      | succ m ih =>
        intro h0 hm
        have h1 := hr m hm
        by_cases e : j = m
        · subst e; exact h1
        · have := ih (by omega) (by omega)
          omega
    have h1 := hlt k hj' hk
    have d1 := h.defs _ (mem_defs_gat c _ (List.getElem_mem (show j < c.ands.length by omega)))
    have d2 := h.defs _ (mem_defs_gat c _ hm)
    have := varOf_inj _ _ ⟨d1.1, d1.2.1⟩ ⟨d2.1, d2.2.1⟩ e
    omega

theorem gate_step (c : Circ) (h : Right c) (st i : Bs) (k : Nat) (hk : k < c.ands.length) :
    setGats (start c st i) (c.ands.take (k + 1)) = (setGats (start c st i) (c.ands.take k)).set (varOf c.ands[k].lit) (min (bitB (tru (setGats (start c st i) (c.ands.take k)) c.ands[k].left)) (bitB (tru (setGats (start c st i) (c.ands.take k)) c.ands[k].right))) := by
  rw [setGats_take_next _ _ _ hk]
  have hb := gate_bit c h st i k hk
  generalize setGats (start c st i) (c.ands.take k) = S at *
  have hself : S.set (varOf c.ands[k].lit) 48 = S := by
    apply List.ext_getElem?
    intro j
    rw [List.getElem?_set]
    by_cases e : varOf c.ands[k].lit = j
    · subst e
      obtain ⟨hl, hb2⟩ := List.getElem?_eq_some_iff.1 hb
      simp [hl, hb2]
    · simp [e]
  rw [bit_min]
  cases (tru S c.ands[k].left && tru S c.ands[k].right) with
  | true => rfl
  | false => exact hself.symm

theorem tru_of_bits (m : Bs) (l : Int) (hb : ∀ b ∈ m, b = 48 ∨ b = 49) :
    bitB (tru m l) = (if negOf l then 97 - (m[varOf l]?.getD 48) else m[varOf l]?.getD 48) := by
  unfold tru bitB
  cases hx : m[varOf l]? with
  | none => cases negOf l <;> rfl
  | some b =>
    have := hb b (List.mem_of_getElem? hx)
    rcases this with rfl | rfl <;> cases negOf l <;> rfl

theorem head_not (p : UInt8 → Bool) : ∀ (l : List UInt8) (b : UInt8) (r : List UInt8), l.dropWhile p = b :: r → p b = false
  | [], _, _, h => by simp at h
  | x :: l, b, r, h => by
    rw [List.dropWhile_cons] at h
    cases hx : p x with
    | true => rw [hx] at h; exact head_not p l b r (by simpa using h)
    | false =>
      rw [hx] at h
      have h' : x :: l = b :: r := by simpa using h
      injection h' with h1 h2
      rw [← h1]; exact hx

/-- a text of bits is trimmed to nothing -/
theorem trim_bits (s : Bs) : (Go.Lib.trimS s [48, 49] = []) ↔ s.all (fun b => b == 48 || b == 49) = true := by
  have hp : ∀ b : UInt8, ([48, 49] : List UInt8).contains b = (b == 48 || b == 49) := by
    intro b
    simp only [List.contains, List.elem]
    cases b == 48 <;> cases b == 49 <;> rfl
  have hd : ∀ l : List UInt8, l.dropWhile (fun b => ([48, 49] : List UInt8).contains b) = [] ↔ l.all (fun b => b == 48 || b == 49) = true := by
    intro l
    induction l with
    | nil => simp
    | cons b r ih =>
      rw [List.dropWhile_cons, List.all_cons, ← hp b]
      cases ([48, 49] : List UInt8).contains b with
      | true => simpa using ih
      | false => simp
  unfold Go.Lib.trimS Go.Lib.trimLeftS Go.Lib.trimRightS
  rw [hd]
  constructor
  · intro h
    have h2 : (s.reverse.dropWhile (fun b => ([48, 49] : List UInt8).contains b)) = [] := by
      cases e : s.reverse.dropWhile (fun b => ([48, 49] : List UInt8).contains b) with
      | nil => rfl
      | cons b r =>
        have h3 := head_not (fun b => ([48, 49] : List UInt8).contains b) s.reverse b r e
        rw [e] at h
        rw [List.all_reverse, List.all_cons, Bool.and_eq_true, ← hp b] at h
        exact absurd h.1 (by rw [h3]; decide)
    have := (hd _).1 h2
    rwa [List.all_reverse] at this
  · intro h
    have h2 := (hd s.reverse).2 (by rwa [List.all_reverse])
    rw [h2]; rfl
theorem chk_of_valuesE (c : Circ) (st i : Bs) (h : valuesE c st i = 0) : chk c = true ∧ bitsOk st c.latches.length = true ∧ bitsOk i c.inputs.length = true := by
  unfold valuesE at h
  split at h
  · cases h
  split at h
  · cases h
  · rename_i h1 h2
    refine ⟨by simpa using h1, ?_, ?_⟩
    · cases e : bitsOk st c.latches.length with
      | true => rfl
      | false => exact absurd (Or.inl e) h2
    · cases e : bitsOk i c.inputs.length with
      | true => rfl
      | false => exact absurd (Or.inr e) h2
end PC
end Go.Proofs.YtpkaoabpifeigaaGreatDoor
