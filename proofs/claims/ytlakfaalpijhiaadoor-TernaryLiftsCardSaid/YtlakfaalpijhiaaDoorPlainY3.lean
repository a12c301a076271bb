/- Plain: what is known always, for any bound; the page's loops, step by step. -/
import Derived.Test.YtlakfaalpijhiaaDoorPlainY2
namespace Go.Proofs.YtlakfaalpijhiaaDoor
namespace PC

def widL (c : Circ) (most : Int) : Bs := if widE c most = 0 then widS c (widN c most.toNat) else []
def widM (c : Circ) (most : Int) : Int := if widE c most = 0 then (widN c most.toNat : Int) else 0

theorem widE_false {c : Circ} (most : Int) (h : chk c = false) : widE c most = 9 := by unfold widE; rw [if_pos h]
theorem widE_off {c : Circ} {most : Int} (h : chk c = true) (hm : most < 0 ∨ 80 < most) : widE c most = 4 := by
  unfold widE; rw [if_neg (by rw [h]; decide), if_pos hm]
theorem widE_on {c : Circ} {most : Int} (h : chk c = true) (hm : ¬ (most < 0 ∨ 80 < most)) : widE c most = 0 := by
  unfold widE; rw [if_neg (by rw [h]; decide), if_neg hm]

theorem take_next {l : Bs} (k : Nat) (h : k < l.length) : l.take (k + 1) = l.take k ++ [l[k]] := List.take_succ_eq_append_getElem h

theorem fst_length (c : Circ) : (fstT c).length = c.latches.length := by simp [fstT]
theorem fst_get (c : Circ) (k : Nat) (h : k < c.latches.length) : (fstT c)[k]'(by rw [fst_length]; exact h) = if c.latches[k].reset = c.latches[k].lit then 120 else if c.latches[k].reset = 1 then 49 else 48 := by
  simp [fstT]

theorem widNext_length (c : Circ) (s : Bs) (h : s.length = c.latches.length) : (widNext c s).length = c.latches.length := by
  unfold widNext
  rw [join_length _ _ (by rw [tnexts_length, h]), h]
theorem widNext_get (c : Circ) (s : Bs) (h : s.length = c.latches.length) (k : Nat) (hk : k < c.latches.length) :
    (widNext c s)[k]'(by rw [widNext_length c s h]; exact hk) = if s[k] = ofT (tvals c s (xs c.inputs.length)) c.latches[k].next then s[k] else 120 := by
  unfold widNext
  rw [join_get _ _ _ _ (by omega) (by rw [tnexts_length]; exact hk)]
  have e : (tnexts c (tvals c s (xs c.inputs.length)))[k]'(by rw [tnexts_length]; exact hk) = ofT (tvals c s (xs c.inputs.length)) c.latches[k].next := by simp [tnexts]
  rw [e]

end PC
end Go.Proofs.YtlakfaalpijhiaaDoor
