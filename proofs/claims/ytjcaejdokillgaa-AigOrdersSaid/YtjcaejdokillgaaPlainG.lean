/- Plain circuits: what is defined, step by step; how many gates there are. -/
import Derived.Test.YtjcaejdokillgaaPlainW
import Derived.Test.YtjcaejdokillgaaPlainC3
namespace Go.Proofs.Ytjcaejdokillgaa.PC

theorem gate_lit_ge (c : Circ) (h : Right c) : ∀ k (hk : k < c.ands.length), 2 * ((k : Int) + 1) ≤ c.ands[k].lit := by
  have hr := (rising_iff c.ands).1 h.rise
  intro k
  induction k with
  | zero => intro hk; have := (h.defs _ (mem_defs_gat c _ (List.getElem_mem hk))).1; omega
  | succ k ih =>
    intro hk
    have h1 := ih (by omega)
    have h2 := hr k hk
    have h3 := (h.defs _ (mem_defs_gat c _ (List.getElem_mem (show k < c.ands.length by omega)))).2.1
    have h4 := (h.defs _ (mem_defs_gat c _ (List.getElem_mem hk))).2.1
    omega

theorem ands_len (c : Circ) (h : Right c) : c.ands.length ≤ 2048 := by
  by_cases h0 : c.ands.length = 0
  · omega
  · have h1 := gate_lit_ge c h (c.ands.length - 1) (by omega)
    have h2 := (h.defs _ (mem_defs_gat c _ (List.getElem_mem (show c.ands.length - 1 < c.ands.length by omega)))).2.2
    have := h.max1
    omega

def dfI (c : Circ) (k v : Nat) : Bool := (c.inputs.take k).any fun d => varOf d == v
def dfL (c : Circ) (k v : Nat) : Bool := (c.inputs ++ (c.latches.take k).map (·.lit)).any fun d => varOf d == v
def dfG (c : Circ) (k v : Nat) : Bool := (c.inputs ++ c.latches.map (·.lit) ++ (c.ands.take k).map (·.lit)).any fun d => varOf d == v
theorem dfI_zero (c : Circ) (v : Nat) : dfI c 0 v = false := by simp [dfI]
theorem dfI_succ (c : Circ) (k v : Nat) (h : k < c.inputs.length) : dfI c (k + 1) v = (dfI c k v || varOf c.inputs[k] == v) := by
  unfold dfI
  rw [List.take_succ_eq_append_getElem h, List.any_append]; simp
theorem dfI_end (c : Circ) (v : Nat) : dfI c c.inputs.length v = dfL c 0 v := by simp [dfI, dfL]
theorem dfL_succ (c : Circ) (k v : Nat) (h : k < c.latches.length) : dfL c (k + 1) v = (dfL c k v || varOf c.latches[k].lit == v) := by
  unfold dfL
  rw [defs_lat c k h, List.any_append]; simp
theorem dfL_end (c : Circ) (v : Nat) : dfL c c.latches.length v = dfG c 0 v := by simp [dfL, dfG]
theorem dfG_succ (c : Circ) (k v : Nat) (h : k < c.ands.length) : dfG c (k + 1) v = (dfG c k v || varOf c.ands[k].lit == v) := by
  unfold dfG
  rw [defs_gat c k h, List.any_append]; simp
theorem dfG_end (c : Circ) (v : Nat) : dfG c c.ands.length v = isDef c v := by
  unfold dfG isDef Circ.defs
  rw [List.take_length]

end Go.Proofs.Ytjcaejdokillgaa.PC
