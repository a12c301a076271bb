/- The walk of TseitinValues. -/
import Derived.Test.YtaadhkjehlkiiaaWalkG2
import Derived.Test.YtaadhkjehlkiiaaWalkL1
namespace Go.Proofs.Ytaadhkjehlkiiaa
open Go.RowKit Go.Shelf
attribute [local simp] mk_get

/-- is a variable an and's? -/
def isGate (c : PC.Circ) (v : Nat) : Bool := c.ands.any fun a => decide (a.lit = 2 * (v : Int))

set_option maxRecDepth 100000 in
set_option maxHeartbeats 2000000 in
theorem gate12_any (c : PC.Circ) (vc : Value) (v : Nat) (w : World) (h : IsCirc w vc c) (hv : v ≤ 4096) :
    Calls Try.prog 23 #[vc, .int .i64 (v : Int)] w fun e w' => e = .returned (.bool (isGate c v)) ∧ Below w.heap.size w w' := by
  obtain ⟨vi, vl, vo, vb, vv, va, vn, rfl, hp, hm⟩ := h
  obtain ⟨aa, capa, rfl, ha1, ha2, ha3⟩ := hp.ands.open_
  clear hp
  have HG := Lib.hid ha3
  clear ha3
  have hb0 : Below w.heap.size w (w.alloc (.cells #[.int .i64 c.max, vi, vl, vo, vb, vv, .slice aa c.ands.length capa, vn] 27)) := (Below.refl _ _).alloc (Nat.le_refl _) _
  have hbx := Lib.hid (Box8.new w (.int .i64 c.max) vi vl vo vb vv (.slice aa c.ands.length capa) vn 27)
  obtain ⟨R, hR⟩ : ∃ R, R = isGate c v := ⟨_, rfl⟩
  rw [← hR]
  have HR := Lib.hid hR
  clear hR
  have ew : IntKind.i64.wrap (2 * (v : Int)) = 2 * (v : Int) := IntWalk.i64_in _ (by omega)
  go_enter Try.func23, Try.ntmps23
  go_wp2
  obtain ⟨W1, hW1⟩ : ∃ W1, W1 = w.alloc (.cells #[.int .i64 c.max, vi, vl, vo, vb, vv, .slice aa c.ands.length capa, vn] 27) := ⟨_, rfl⟩
  rw [← hW1] at hb0 hbx ⊢
  clear hW1
  obtain ⟨q0, q1, q2, q3, q4, q5, q6, q7⟩ := hbx.out
  go_loopg [5] c.ands.length (fun gg s5 wr => ∃ k : Nat, k ≤ c.ands.length ∧ c.ands.length - k ≤ gg ∧ s5 = .int .i64 k ∧ W1 = wr ∧ Aside (∀ j (hj : j < k) (h : j < c.ands.length), ¬ c.ands[j].lit = 2 * (v : Int)))
  case atStart => exact ⟨0, Nat.zero_le _, by omega, rfl, rfl, fun j hj => absurd hj (Nat.not_lt_zero _)⟩
  case round =>
    obtain ⟨k, hk, hg, rfl, rfl, A⟩ := hrel
    by_cases hlt : k < c.ands.length
    · obtain ⟨b, off, rfl, hbs, ⟨hxr, _, _⟩, c0, _, _⟩ := HG.out k hlt
      have c0 := (hb0.cell hbs).trans c0
      have hmea : ∀ g : Nat, c.ands.length - k ≤ g → c.ands.length - (k + 1) < g := fun g h => by omega
      obtain ⟨x, hx⟩ : ∃ x, c.ands[k].lit = x := ⟨_, rfl⟩
      rw [hx] at c0
      have X := Lib.hid hx
      clear hx
      have hltz : (k : Int) < (c.ands.length : Int) := by omega
      by_cases he : x = 2 * (v : Int)
      · have HE := Lib.hid he
        have he2 : (x == 2 * (v : Int)) = true := by simpa using he
        clear he
        go_wp2
        go_ret
        have : R = true := by
          rw [HR.out, isGate, List.any_eq_true]
          exact ⟨c.ands[k], List.getElem_mem hlt, by rw [X.out]; exact decide_eq_true HE.out⟩
        exact ⟨by rw [this]; rfl, hb0⟩
      · have HE := Lib.hid he
        have he2 : (x == 2 * (v : Int)) = false := by simpa using he
        clear he
        go_wp2
        go_roundg (c.ands.length - (k + 1))
        case measure => exact hmea _ hg
        case rel =>
          refine ⟨k + 1, by omega, by omega, by go_num, rfl, (show Aside _ from fun j hj h => ?_)⟩
          by_cases e : j = k
          · subst e; rw [X.out]; exact HE.out
          · exact A.out j (by omega) h
    · have hltz : ¬ (k : Int) < (c.ands.length : Int) := by omega
      obtain rfl : k = c.ands.length := by omega
      go_wp2
      go_ret
      have : R = false := by
        rw [HR.out, isGate, List.any_eq_false]
        intro a ha
        obtain ⟨j, hj, rfl⟩ := List.getElem_of_mem ha
        simpa using A.out j hj hj
      exact ⟨by rw [this]; rfl, hb0⟩

/-- may a variable be turned? -/
def free (c : PC.Circ) (v : Nat) : Bool := decide (v = 0) || isGate c v || (PC.kindS c (v : Int)).isEmpty

/-- an input or a latch is not turned -/
theorem free_def (c : PC.Circ) (h : PC.Right c) (d : Int) (hd : d ∈ c.inputs ∨ d ∈ c.latches.map (·.lit)) : free c (PC.varOf d) = false := by
  have hdd : d ∈ c.defs := by
    unfold PC.Circ.defs
    rcases hd with hd | hd
    · exact List.mem_append_left _ (List.mem_append_left _ hd)
    · exact List.mem_append_left _ (List.mem_append_right _ hd)
  have hr := h.defs d hdd
  have hv : (PC.varOf d : Int) = d / 2 := by unfold PC.varOf; omega
  have h2 : 2 * (PC.varOf d : Int) = d := by omega
  unfold free
  have e0 : decide (PC.varOf d = 0) = false := decide_eq_false (by omega)
  have e1 : isGate c (PC.varOf d) = false := by
    unfold isGate
    rw [List.any_eq_false]
    intro a ha hh
    have hh := of_decide_eq_true hh
    rw [h2] at hh
    have hn := h.nodup
    unfold PC.Circ.defs at hn
    rw [List.nodup_append] at hn
    refine hn.2.2 d ?_ a.lit (List.mem_map.2 ⟨a, ha, rfl⟩) hh.symm
    rcases hd with hd | hd
    · exact List.mem_append_left _ hd
    · exact List.mem_append_right _ hd
  have e2 : (PC.kindS c (PC.varOf d : Int)).isEmpty = false := by
    rw [PC.kindS_ne]
    right
    rw [PC.hasVar_iff]
    exact ⟨d, hdd, by omega, hv.symm⟩
  rw [e0, e1, e2]; rfl

end Go.Proofs.Ytaadhkjehlkiiaa
