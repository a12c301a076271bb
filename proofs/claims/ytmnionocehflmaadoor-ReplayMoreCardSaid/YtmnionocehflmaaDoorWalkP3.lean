/- Contract: the states of a path. -/
import Derived.Test.YtmnionocehflmaaDoorWalkP2
import Derived.Laws.OwnMore
namespace Go.Proofs.YtmnionocehflmaaDoor
open Go.RowKit Go.Shelf

theorem infoStr : (Tryd.prog.info? 9).map (fun i => (i.zero, i.size, i.bytes)) = some (some (.string ⟨#[]⟩), 1, 16) := by kernel_rfl

theorem owns_below {w w' : World} {B : Nat} {e : TypeId} {k : Nat} {v : Value} {n : Nat} {xs : List Value} (h : w.ownsRow B e k v n xs) (hb : Below w.heap.size w w') : w'.ownsRow B e k v n xs :=
  h.kept ⟨hb.os, hb.tape, hb.output, hb.size, fun b hb' _ => hb.block b hb'⟩ (row := none) (by cases v.ownBlock <;> simp)

/-- a path's states, from the first one on -/
def statesL (c : PC.Circ) (st : PC.Bs) (ins : List PC.Bs) (n : Nat) : List PC.Bs := (List.range n).map fun k => stS c st (ins.take k)

theorem statesL_succ (c : PC.Circ) (st : PC.Bs) (ins : List PC.Bs) (n : Nat) : statesL c st ins (n + 1) = statesL c st ins n ++ [stS c st (ins.take n)] := by
  unfold statesL
  rw [List.range_succ, List.map_append]; rfl

theorem statesL_len (c : PC.Circ) (st : PC.Bs) (ins : List PC.Bs) (n : Nat) : (statesL c st ins n).length = n := by simp [statesL]

theorem statesL_get (c : PC.Circ) (st : PC.Bs) (ins : List PC.Bs) (n k : Nat) (h : k < (statesL c st ins n).length) : (statesL c st ins n)[k] = stS c st (ins.take k) := by simp [statesL]

def strV (s : List UInt8) : Value := .string ⟨s.toArray⟩

set_option maxRecDepth 100000 in
set_option maxHeartbeats 4000000 in
theorem States_any (c : PC.Circ) (vc : Value) (st : List UInt8) (ins : List (List UInt8)) (vins : Value) (w : World) (h : IsCirc w vc c) (hS : Strs w vins ins) (hck : PC.chk c = true) (hst : PC.bitsOk st c.latches.length = true)
    (hin : ∀ i ∈ ins, PC.bitsOk i c.inputs.length = true) (hroom : (ins.length + 1) * 16 ≤ 140737488355328) :
    Calls Tryd.prog 28 #[vc, .string ⟨st.toArray⟩, vins] w fun e w' => ∃ u, e = .returned (.tuple #[u, .int .i64 0]) ∧ Strs w' u (statesL c st ins (ins.length + 1)) ∧ Below w.heap.size w w' := by
  have hR := Lib.hid (PC.right_of c hck)
  have hCk := Lib.hid fun w1 (hb : Below w.heap.size w w1) => cCheck_any c vc w1 (h.mono hb)
  rw [PC.pchk_eq, hck] at hCk
  have hbk := Lib.hid (stS_bits c st ins hck hst hin)
  have hlen : Hid (∀ k, k ≤ ins.length → (stS c st (ins.take k)).length ≤ 9223372036854775807) := fun k hk => by
    have := (PC.bitsOk_mem (hbk.out k hk)).2
    have := hR.out.lats
    omega
  have hNx : Hid (∀ k (hk : k < ins.length) w1, Below w.heap.size w w1 → Calls Tryd.prog 15 #[vc, .string ⟨(stS c st (ins.take k)).toArray⟩, .string ⟨ins[k].toArray⟩] w1 fun e w' => e = .returned (.tuple #[.string ⟨(stS c st (ins.take (k + 1))).toArray⟩, .int .i64 0]) ∧ Below w1.heap.size w1 w') := fun k hk w1 hb => by
    have hi := hin _ (List.getElem_mem hk)
    have := simNext_any c vc (stS c st (ins.take k)) ins[k] w1 (h.mono hb) (hlen.out k (by omega)) (by
      have := (PC.bitsOk_mem hi).2
      have := hR.out.ins
      omega)
    rw [valuesE_ok c _ _ hck (hbk.out k (by omega)) hi, ← stS_succ c st ins k hk] at this
    exact this
  have hB := Lib.hid fun w1 => simBits_any st c.latches.length w1 (hlen.out 0 (by omega)) (by have := hR.out.lats; omega)
  rw [hst] at hB
  obtain ⟨vi, vl, vo, vb, vv, va, vn, rfl, hp, hm⟩ := h
  obtain ⟨al, capl, rfl, hl1, hl2, _⟩ := hp.latches.open_
  obtain ⟨as_, caps, rfl, hs1, hs2, hs3⟩ := hS.open_
  have HS := Lib.hid hs3
  clear hp hs3 hS
  have hbx0 := Lib.hid (Box8.new w (.int .i64 c.max) vi (.slice al c.latches.length capl) vo vb vv va vn 27)
  have hb0 := Lib.hid ((Below.refl w.heap.size w).alloc (Nat.le_refl _) (.cells #[.int .i64 c.max, vi, .slice al c.latches.length capl, vo, vb, vv, va, vn] 27))
  go_enter Tryd.func28, Tryd.ntmps28
  go_wp2_with fail
  refine (hCk.out _ hb0.out).mono ?_
  rintro e w1 ⟨rfl, hb1⟩
  have hbx1 := Lib.hid (hbx0.out.mono hb1)
  have hbW1 := Lib.hid (Below.of hb0.out hb1)
  clear hb1 hbx0 hb0 hCk
  obtain ⟨q0, q1, q2, q3, q4, q5, q6, q7⟩ := hbx1.out
  go_wp2_with fail
  refine (hB.out _).mono ?_
  rintro e w2 ⟨rfl, hb2⟩
  have hbx2 := Lib.hid (hbx1.out.mono hb2)
  have hbW2 := Lib.hid (Below.of hbW1.out hb2)
  clear q0 q1 q2 q3 q4 q5 q6 q7 hb2 hbx1 hbW1 hB
  go_wp2_with fail
  have hown0 : Hid ((w2.alloc (.cells #[.string ⟨st.toArray⟩] 9)).ownsRow w2.heap.size 9 1 (.slice (some ⟨w2.heap.size, 0, none⟩) 1 1) 1 ((statesL c st ins 1).map strV)) :=
    World.ownsRow_lit w2 #[.string ⟨st.toArray⟩] 1 (Nat.le_refl _) (by decide) rfl
  have hb23 := Lib.hid ((Below.refl w2.heap.size w2).alloc (Nat.le_refl _) (.cells #[.string ⟨st.toArray⟩] 9))
  obtain ⟨W3, hW3⟩ : ∃ W, W = w2.alloc (.cells #[.string ⟨st.toArray⟩] 9) := ⟨_, rfl⟩
  rw [← hW3] at hown0 hb23 ⊢
  clear hW3
  go_loopg [1, 9, 29] ins.length (fun gg s1 s9 s29 wr => ∃ k : Nat, k ≤ ins.length ∧ ins.length - k ≤ gg ∧ s29 = .int .i64 k ∧ s1 = .string ⟨(stS c st (ins.take k)).toArray⟩ ∧ Hid (wr.ownsRow w2.heap.size 9 1 s9 (k + 1) ((statesL c st ins (k + 1)).map strV)) ∧ Below w2.heap.size w2 wr)
  case atStart => exact ⟨0, Nat.zero_le _, by omega, rfl, rfl, hown0, hb23.out⟩
  case round =>
    obtain ⟨k, hk, hg, rfl, rfl, hown, hbr⟩ := hrel
    by_cases hlt : k < ins.length
    · have hmea : Hid (∀ g : Nat, ins.length - k ≤ g → ins.length - (k + 1) < g) := fun g h => by omega
      obtain ⟨b, off, rfl, hbs, hyl, hcell⟩ := HS.out k hlt
      have hbW := Lib.hid (Below.of hbW2.out hbr)
      have hcell := (hbW.out.cell hbs).trans hcell
      have hbxr := Lib.hid (hbx2.out.mono hbr)
      have hNk := Lib.hid (hNx.out k hlt _ hbW.out)
      have hstep : Hid ((statesL c st ins (k + 1 + 1)).map strV = (statesL c st ins (k + 1)).map strV ++ [.string ⟨(stS c st (ins.take (k + 1))).toArray⟩]) := by
        show _ = _
        rw [statesL_succ, List.map_append]; rfl
      have hltz : (k : Int) < (ins.length : Int) := by omega
      generalize hy : ins[k] = y at *
      clear hy
      obtain ⟨S0, hS0⟩ : ∃ S, S = stS c st (ins.take k) := ⟨_, rfl⟩
      obtain ⟨S1, hS1⟩ : ∃ S, S = stS c st (ins.take (k + 1)) := ⟨_, rfl⟩
      rw [← hS0, ← hS1] at hNk
      rw [← hS1] at hstep
      rw [← hS0]
      have HS1 := Lib.hid hS1
      clear hS0 hS1
      obtain ⟨q0, q1, q2, q3, q4, q5, q6, q7⟩ := hbxr.out
      go_wp2_with fail
      refine hNk.out.mono ?_
      rintro e w4 ⟨rfl, hb4⟩
      have hown4 := Lib.hid (owns_below hown.out hb4)
      have hb04 := Below.of hbr hb4
      clear q0 q1 q2 q3 q4 q5 q6 q7
      go_wp2_with (at_builtin; refine app_new rfl _ _ 44 rfl 9 1 16 _ Tryd.underlying44 infoStr rfl (by decide) (w0 := w2) (B0 := w2.heap.size) rfl hown4.out hb04 (Nat.le_refl _) hb04.size _ 1 1 rfl (by intro u hu; simp at hu; subst hu; rfl) rfl (by omega) (by omega) ?_; intro v3 w5 hown5 hb5 hbs5 hgr5)
      go_roundg (ins.length - (k + 1))
      case measure => exact hmea.out _ hg
      case rel =>
        refine ⟨k + 1, by omega, by omega, by go_num, by rw [HS1.out], ?_, hb5⟩
        show World.ownsRow _ _ _ _ _ _ _
        rw [hstep.out]; exact hown5
    · have hltz : ¬ (k : Int) < (ins.length : Int) := by omega
      obtain rfl : k = ins.length := by omega
      have hSt : Hid (Strs wr u9 (statesL c st ins (ins.length + 1))) := by
        refine ⟨?_, fun s hs => ?_⟩
        · rw [statesL_len]; exact Cells.of_owns hown.out
        · obtain ⟨j, hj, rfl⟩ := List.getElem_of_mem hs
          rw [statesL_get]
          exact hlen.out j (by rw [statesL_len] at hj; omega)
      go_wp2_with fail
      go_ret2
      exact ⟨_, rfl, hSt.out, Below.of hbW2.out hbr⟩

end Go.Proofs.YtmnionocehflmaaDoor
