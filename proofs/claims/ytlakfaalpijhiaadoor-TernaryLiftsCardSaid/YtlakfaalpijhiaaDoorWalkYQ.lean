/- Contract: the page's Next. -/
import Derived.Test.YtlakfaalpijhiaaDoorWalkYA
import Derived.Test.YtlakfaalpijhiaaDoorWalkV2
namespace Go.Proofs.YtlakfaalpijhiaaDoor
open Go.RowKit Go.Shelf
attribute [local simp] mk_get

theorem rbit_any (b : Bool) (w : World) : Calls Tryd.prog 42 #[.bool b] w fun e w' => e = .returned (.string ⟨#[PC.bitB b]⟩) ∧ w = w' := by
  cases b with
  | true =>
    go_enter Tryd.func42, Tryd.ntmps42
    go_wp2
    go_ret
    exact ⟨rfl, rfl⟩
  | false =>
    go_enter Tryd.func42, Tryd.ntmps42
    go_wp2
    go_ret
    exact ⟨rfl, rfl⟩

set_option maxRecDepth 100000 in
set_option maxHeartbeats 4000000 in
theorem rNext_any (c : PC.Circ) (vc : Value) (st inp : List UInt8) (w : World) (h : IsCirc w vc c) (hf : Fits c) (hs : st.length ≤ 9223372036854775806) (hi : inp.length ≤ 9223372036854775806) :
    Calls Tryd.prog 23 #[vc, .string ⟨st.toArray⟩, .string ⟨inp.toArray⟩] w fun e w' => e = .returned (.tuple #[.string ⟨(nextS c st inp).toArray⟩, .int .i64 (PC.valuesE c st inp)]) ∧ Below w.heap.size w w' := by
  have hVal := Lib.hid fun w1 (hb : Below w.heap.size w w1) => rValues_any c vc st inp w1 (h.mono hb) hf hs hi
  obtain ⟨vi, vl, vo, vb, vv, va, vn, rfl, hp, hm⟩ := h
  obtain ⟨al, capl, rfl, hl1, hl2, hl3⟩ := hp.latches.open_
  clear hp
  have HL := Lib.hid hl3
  clear hl3
  have hb0 : Below w.heap.size w (w.alloc (.cells #[.int .i64 c.max, vi, .slice al c.latches.length capl, vo, vb, vv, va, vn] 27)) := (Below.refl _ _).alloc (Nat.le_refl _) _
  have hbx0 := Lib.hid (Box8.new w (.int .i64 c.max) vi (.slice al c.latches.length capl) vo vb vv va vn 27)
  obtain ⟨VE, hVE⟩ : ∃ x, x = PC.valuesE c st inp := ⟨_, rfl⟩
  obtain ⟨VS, hVS⟩ : ∃ x, x = PC.valuesS c st inp := ⟨_, rfl⟩
  obtain ⟨NS, hNS⟩ : ∃ x, x = nextS c st inp := ⟨_, rfl⟩
  rw [← hVE, ← hVS] at hVal
  rw [← hVE, ← hNS]
  have HVE := Lib.hid hVE
  have HVS := Lib.hid hVS
  have HNS := Lib.hid hNS
  clear hVE hVS hNS
  go_enter Tryd.func23, Tryd.ntmps23
  go_wp2_with fail
  refine (hVal.out _ (by exact hb0)).mono ?_
  rintro e w1 ⟨rfl, hb1⟩
  have hb01 := Lib.hid (Below.of hb0 hb1)
  have hbx1 := Lib.hid (hbx0.out.mono hb1)
  clear hb0 hb1 hbx0 hVal
  by_cases hz : VE = 0
  · have hc := PC.chk_of_valuesE c st inp (HVE.out.symm.trans hz)
    have hR := Lib.hid (PC.right_of c hc.1)
    have hVS0 : Hid (VS = PC.vals c st inp) := by show _ = _; rw [HVS.out, PC.valuesS, ← HVE.out, hz]; rfl
    have hNS0 : Hid (NS = c.latches.map fun x => PC.bitB (PC.tru VS x.next)) := by
      show _ = _
      rw [HNS.out, nextS, ← HVE.out, if_pos hz, hVS0.out]; rfl
    have hVl : VS.length ≤ 9223372036854775807 := by rw [hVS0.out, PC.vals_length]; have := hR.out.max1; omega
    have hNl : NS.length = c.latches.length := by rw [hNS0.out, List.length_map]
    have hll := hR.out.lats
    have HNl := Lib.hid hNl
    clear hc hNl
    subst hz
    go_wp2_with fail
    go_loopg [10, 11] c.latches.length (fun gg s10 s11 wr => ∃ k : Nat, k ≤ c.latches.length ∧ c.latches.length - k ≤ gg ∧ s10 = .string ⟨(NS.take k).toArray⟩ ∧ s11 = .int .i64 k ∧ w1 = wr)
    case atStart => exact ⟨0, Nat.zero_le _, by omega, rfl, rfl, rfl⟩
    case round =>
      obtain ⟨k, hk, hg, rfl, rfl, rfl⟩ := hrel
      obtain ⟨q0, q1, q2, q3, q4, q5, q6, q7⟩ := hbx1.out
      by_cases hlt : k < c.latches.length
      · have hmea : ∀ g : Nat, c.latches.length - k ≤ g → c.latches.length - (k + 1) < g := fun g h => by omega
        obtain ⟨b, off, rfl, hbs', ⟨_, hnr, _⟩, c0, c1, c2⟩ := HL.out k hlt
        have c1 := (hb01.out.cell hbs').trans c1
        clear c0 c2
        have hkn : k < NS.length := by rw [HNl.out]; exact hlt
        have hnx : NS[k] = PC.bitB (PC.tru VS c.latches[k].next) := by simp only [hNS0.out, List.getElem_map]
        generalize hx : c.latches[k].next = xn at *
        clear hx
        have hst : NS.take (k + 1) = NS.take k ++ [PC.bitB (PC.tru VS xn)] := by rw [List.take_succ_eq_append_getElem hkn, hnx]
        have hcat : (ByteArray.mk (NS.take k).toArray) ++ (ByteArray.mk #[PC.bitB (PC.tru VS xn)]) = ⟨(NS.take (k + 1)).toArray⟩ := by rw [hst]; exact cat_eq _ [_]
        have htl : (NS.take k).length = k := by rw [List.length_take]; omega
        have hk1 : k + 1 ≤ 9223372036854775807 := by omega
        have hk2 : (k : Int) + 1 ≤ 9223372036854775807 := by omega
        have hltz : (k : Int) < (c.latches.length : Int) := by omega
        have hT := Lib.hid (rTrue_any VS xn w1 hnr hVl)
        have hB := Lib.hid (rbit_any (PC.tru VS xn) w1)
        obtain ⟨X, hX⟩ : ∃ X, X = NS.take k := ⟨_, rfl⟩
        rw [← hX] at hcat htl ⊢
        generalize PC.bitB (PC.tru VS xn) = y at *
        generalize PC.tru VS xn = tb at *
        clear hnx hst hX
        go_wp2_with (first | (go_at_call 15; refine hT.out.mono ?_; rintro e w4 ⟨rfl, rfl⟩) | (go_at_call 42; refine hB.out.mono ?_; rintro e w5 ⟨rfl, rfl⟩))
        go_roundg (c.latches.length - (k + 1))
        case measure => exact hmea _ hg
        case rel => exact ⟨k + 1, by omega, by omega, rfl, by go_num, rfl⟩
      · have hltz : ¬ (k : Int) < (c.latches.length : Int) := by omega
        obtain rfl : k = c.latches.length := by omega
        have hnl := HNl.out
        go_wp2_with fail
        go_ret2
        rw [← hnl, List.take_length]
        exact ⟨rfl, hb01.out⟩
  · have hz1 : (VE == 0) = false := by simpa using hz
    have hz2 : (VE != 0) = true := by simpa using hz
    have e2 : NS = [] := by rw [HNS.out, nextS, ← HVE.out, if_neg hz]
    subst e2
    go_wp2_with fail
    go_ret2
    exact ⟨rfl, hb01.out⟩

end Go.Proofs.YtlakfaalpijhiaaDoor
