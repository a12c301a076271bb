/- Contracts: the page's Initial, and whether a witness is right. -/
import Derived.Test.YtmnionocehflmaaDoorWalkP4
import Derived.Test.YtmnionocehflmaaDoorPlainU
namespace Go.Proofs.YtmnionocehflmaaDoor
open Go.RowKit Go.Shelf
attribute [local simp] mk_get

/-- may a latch begin so? -/
def iniOk (x : PC.Lat) (b : UInt8) : Bool := !(x.reset != x.lit && (x.reset == 1) != (b == 49))

set_option maxRecDepth 100000 in
set_option maxHeartbeats 2000000 in
theorem rInitial_any (c : PC.Circ) (vc : Value) (st : List UInt8) (w : World) (h : IsCirc w vc c) (hs : st.length ≤ 9223372036854775807) :
    Calls Tryd.prog 29 #[vc, .string ⟨st.toArray⟩] w fun e w' => e = .returned (.bool (PC.initial c st)) ∧ Below w.heap.size w w' := by
  have hB := fun w => rBits_any st c.latches.length w hs
  obtain ⟨vi, vl, vo, vb, vv, va, vn, rfl, hp, hm⟩ := h
  obtain ⟨al, capl, rfl, hl1, hl2, hl3⟩ := hp.latches.open_
  clear hp
  have HL := Lib.hid hl3
  clear hl3
  have hb0 : Below w.heap.size w (w.alloc (.cells #[.int .i64 c.max, vi, .slice al c.latches.length capl, vo, vb, vv, va, vn] 27)) := (Below.refl _ _).alloc (Nat.le_refl _) _
  have hbx := Lib.hid (Box8.new w (.int .i64 c.max) vi (.slice al c.latches.length capl) vo vb vv va vn 27)
  obtain ⟨R, hR⟩ : ∃ R, R = PC.initial c st := ⟨_, rfl⟩
  rw [← hR]
  have HR := Lib.hid hR
  clear hR
  cases hbt : PC.bitsOk st c.latches.length with
  | false =>
    rw [hbt] at hB
    have : R = false := by rw [HR.out, PC.initial, hbt]; rfl
    rw [this]
    clear hbt HR this
    go_enter Tryd.func29, Tryd.ntmps29
    go_wp2_with (go_at_call 17; refine (hB _).mono ?_; rintro e w1 ⟨rfl, rfl⟩)
    go_ret
    exact ⟨rfl, hb0⟩
  | true =>
    rw [hbt] at hB
    have hlen := ((bitsOk_step _ _).1 hbt).2
    have hiff : Hid (R = true ↔ ∀ k (hk : k < c.latches.length), iniOk c.latches[k] (st[k]'(by omega)) = true) := by
      show _ ↔ _
      rw [HR.out, PC.initial, hbt, Bool.true_and, PC.all_zip c.latches st hlen]; rfl
    clear hbt
    go_enter Tryd.func29, Tryd.ntmps29
    go_wp2_with (go_at_call 17; refine (hB _).mono ?_; rintro e w1 ⟨rfl, rfl⟩)
    obtain ⟨W1, hW1⟩ : ∃ W1, W1 = w.alloc (.cells #[.int .i64 c.max, vi, .slice al c.latches.length capl, vo, vb, vv, va, vn] 27) := ⟨_, rfl⟩
    rw [← hW1] at hb0 hbx ⊢
    clear hW1 hB
    obtain ⟨q0, q1, q2, q3, q4, q5, q6, q7⟩ := hbx.out
    go_loopg [5] st.length (fun gg s5 wr => ∃ k : Nat, k ≤ st.length ∧ st.length - k ≤ gg ∧ s5 = .int .i64 k ∧ W1 = wr ∧ Aside (∀ j (hj : j < k) (h : j < c.latches.length), iniOk c.latches[j] (st[j]'(by omega)) = true))
    case atStart => exact ⟨0, Nat.zero_le _, by omega, rfl, rfl, fun j hj => absurd hj (Nat.not_lt_zero _)⟩
    case round =>
      obtain ⟨k, hk, hg, rfl, rfl, A⟩ := hrel
      by_cases hlt : k < st.length
      · have hltl : k < c.latches.length := by omega
        obtain ⟨b, off, rfl, hbs, ⟨hxr, _, hxs⟩, c0, _, c2⟩ := HL.out k hltl
        have c0 := (hb0.cell hbs).trans c0
        have c2 := (hb0.cell hbs).trans c2
        have hmea : ∀ g : Nat, st.length - k ≤ g → st.length - (k + 1) < g := fun g h => by omega
        obtain ⟨y, hy⟩ : ∃ y, st[k] = y := ⟨_, rfl⟩
        have HT0 : Hid (iniOk c.latches[k] st[k] = !(c.latches[k].reset != c.latches[k].lit && (c.latches[k].reset == 1) != ((y.toNat : Int) == 49))) := by
          show _ = _
          rw [← u8_beq49, ← hy]; rfl
        generalize c.latches[k].reset = r at *
        generalize c.latches[k].lit = l at *
        have hltz : (k : Int) < (st.length : Int) := by omega
        have hltlz : (k : Int) < (c.latches.length : Int) := by omega
        by_cases h1 : r = l
        · have e1 : (r != l) = false := by simpa using h1
          have HT : Hid (iniOk c.latches[k] st[k] = true) := by show _ = _; rw [HT0.out, e1]; rfl
          clear HT0 h1
          go_wp2
          go_roundg (st.length - (k + 1))
          case measure => exact hmea _ hg
          case rel =>
            refine ⟨k + 1, by omega, by omega, by go_num, rfl, (show Aside _ from fun j hj h => ?_)⟩
            by_cases e : j = k
            · subst e; exact HT.out
            · exact A.out j (by omega) h
        · have e1 : (r != l) = true := by simpa using h1
          clear h1
          cases e2 : (r == 1) with
          | true =>
            cases e3 : ((y.toNat : Int) == 49) with
            | true =>
              have HT : Hid (iniOk c.latches[k] st[k] = true) := by show _ = _; rw [HT0.out, e1, e2, e3]; rfl
              clear HT0
              go_wp2
              go_roundg (st.length - (k + 1))
              case measure => exact hmea _ hg
              case rel =>
                refine ⟨k + 1, by omega, by omega, by go_num, rfl, (show Aside _ from fun j hj h => ?_)⟩
                by_cases e : j = k
                · subst e; exact HT.out
                · exact A.out j (by omega) h
            | false =>
              have HT : Hid (iniOk c.latches[k] st[k] = false) := by show _ = _; rw [HT0.out, e1, e2, e3]; rfl
              clear HT0
              go_wp2
              go_ret
              have : R = false := by
                rw [Bool.eq_false_iff]
                intro hr
                have := (hiff.out.1 hr) k hltl
                rw [HT.out] at this
                cases this
              exact ⟨by rw [this]; rfl, hb0⟩
          | false =>
            cases e3 : ((y.toNat : Int) == 49) with
            | true =>
              have HT : Hid (iniOk c.latches[k] st[k] = false) := by show _ = _; rw [HT0.out, e1, e2, e3]; rfl
              clear HT0
              go_wp2
              go_ret
              have : R = false := by
                rw [Bool.eq_false_iff]
                intro hr
                have := (hiff.out.1 hr) k hltl
                rw [HT.out] at this
                cases this
              exact ⟨by rw [this]; rfl, hb0⟩
            | false =>
              have HT : Hid (iniOk c.latches[k] st[k] = true) := by show _ = _; rw [HT0.out, e1, e2, e3]; rfl
              clear HT0
              go_wp2
              go_roundg (st.length - (k + 1))
              case measure => exact hmea _ hg
              case rel =>
                refine ⟨k + 1, by omega, by omega, by go_num, rfl, (show Aside _ from fun j hj h => ?_)⟩
                by_cases e : j = k
                · subst e; exact HT.out
                · exact A.out j (by omega) h
      · have hltz : ¬ (k : Int) < (st.length : Int) := by omega
        obtain rfl : k = st.length := by omega
        go_wp2
        go_ret
        have : R = true := hiff.out.2 fun j hj => A.out j (by omega) hj
        exact ⟨by rw [this]; rfl, hb0⟩

end Go.Proofs.YtmnionocehflmaaDoor
