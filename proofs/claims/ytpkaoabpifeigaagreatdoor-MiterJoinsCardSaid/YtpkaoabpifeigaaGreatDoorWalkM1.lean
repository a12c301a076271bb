/- Contracts: sim's bits: is a text bits, set, of. -/
import Derived.Test.YtpkaoabpifeigaaGreatDoorShelf
import Derived.Test.YtpkaoabpifeigaaGreatDoorPlainM
import Derived.Test.YtpkaoabpifeigaaGreatDoorWalkC1
namespace Go.Proofs.YtpkaoabpifeigaaGreatDoor
open Go.RowKit Go.Shelf

/-- an octet among cells -/
abbrev octV (c : UInt8) : Value := .int .u8 (c.toNat : Int)

/-- a slice that reads as octets -/
def Octs (w : World) (v : Value) (l : List UInt8) : Prop :=
  ∃ ao cap, v = .slice ao l.length cap ∧ l.length ≤ 9223372036854775807 ∧ ∀ j (hj : j < l.length), ∃ b off, ao = some ⟨b, off, none⟩ ∧ b < w.heap.size ∧ w.cell? ⟨b, off + j, none⟩ = some (octV l[j])

theorem Octs.mono {w w' : World} {v : Value} {l : List UInt8} (h : Octs w v l) (hb : Below w.heap.size w w') : Octs w' v l := by
  obtain ⟨ao, cap, rfl, h1, h2⟩ := h
  refine ⟨ao, cap, rfl, h1, fun j hj => ?_⟩
  obtain ⟨b, off, e, h3, h4⟩ := h2 j hj
  exact ⟨b, off, e, Nat.lt_of_lt_of_le h3 hb.size, (hb.cell h3).trans h4⟩

theorem Octs.of_owns {w : World} {B g cap : Nat} {l : List UInt8} (h : w.ownsRow B 5 1 (.slice (some ⟨g, 0, none⟩) l.length cap) l.length (l.map octV)) (hl : l.length ≤ 9223372036854775807) : Octs w (.slice (some ⟨g, 0, none⟩) l.length cap) l := by
  refine ⟨_, _, rfl, hl, fun j hj => ⟨g, 0, rfl, (h.lt g rfl).2, ?_⟩⟩
  have := h.cellAt j (by omega)
  rw [List.getElem?_map, List.getElem?_eq_getElem hj] at this
  rw [Nat.zero_add]
  exact this

theorem simBits_trim (s : List UInt8) (w : World) (hs : s.length ≤ 9223372036854775807) :
    Calls Tryz.prog 65 #[.string ⟨s.toArray⟩, .string ⟨#[48, 49]⟩] w fun e w' => e = .returned (.string ⟨(Go.Lib.trimS s [48, 49]).toArray⟩) ∧ Below w.heap.size w w' := by
  have h := Any.strings_Trim_laid Tryz.lays160 (by kernel_rfl) ⟨s.toArray⟩ ⟨#[48, 49]⟩ w (by simpa [ByteArray.size] using hs) (by decide) (Go.Proofs.ascii_of_all (by decide))
  exact h

set_option maxHeartbeats 1000000 in
theorem simBits_any (s : List UInt8) (n : Nat) (w : World) (hs : s.length ≤ 9223372036854775807) (_hn : n ≤ 9223372036854775807) :
    Calls Tryz.prog 39 #[.string ⟨s.toArray⟩, .int .i64 n] w fun e w' => e = .returned (.bool (PC.bitsOk s n)) ∧ Below w.heap.size w w' := by
  have hT := simBits_trim s w hs
  have hb := PC.trim_bits s
  obtain ⟨R, hR⟩ : ∃ R, R = PC.bitsOk s n := ⟨_, rfl⟩
  rw [← hR]
  have HR := Lib.hid hR
  clear hR
  by_cases hl : s.length = n
  · have hlz : (s.length : Int) = (n : Int) := by omega
    have hlz2 : ((s.length : Int) == (n : Int)) = true := by simpa using hlz
    generalize hU : Go.Lib.trimS s [48, 49] = U at *
    have HB := Lib.hid hb
    have HL := Lib.hid hl
    clear hb hU hl hlz
    cases U with
    | nil =>
      go_enter Tryz.func39, Tryz.ntmps39
      go_wp2_with (go_at_call 65; refine hT.mono ?_; rintro e w1 ⟨rfl, hb1⟩)
      go_ret
      have : R = true := by rw [HR.out, PC.bitsOk, (by first | exact HB.out.1 rfl | exact HB.out.1 trivial : s.all (fun b => b == 48 || b == 49) = true), decide_eq_true HL.out]; rfl
      exact ⟨by rw [this]; rfl, hb1⟩
    | cons x r =>
      go_enter Tryz.func39, Tryz.ntmps39
      go_wp2_with (go_at_call 65; refine hT.mono ?_; rintro e w1 ⟨rfl, hb1⟩)
      go_ret
      have : R = false := by
        rw [HR.out, PC.bitsOk]
        cases h : s.all (fun b => b == 48 || b == 49) with
        | true => have := HB.out.2 h; cases this
        | false => rfl
      exact ⟨by rw [this]; rfl, hb1⟩
  · have hlz : ¬ (s.length : Int) = (n : Int) := by omega
    have hlz2 : ((s.length : Int) == (n : Int)) = false := by simpa using hlz
    have HL := Lib.hid hl
    clear hl hT hb
    go_enter Tryz.func39, Tryz.ntmps39
    go_wp2_with fail
    go_ret
    have : R = false := by rw [HR.out, PC.bitsOk, decide_eq_false HL.out, Bool.and_false]
    exact ⟨by rw [this]; rfl, Below.refl _ _⟩

set_option maxHeartbeats 1000000 in
theorem bof_any (m : List UInt8) (l : Int) (v : Value) (w : World) (hv : Octs w v m) (hb : ∀ b ∈ m, b = 48 ∨ b = 49) (hr : rng l) :
    Calls Tryz.prog 99 #[v, .int .i64 l] w fun e w' => e = .returned (.int .u8 ((PC.bitB (PC.tru m l)).toNat : Int)) ∧ w' = w := by
  obtain ⟨ao, cap, rfl, hm, hc⟩ := hv
  have hV := litsVar_any l w hr
  have hN := litsNeg_any l w hr
  obtain ⟨R, hR⟩ : ∃ R, R = ((PC.bitB (PC.tru m l)).toNat : Int) := ⟨_, rfl⟩
  rw [← hR]
  rw [PC.tru_of_bits m l hb] at hR
  have HR := Lib.hid hR
  clear hR
  generalize hvo : PC.varOf l = k at *
  generalize hno : PC.negOf l = ng at *
  clear hvo hno
  by_cases hlt : k < m.length
  · obtain ⟨b, off, rfl, _, hcell⟩ := hc k hlt
    have hbx := hb _ (List.getElem_mem hlt)
    have hgd : m[k]?.getD 48 = m[k] := by rw [List.getElem?_eq_getElem hlt]; rfl
    rw [hgd] at HR
    have hltz : (k : Int) < (m.length : Int) := by omega
    clear hc hgd
    generalize m[k] = x at *
    cases ng with
    | true =>
      rcases hbx with rfl | rfl
      · go_enter Tryz.func99, Tryz.ntmps99
        go_wp2_with (first | (go_at_call 27; refine hV.mono ?_; rintro e w1 ⟨rfl, rfl⟩) | (go_at_call 102; refine hN.mono ?_; rintro e w1 ⟨rfl, rfl⟩))
        go_ret
        exact ⟨by rw [HR.out]; rfl, rfl⟩
      · go_enter Tryz.func99, Tryz.ntmps99
        go_wp2_with (first | (go_at_call 27; refine hV.mono ?_; rintro e w1 ⟨rfl, rfl⟩) | (go_at_call 102; refine hN.mono ?_; rintro e w1 ⟨rfl, rfl⟩))
        go_ret
        exact ⟨by rw [HR.out]; rfl, rfl⟩
    | false =>
      go_enter Tryz.func99, Tryz.ntmps99
      go_wp2_with (first | (go_at_call 27; refine hV.mono ?_; rintro e w1 ⟨rfl, rfl⟩) | (go_at_call 102; refine hN.mono ?_; rintro e w1 ⟨rfl, rfl⟩))
      go_ret
      exact ⟨by rw [HR.out]; rfl, rfl⟩
  · have hgd : m[k]?.getD 48 = 48 := by rw [List.getElem?_eq_none (by omega)]; rfl
    rw [hgd] at HR
    have hltz : ¬ (k : Int) < (m.length : Int) := by omega
    clear hc hgd
    cases ng with
    | true =>
      go_enter Tryz.func99, Tryz.ntmps99
      go_wp2_with (first | (go_at_call 27; refine hV.mono ?_; rintro e w1 ⟨rfl, rfl⟩) | (go_at_call 102; refine hN.mono ?_; rintro e w1 ⟨rfl, rfl⟩))
      go_ret
      exact ⟨by rw [HR.out]; rfl, rfl⟩
    | false =>
      go_enter Tryz.func99, Tryz.ntmps99
      go_wp2_with (first | (go_at_call 27; refine hV.mono ?_; rintro e w1 ⟨rfl, rfl⟩) | (go_at_call 102; refine hN.mono ?_; rintro e w1 ⟨rfl, rfl⟩))
      go_ret
      exact ⟨by rw [HR.out]; rfl, rfl⟩

set_option maxHeartbeats 1000000 in
theorem bset_any (B g cap : Nat) (xs : List UInt8) (l : Int) (x : UInt8) (w : World) (hown : w.ownsRow B 5 1 (.slice (some ⟨g, 0, none⟩) xs.length cap) xs.length (xs.map octV)) (hr : rng l) (hl : PC.varOf l < xs.length) (_hx : xs.length ≤ 9223372036854775807) :
    Calls Tryz.prog 98 #[.slice (some ⟨g, 0, none⟩) xs.length cap, .int .i64 l, .int .u8 (x.toNat : Int)] w fun e w' => e = .returned (.tuple #[]) ∧
      w'.ownsRow B 5 1 (.slice (some ⟨g, 0, none⟩) (xs.set (PC.varOf l) x).length cap) (xs.set (PC.varOf l) x).length ((xs.set (PC.varOf l) x).map octV) ∧ w.grownBy w' (some g) := by
  have hV := litsVar_any l w hr
  generalize hvo : PC.varOf l = k at *
  clear hvo
  have hci := hown.cellAt k (by omega)
  have hfi := hown.frozenAt k
  rw [List.getElem?_map, List.getElem?_eq_getElem hl] at hci
  simp only [Option.map_some] at hci
  have hst := Lib.hid (hown.stored k (octV x))
  have hlz : (k : Int) < (xs.length : Int) := by omega
  clear hown
  generalize xs[k] = y at *
  go_enter Tryz.func98, Tryz.ntmps98
  go_wp2_with (go_at_call 27; refine hV.mono ?_; rintro e w1 ⟨rfl, rfl⟩)
  go_end0
  have h1 := hst.out.1
  rw [← List.map_set] at h1
  rw [List.length_set]
  exact ⟨rfl, h1, hst.out.2⟩

end Go.Proofs.YtpkaoabpifeigaaGreatDoor
