/- Contracts: lines' commands: what a check asks. -/
import Derived.Test.YtjcaejdokillgaaDoorZJ1
import Derived.Test.YtjcaejdokillgaaDoorZWalkF
import Derived.Test.YtjcaejdokillgaaDoorZW1
import Derived.Test.YtjcaejdokillgaaDoorZShelfK
import Derived.Test.YtjcaejdokillgaaDoorZP1
import Derived.Test.YtjcaejdokillgaaDoorZL1
import Derived.Deep.QuietTactic
import Derived.BigRegion
namespace Go.Proofs.YtjcaejdokillgaaDoor
open Go.RowKit Go.Shelf
attribute [local simp] mk_get

abbrev errC (n : Int) : List PanicEntry := [{ v := .iface 29 (.int .i64 n), recovered := false }]

theorem kNeed_ok (n : Int) (w : World) : Calls Tryd.prog 45 #[.bool true, .int .i64 n] w fun e w' => e = .returned (.tuple #[]) ∧ w = w' := by
  go_enter Tryd.func45, Tryd.ntmps45
  go_wp2
  go_end0
  exact ⟨rfl, rfl⟩
theorem kNeed_no (n : Int) (w : World) : Calls Tryd.prog 45 #[.bool false, .int .i64 n] w fun e w' => e = .panicked (errC n) ∧ w = w' := by
  go_enter Tryd.func45, Tryd.ntmps45
  go_wp2
  exact ⟨rfl, rfl, rfl⟩

theorem kNumber_yes (y : List UInt8) (w : World) (hy : y.length ≤ 9223372036854775807) (hok : PR.numOk y = true) :
    Calls Tryd.prog 112 #[.string ⟨y.toArray⟩] w fun e w' => e = .returned (.int .i64 (PR.numV y)) ∧ Below w.heap.size w w' := by
  obtain ⟨q1, q2⟩ := PR.numOk_iff.1 hok
  unfold PR.numV
  have hP := Lib.hid (Parse_any y w hy)
  generalize (P01.parse y).1 = z at *
  generalize (P01.parse y).2 = z2 at *
  subst q1
  clear hok
  go_enter Tryd.func112, Tryd.ntmps112
  go_wp2_with (first | (go_at_call 95; refine hP.out.mono ?_; rintro e w6 ⟨rfl, hb6⟩; have HB := Lib.hid hb6; clear hb6) | (go_at_call 45; refine (kNeed_ok _ _).mono ?_; rintro e w7 ⟨rfl, rfl⟩))
  go_ret
  exact ⟨rfl, HB.out⟩
theorem kNumber_no (y : List UInt8) (w : World) (hy : y.length ≤ 9223372036854775807) (hok : PR.numOk y = false) :
    Calls Tryd.prog 112 #[.string ⟨y.toArray⟩] w fun e w' => e = .panicked (errC 33) ∧ Below w.heap.size w w' := by
  have hno : (decide ((P01.parse y).2 = 0) && decide (0 ≤ (P01.parse y).1)) = false := hok
  have hP := Lib.hid (Parse_any y w hy)
  generalize (P01.parse y).1 = z at *
  generalize (P01.parse y).2 = z2 at *
  clear hok
  by_cases hz2 : z2 = 0
  · subst hz2
    have hz0 : decide (0 ≤ z) = false := by simpa using hno
    clear hno
    go_enter Tryd.func112, Tryd.ntmps112
    go_wp2_with (first | (go_at_call 95; refine hP.out.mono ?_; rintro e w6 ⟨rfl, hb6⟩; have HB := Lib.hid hb6; clear hb6) | (go_at_call 45; refine (kNeed_no _ _).mono ?_; rintro e w7 ⟨rfl, rfl⟩))
    exact ⟨rfl, rfl, HB.out⟩
  · have hz2b : (z2 == 0) = false := by simpa using hz2
    clear hno
    go_enter Tryd.func112, Tryd.ntmps112
    go_wp2_with (first | (go_at_call 95; refine hP.out.mono ?_; rintro e w6 ⟨rfl, hb6⟩; have HB := Lib.hid hb6; clear hb6) | (go_at_call 45; refine (kNeed_no _ _).mono ?_; rintro e w7 ⟨rfl, rfl⟩))
    exact ⟨rfl, rfl, HB.out⟩

/-- are so many words all numbers? -/
def numsOk (l : List (List UInt8)) (a b : Nat) : Bool := decide (a ≤ l.length) && decide (l.length ≤ b) && l.all PR.numOk
/-- what numbers of words leave -/
def NumsK (l : List (List UInt8)) (a b : Nat) (w : World) (e : Ending) (w' : World) : Prop := Below w.heap.size w w' ∧
  ((numsOk l a b = true ∧ ∃ v, e = .returned v ∧ OwnI w' w.heap.size v (l.map PR.numV)) ∨ (numsOk l a b = false ∧ e = .panicked (errC 33)))

set_option maxRecDepth 100000 in
set_option maxHeartbeats 4000000 in
theorem kNumbers_any (L : List (List UInt8)) (v : Value) (a b : Nat) (w : World) (h : Strs w v L) (hl : L.length ≤ 1048577) (hab : a ≤ 100 ∧ b ≤ 100) :
    Calls Tryd.prog 85 #[v, .int .i64 a, .int .i64 b] w fun e w' => NumsK L a b w e w' := by
  obtain ⟨i, hi, hz0, hz1, hz2⟩ := info_parts infoI'
  obtain ⟨ao, cap, rfl, h1, h2, hi3⟩ := h.open_
  have HI := Lib.hid hi3
  clear hi3 h
  obtain ⟨R, hR⟩ : ∃ R, R = numsOk L a b := ⟨_, rfl⟩
  have HR := Lib.hid hR
  clear hR
  by_cases c1 : a ≤ L.length
  · by_cases c2 : L.length ≤ b
    · have e1 : (a : Int) ≤ (L.length : Int) := by omega
      have e2 : (L.length : Int) ≤ (b : Int) := by omega
      have hyes : Hid (L.all PR.numOk = true → R = true) := fun h => by rw [HR.out]; unfold numsOk; rw [h, decide_eq_true c1, decide_eq_true c2]; rfl
      have hnot : Hid (L.all PR.numOk = false → R = false) := fun h => by rw [HR.out]; unfold numsOk; rw [h]; simp
      go_enter Tryd.func85, Tryd.ntmps85
      go_wp2_with (go_at_call 45; refine (kNeed_ok _ _).mono ?_; rintro e w7 ⟨rfl, hw7⟩; subst hw7)
      go_loopg [7, 23] L.length (fun gg s7 s23 wr => ∃ k : Nat, k ≤ L.length ∧ L.length - k ≤ gg ∧ s23 = .int .i64 k ∧ Hid (Below w.heap.size w wr) ∧ Hid ((L.take k).all PR.numOk = true) ∧ Aside (wr.ownsRow w.heap.size 3 1 s7 k (((L.take k).map PR.numV).map (Value.int .i64))))
      case atStart => exact ⟨0, Nat.zero_le _, by omega, rfl, Below.refl _ _, rfl, World.ownsRow_nil _ _ _ _⟩
      case round =>
        obtain ⟨k, hk, hg, rfl, hbr, hall, hown⟩ := hrel
        by_cases hlt : k < L.length
        · obtain ⟨b', off, hbo, hbs, hry, hc⟩ := HI.out k hlt
          cases hbo
          have hmea : ∀ g : Nat, L.length - k ≤ g → L.length - (k + 1) < g := fun g h => by omega
          have hc := (hbr.out.cell hbs).trans hc
          have hstep : Hid (((L.take (k + 1)).map PR.numV).map (Value.int .i64) = ((L.take k).map PR.numV).map (Value.int .i64) ++ [Value.int .i64 (PR.numV L[k])]) := by
            show _ = _
            rw [List.take_succ_eq_append_getElem hlt]
            simp only [List.map_append, List.map_cons, List.map_nil]
          have hltz : (k : Int) < (L.length : Int) := by omega
          have hkk : k ≤ 1048577 := by omega
          by_cases hok : PR.numOk L[k] = true
          · have hnx : Hid ((L.take (k + 1)).all PR.numOk = true) := by
              show _ = _
              rw [List.take_succ_eq_append_getElem hlt, List.all_append, hall.out]
              simpa using hok
            have hP := Lib.hid (kNumber_yes L[k] wr hry hok)
            clear hok
            generalize L[k] = y at *
            generalize PR.numV y = z at *
            clear hry
            go_wp2_with (first | (go_at_call 112; refine hP.out.mono ?_; rintro e w6 ⟨rfl, hb6⟩; have hown6 := owns_below' hown.out hb6; have hbb := Below.of hbr.out hb6) | (at_builtin; refine app_new rfl _ _ 22 rfl 3 1 8 _ Tryd.underlying22 infoI' rfl (by decide) (w0 := w) (B0 := w.heap.size) rfl hown6 hbb (Nat.le_refl _) hbb.size _ 1 1 rfl (by intro u hu; simp at hu; subst hu; rfl) rfl (by omega) (by omega) ?_; intro v8 w8 hown8 hb8 hbs8 hgr8))
            go_roundg (L.length - (k + 1))
            case measure => exact hmea _ hg
            case rel =>
              refine ⟨k + 1, by omega, by omega, by go_num, hb8, hnx, ?_⟩
              rw [hstep.out]
              exact hown8
          · have hRf := hnot.out (Bool.eq_false_iff.2 fun ha => hok (List.all_eq_true.1 ha _ (List.getElem_mem hlt)))
            have HRF := Lib.hid hRf
            have hP := Lib.hid (kNumber_no L[k] wr hry (Bool.eq_false_iff.2 hok))
            clear hok hRf
            generalize L[k] = y at *
            clear hry
            go_wp2_with (go_at_call 112; refine hP.out.mono ?_; rintro e w6 ⟨rfl, hb6⟩; have hbb := Lib.hid (Below.of hbr.out hb6); clear hb6)
            exact ⟨rfl, hbb.out, .inr ⟨by rw [← HR.out]; exact HRF.out, rfl⟩⟩
        · have hltz : ¬ (k : Int) < (L.length : Int) := by omega
          obtain rfl : k = L.length := by omega
          have hall := hall.out
          rw [List.take_length] at hall
          have hRt := Lib.hid (hyes.out hall)
          have hOut : Hid (∀ u, u = u7 → OwnI wr w.heap.size u (L.map PR.numV)) := fun u hu => by
            refine ⟨?_, fun x hx => ?_⟩
            · have := hown.out
              rw [List.take_length] at this
              rw [List.length_map, hu]
              exact this
            · obtain ⟨t, ht, rfl⟩ := List.mem_map.1 hx
              have := PR.numV_rng (List.all_eq_true.1 hall t ht)
              unfold rng
              omega
          clear hown hg hk hlt hall
          go_wp2_with fail
          go_ret
          exact ⟨hbr.out, .inl ⟨by rw [← HR.out]; exact hRt.out, _, rfl, hOut.out _ rfl⟩⟩
    · have e1 : (a : Int) ≤ (L.length : Int) := by omega
      have e2 : decide ((L.length : Int) ≤ (b : Int)) = false := decide_eq_false (by omega)
      have hRf : Hid (R = false) := by show _ = _; rw [HR.out]; unfold numsOk; rw [decide_eq_false c2]; simp
      go_enter Tryd.func85, Tryd.ntmps85
      go_wp2_with (go_at_call 45; refine (kNeed_no _ _).mono ?_; rintro e w7 ⟨rfl, rfl⟩)
      exact ⟨rfl, Below.refl _ _, .inr ⟨by rw [← HR.out]; exact hRf.out, rfl⟩⟩
  · have e1 : decide ((a : Int) ≤ (L.length : Int)) = false := decide_eq_false (by omega)
    have hRf : Hid (R = false) := by show _ = _; rw [HR.out]; unfold numsOk; rw [decide_eq_false c1]; simp
    go_enter Tryd.func85, Tryd.ntmps85
    go_wp2_with (go_at_call 45; refine (kNeed_no _ _).mono ?_; rintro e w7 ⟨rfl, rfl⟩)
    exact ⟨rfl, Below.refl _ _, .inr ⟨by rw [← HR.out]; exact hRf.out, rfl⟩⟩

theorem kSplit_any (s : List UInt8) (m : Int) (w : World) (hs : s.length ≤ 1048576) (hm : w.cell? ⟨0, 0, none⟩ = some (.int .i64 m)) :
    Calls Tryd.prog 79 #[.string ⟨s.toArray⟩] w fun e w' => ∃ g, e = .returned (.slice (some ⟨g, 0, none⟩) (PS.cut 32 s).length (PS.cut 32 s).length) ∧
      Strs w' (.slice (some ⟨g, 0, none⟩) (PS.cut 32 s).length (PS.cut 32 s).length) (PS.cut 32 s) ∧ Below w.heap.size w w' := by
  have hS := Lib.hid (Split_strs 32 s m w hs hm)
  go_enter Tryd.func79, Tryd.ntmps79
  go_wp2_with (go_at_call 71; refine hS.out.mono ?_; rintro e w3 ⟨g, rfl, hst, hb3⟩; have HST := Lib.hid hst; have HB := Lib.hid hb3; clear hst hb3)
  go_ret
  exact ⟨_, rfl, HST.out, HB.out⟩

set_option maxHeartbeats 2000000 in
theorem sIndexS_any (L : List (List UInt8)) (v : Value) (x : List UInt8) (w : World) (h : Strs w v L) :
    Calls Tryd.prog 46 #[v, .string ⟨x.toArray⟩] w fun e w' => e = .returned (.int .i64 (idx (fun y => decide (x = y)) L)) ∧ w = w' := by
  obtain ⟨ao, cap, rfl, h1, h2, hc⟩ := h.open_
  have HC := Lib.hid hc
  clear hc h
  obtain ⟨R, hR⟩ : ∃ R, R = idx (fun y => decide (x = y)) L := ⟨_, rfl⟩
  have HR := Lib.hid hR
  clear hR
  go_enter Tryd.func46, Tryd.ntmps46
  go_wp2
  go_loopg [8] L.length (fun gg s8 wr => ∃ k : Nat, k ≤ L.length ∧ L.length - k ≤ gg ∧ s8 = .int .i64 k ∧ w = wr ∧ Hid (∀ j (hj : j < k) (h : j < L.length), decide (x = L[j]) = false))
  case atStart => exact ⟨0, Nat.zero_le _, by omega, rfl, rfl, fun j hj => absurd hj (Nat.not_lt_zero _)⟩
  case round =>
    obtain ⟨k, hk, hg, rfl, rfl, A⟩ := hrel
    by_cases hlt : k < L.length
    · obtain ⟨b, off, rfl, hbs, hry, hcell⟩ := HC.out k hlt
      have hmea : ∀ g : Nat, L.length - k ≤ g → L.length - (k + 1) < g := fun g h => by omega
      have hltz : (k : Int) < (L.length : Int) := by omega
      by_cases hxe : x = L[k]
      · have hRk : Hid (R = k) := by show _ = _; rw [HR.out]; exact idx_hit _ L k hlt (fun j hj => A.out j hj (by omega)) (by simpa using hxe)
        rw [← hxe] at hcell
        clear hxe
        go_wp2_with fail
        go_ret
        exact ⟨by rw [← HR.out, hRk.out]; rfl, rfl⟩
      · have hA : Hid (∀ j (hj : j < k + 1) (h : j < L.length), decide (x = L[j]) = false) := fun j hj h => by
          by_cases e : j = k
          · subst e; exact decide_eq_false hxe
          · exact A.out j (by omega) h
        have hne : ∀ y, L[k] = y → ¬ x = y := fun y e => e ▸ hxe
        obtain ⟨y, hy⟩ : ∃ y, L[k] = y := ⟨_, rfl⟩
        have hxb : (x == y) = false := by simpa using hne y hy
        rw [hy] at hcell
        clear hne hxe hy hry
        go_wp2_with fail
        go_roundg (L.length - (k + 1))
        case measure => exact hmea _ hg
        case rel => exact ⟨k + 1, by omega, by omega, by go_num, rfl, hA⟩
    · have hltz : ¬ (k : Int) < (L.length : Int) := by omega
      have hRm : Hid (R = -1) := by show _ = _; rw [HR.out]; exact idx_miss _ L fun j hj => A.out j (by omega) hj
      go_wp2
      go_ret
      exact ⟨by rw [← HR.out, hRm.out]; rfl, rfl⟩

def odd (c : UInt8) : Bool := decide ((c.toNat : Int) < 32) || decide (126 < (c.toNat : Int))
theorem enters_kOdd : ∀ args w, (callFunc 42 args).run Tryd.prog w = .ok (.enter 42 args) w := enters_of Tryd.func42 (by kernel_rfl) rfl
theorem kOdd_any (c : Int) (w : World) : Calls Tryd.prog 42 #[.int .u8 c] w fun e w' => e = .returned (.bool (decide (c < 32) || decide (126 < c))) ∧ w = w' := by
  by_cases h1 : c < 32
  · go_enter Tryd.func42, Tryd.ntmps42
    go_wp2
    go_ret
    exact ⟨by simp [h1], rfl⟩
  · have d1 : decide (c < 32) = false := decide_eq_false h1
    go_enter Tryd.func42, Tryd.ntmps42
    go_wp2
    go_ret
    exact ⟨by first | rfl | simp [h1], rfl⟩
theorem kOdd_pred (x : UInt8) (w : World) : Calls Tryd.prog 42 (#[.int .u8 (x.toNat : Int)] ++ #[]) w fun e w' => e = .returned (.bool (odd x)) ∧ w = w' := by
  rw [Array.append_empty]
  exact kOdd_any _ w

end Go.Proofs.YtjcaejdokillgaaDoor

namespace Go.Proofs.YtjcaejdokillgaaDoor
open Go.RowKit Go.Shelf
attribute [local simp] mk_get

theorem simBits_trim (s : List UInt8) (w : World) (hs : s.length ≤ 9223372036854775807) :
    Calls Tryd.prog 133 #[.string ⟨s.toArray⟩, .string ⟨#[48, 49]⟩] w fun e w' => e = .returned (.string ⟨(Go.Lib.trimS s [48, 49]).toArray⟩) ∧ Below w.heap.size w w' := by
  have h := Any.strings_Trim_laid Tryd.lays160 (by kernel_rfl) ⟨s.toArray⟩ ⟨#[48, 49]⟩ w (by simpa [ByteArray.size] using hs) (by decide) (Go.Proofs.ascii_of_all (by decide))
  exact h

set_option maxHeartbeats 1000000 in
theorem simBits_any (s : List UInt8) (n : Nat) (w : World) (hs : s.length ≤ 9223372036854775807) (_hn : n ≤ 9223372036854775807) :
    Calls Tryd.prog 113 #[.string ⟨s.toArray⟩, .int .i64 n] w fun e w' => e = .returned (.bool (PC.bitsOk s n)) ∧ Below w.heap.size w w' := by
  have hT := simBits_trim s w hs
  have hb := PC.trim_bits s
  obtain ⟨R, hR⟩ : ∃ R, R = PC.bitsOk s n := ⟨_, rfl⟩
  rw [← hR]
  have HR := Lib.hid hR
  clear hR
  by_cases hl : s.length = n
  · have hlz : (s.length : Int) = (n : Int) := by omega
    have hlz2 : ((s.length : Int) == (n : Int)) = true := by simpa using hlz
    generalize hU : Go.Lib.trimS s [48, 49] = U at *
    have HB := Lib.hid hb
    have HL := Lib.hid hl
    clear hb hU hl hlz
    cases U with
    | nil =>
      go_enter Tryd.func113, Tryd.ntmps113
      go_wp2_with (go_at_call 133; refine hT.mono ?_; rintro e w1 ⟨rfl, hb1⟩)
      go_ret
      have : R = true := by rw [HR.out, PC.bitsOk, (by first | exact HB.out.1 rfl | exact HB.out.1 trivial : s.all (fun b => b == 48 || b == 49) = true), decide_eq_true HL.out]; rfl
      exact ⟨by rw [this]; rfl, hb1⟩
    | cons x r =>
      go_enter Tryd.func113, Tryd.ntmps113
      go_wp2_with (go_at_call 133; refine hT.mono ?_; rintro e w1 ⟨rfl, hb1⟩)
      go_ret
      have : R = false := by
        rw [HR.out, PC.bitsOk]
        cases h : s.all (fun b => b == 48 || b == 49) with
        | true => have := HB.out.2 h; cases this
        | false => rfl
      exact ⟨by rw [this]; rfl, hb1⟩
  · have hlz : ¬ (s.length : Int) = (n : Int) := by omega
    have hlz2 : ((s.length : Int) == (n : Int)) = false := by simpa using hlz
    have HL := Lib.hid hl
    clear hl hT hb
    go_enter Tryd.func113, Tryd.ntmps113
    go_wp2_with fail
    go_ret
    have : R = false := by rw [HR.out, PC.bitsOk, decide_eq_false HL.out, Bool.and_false]
    exact ⟨by rw [this]; rfl, Below.refl _ _⟩

/-- a word of bits, or a point -/
def bitsK : List (List UInt8) → Option (List UInt8)
  | [x] => if x = [46] then some [] else if x.length ≤ 64 ∧ PC.bitsOk x x.length = true then some x else none
  | _ => none
theorem bitsK_ne {L : List (List UInt8)} (h : L.length ≠ 1) : bitsK L = none := by
  match L, h with
  | [], _ => rfl
  | [_], h => exact absurd rfl h
  | _ :: _ :: _, _ => rfl
/-- what a word of bits leaves -/
def BitsK (L : List (List UInt8)) (w : World) (e : Ending) (w' : World) : Prop := Below w.heap.size w w' ∧
  ((∃ t, bitsK L = some t ∧ e = .returned (.string ⟨t.toArray⟩) ∧ t.length ≤ 64) ∨ (bitsK L = none ∧ e = .panicked (errC 33)))

set_option maxRecDepth 100000 in
set_option maxHeartbeats 4000000 in
theorem kBits_any (L : List (List UInt8)) (v : Value) (w : World) (h : Strs w v L) :
    Calls Tryd.prog 87 #[v] w fun e w' => BitsK L w e w' := by
  obtain ⟨ao, cap, rfl, h1, h2, hi3⟩ := h.open_
  clear h
  by_cases c1 : L.length = 1
  · obtain ⟨x, rfl⟩ : ∃ x, L = [x] := by
      match L, c1 with
      | [x], _ => exact ⟨x, rfl⟩
    obtain ⟨b, off, rfl, hbs, hry, hc⟩ := hi3 0 (by simp)
    simp only [List.getElem_cons_zero, Nat.add_zero] at hry hc
    have k0 : ∀ z : Later w, _ := fun z => z.cell hc
    have HC := Lib.hid hc
    clear c1 hi3 hc
    by_cases hp : x = [46]
    · subst hp
      go_enter Tryd.func87, Tryd.ntmps87
      go_wp2_with fail
      refine wp_region_later_tail 26 (by kernel_rfl) (by kernel_rfl) ?_; simp only [List.take_succ_cons, List.take_zero, List.drop_succ_cons, List.drop_zero]; (repeat (go_big_quiet_step (fail))); refine wpQuiet_nil ?_; rintro w3 ⟨⟨_, hb3⟩, rfl⟩
      have HB := Lib.hid hb3
      have hc := hb3.cell (World.block_lt_of_cell? w _ HC.out)
      rw [HC.out] at hc
      clear k0 hb3
      go_wp2_with (go_at_call 45; refine (kNeed_ok _ _).mono ?_; rintro e w7 ⟨rfl, hw7⟩; subst hw7)
      go_ret
      exact ⟨HB.out, .inl ⟨[], rfl, rfl, by decide⟩⟩
    · have hpb : (x == [46]) = false := by simpa using hp
      by_cases hl : x.length ≤ 64
      · have hlz : (x.length : Int) ≤ 64 := by omega
        have hB : ∀ z : Later w, _ := fun z => simBits_any x x.length z.at_ hry (by omega)
        cases hq : PC.bitsOk x x.length with
        | true =>
          have hyes : Hid (bitsK [x] = some x) := by show _ = _; show (if x = [46] then _ else _) = _; rw [if_neg hp, if_pos ⟨hl, hq⟩]
          rw [hq] at hB
          clear hp hq
          go_enter Tryd.func87, Tryd.ntmps87
          go_wp2_with fail
          refine wp_region_later_tail 26 (by kernel_rfl) (by kernel_rfl) ?_; simp only [List.take_succ_cons, List.take_zero, List.drop_succ_cons, List.drop_zero]; (repeat (go_big_quiet_step ((go_at_call 113; with_reducible exact Calls.later (hB _))))); refine wpQuiet_nil ?_; rintro w3 ⟨⟨_, hb3⟩, rfl⟩
          have HB := Lib.hid hb3
          have hc := hb3.cell (World.block_lt_of_cell? w _ HC.out)
          rw [HC.out] at hc
          clear k0 hb3 hB
          go_wp2_with (go_at_call 45; refine (kNeed_ok _ _).mono ?_; rintro e w7 ⟨rfl, hw7⟩; subst hw7)
          go_ret
          exact ⟨HB.out, .inl ⟨x, hyes.out, rfl, hl⟩⟩
        | false =>
          have hno : Hid (bitsK [x] = none) := by show _ = _; show (if x = [46] then _ else _) = _; rw [if_neg hp, if_neg (by rw [hq]; simp)]
          rw [hq] at hB
          clear hp hq
          go_enter Tryd.func87, Tryd.ntmps87
          go_wp2_with fail
          refine wp_region_later_tail 26 (by kernel_rfl) (by kernel_rfl) ?_; simp only [List.take_succ_cons, List.take_zero, List.drop_succ_cons, List.drop_zero]; (repeat (go_big_quiet_step ((go_at_call 113; with_reducible exact Calls.later (hB _))))); refine wpQuiet_nil ?_; rintro w3 ⟨⟨_, hb3⟩, rfl⟩
          have HB := Lib.hid hb3
          clear k0 hb3 hB
          go_wp2_with (go_at_call 45; refine (kNeed_no _ _).mono ?_; rintro e w7 ⟨rfl, rfl⟩)
          exact ⟨rfl, HB.out, .inr ⟨hno.out, rfl⟩⟩
      · have hlz : decide ((x.length : Int) ≤ 64) = false := decide_eq_false (by omega)
        have hno : Hid (bitsK [x] = none) := by show _ = _; show (if x = [46] then _ else _) = _; rw [if_neg hp, if_neg (by rintro ⟨h, _⟩; exact hl h)]
        clear hp hl
        go_enter Tryd.func87, Tryd.ntmps87
        go_wp2_with fail
        refine wp_region_later_tail 26 (by kernel_rfl) (by kernel_rfl) ?_; simp only [List.take_succ_cons, List.take_zero, List.drop_succ_cons, List.drop_zero]; (repeat (go_big_quiet_step (fail))); refine wpQuiet_nil ?_; rintro w3 ⟨⟨_, hb3⟩, rfl⟩
        have HB := Lib.hid hb3
        clear k0 hb3
        go_wp2_with (go_at_call 45; refine (kNeed_no _ _).mono ?_; rintro e w7 ⟨rfl, rfl⟩)
        exact ⟨rfl, HB.out, .inr ⟨hno.out, rfl⟩⟩
  · have e1 : ((L.length : Int) == 1) = false := by simpa using (by omega : ¬ (L.length : Int) = 1)
    have e2 : ¬ (L.length : Int) = 1 := by omega
    have e3 : decide ((L.length : Int) = 1) = false := decide_eq_false e2
    have hno := Lib.hid (bitsK_ne c1)
    clear hi3 c1
    go_enter Tryd.func87, Tryd.ntmps87
    go_wp2_with fail
    refine wp_region_later_tail 26 (by kernel_rfl) (by kernel_rfl) ?_; simp only [List.take_succ_cons, List.take_zero, List.drop_succ_cons, List.drop_zero]; (repeat (go_big_quiet_step (fail))); refine wpQuiet_nil ?_; rintro w3 ⟨⟨_, hb3⟩, rfl⟩
    have HB := Lib.hid hb3
    clear hb3
    go_wp2_with (go_at_call 45; refine (kNeed_no _ _).mono ?_; rintro e w7 ⟨rfl, rfl⟩)
    exact ⟨rfl, HB.out, .inr ⟨hno.out, rfl⟩⟩

end Go.Proofs.YtjcaejdokillgaaDoor

namespace Go.Proofs.YtjcaejdokillgaaDoor
open Go.RowKit Go.Shelf
attribute [local simp] mk_get

theorem NumsK.yes {l : List (List UInt8)} {a b : Nat} {w w' : World} {e : Ending} (h : NumsK l a b w e w') (hok : numsOk l a b = true) : ∃ v, e = .returned v ∧ OwnI w' w.heap.size v (l.map PR.numV) ∧ Below w.heap.size w w' := by
  obtain ⟨hb, ⟨_, v, rfl, ho⟩ | ⟨h1, _⟩⟩ := h
  · exact ⟨v, rfl, ho, hb⟩
  · rw [hok] at h1; cases h1
theorem NumsK.no {l : List (List UInt8)} {a b : Nat} {w w' : World} {e : Ending} (h : NumsK l a b w e w') (hok : numsOk l a b = false) : e = .panicked (errC 33) ∧ Below w.heap.size w w' := by
  obtain ⟨hb, ⟨h1, _⟩ | ⟨_, rfl⟩⟩ := h
  · rw [hok] at h1; cases h1
  · exact ⟨rfl, hb⟩

theorem Strs.rest {w : World} {g o cap : Nat} {x : List UInt8} {R : List (List UInt8)} (h : Strs w (.slice (some ⟨g, o, none⟩) (R.length + 1) cap) (x :: R)) :
    w.cell? ⟨g, o, none⟩ = some (.string ⟨x.toArray⟩) ∧ Strs w (.slice (some ⟨g, o + 1, none⟩) R.length (cap - 1)) R ∧ R.length + 1 ≤ cap ∧ cap ≤ 9223372036854775807 := by
  obtain ⟨⟨ao, cap', e, h1, h2, h3, h4, h5⟩, hl⟩ := h
  cases e
  have h1 : R.length + 1 ≤ cap := by simpa using h1
  refine ⟨?_, ⟨⟨some ⟨g, o + 1, none⟩, cap - 1, rfl, by omega, by omega, (fun h => by cases h), by simp, fun j hj => ?_⟩, fun t ht => hl t (by simp [ht])⟩, h1, h2⟩
  · obtain ⟨b, o', e, _, hc⟩ := h5 0 (by simp)
    cases e
    simpa using hc
  · obtain ⟨b, o', e, hb, hc⟩ := h5 (j + 1) (by simpa using hj)
    cases e
    refine ⟨g, o + 1, rfl, hb, ?_⟩
    rw [show o + 1 + j = o + (j + 1) by omega, hc]
    simp

abbrev engS : List UInt8 := [98, 109, 99, 32, 107, 105, 110, 100, 32, 105, 99, 51, 32, 101, 110, 117, 109]
def engL : List (List UInt8) := PS.cut 32 engS
/-- the place of a word -/
def ixK (x : List UInt8) (l : List (List UInt8)) : Int := idx (fun y => decide (x = y)) l
theorem ixK_rng (x : List UInt8) (l : List (List UInt8)) : -1 ≤ ixK x l ∧ ixK x l < (l.length : Int) ∨ ixK x l = -1 := by
  unfold ixK idx
  cases h : l.findIdx? (fun y => decide (x = y)) with
  | none => right; rfl
  | some k =>
    left
    obtain ⟨hk, _⟩ := List.findIdx?_eq_some_iff_getElem.1 h
    simp only
    omega

/-- what a check asks -/
def askedK : List (List UInt8) → Option (List Int)
  | [] => none
  | x :: R => if R.length = 3 ∧ 0 ≤ ixK x engL ∧ numsOk R 3 3 = true then some ((ixK x engL + 1) :: R.map PR.numV) else none
def AskedK (L : List (List UInt8)) (w : World) (e : Ending) (w' : World) : Prop := Below w.heap.size w w' ∧
  ((∃ l v, askedK L = some l ∧ e = .returned v ∧ OwnI w' w.heap.size v l) ∨ (askedK L = none ∧ e = .panicked (errC 33)))

set_option maxRecDepth 100000 in
set_option maxHeartbeats 4000000 in
theorem kAsked_any (L : List (List UInt8)) (v : Value) (m : Int) (w : World) (h : Strs w v L) (hm : w.cell? ⟨0, 0, none⟩ = some (.int .i64 m)) :
    Calls Tryd.prog 86 #[v] w fun e w' => AskedK L w e w' := by
  obtain ⟨i, hi, hz0, hz1, hz2⟩ := info_parts infoI'
  obtain ⟨ao, cap, rfl, h1, h2, hi3⟩ := h.open_
  have HM := Lib.hid hm
  clear hm
  by_cases c1 : L.length = 4
  · obtain ⟨x, R, rfl⟩ : ∃ x R, L = x :: R := by
      cases L with
      | nil => cases c1
      | cons x R => exact ⟨x, R, rfl⟩
    have hR3 : R.length = 3 := by simpa using c1
    obtain ⟨b, off, rfl, hbs, hry, _⟩ := hi3 0 (by simp)
    obtain ⟨hc0, hsR, hcap, _⟩ := Strs.rest h
    rw [hR3] at hsR
    obtain ⟨I, hI⟩ : ∃ I, I = ixK x engL := ⟨_, rfl⟩
    have hIr : -1 ≤ I ∧ I ≤ 4 := by
      have := ixK_rng x engL
      have he : engL.length = 4 := by kernel_rfl
      omega
    obtain ⟨hI1, hI2⟩ := hIr
    have HC := Lib.hid hc0
    have HSR := Lib.hid hsR
    have HI := Lib.hid hI
    have H3 := Lib.hid hR3
    have hcz : 4 ≤ cap := by omega
    rw [c1]
    clear hi3 h hc0 hsR hI hR3 hry hbs c1
    go_enter Tryd.func86, Tryd.ntmps86
    go_wp2_with (go_at_call 45; refine (kNeed_ok _ _).mono ?_; rintro e w7 ⟨rfl, hw7⟩; subst hw7)
    refine wp_region_makes 5 [(fun v y => ∃ g, v = .slice (some ⟨g, 0, none⟩) engL.length engL.length ∧ Strs y (.slice (some ⟨g, 0, none⟩) engL.length engL.length) engL), isV (.slice (some ⟨b, off, none⟩) 4 cap), isV (.pointer (some ⟨b, off, none⟩)), isV (.string ⟨x.toArray⟩), isV (.int .i64 I)]
      [some 8, some 9, some 10, some 11, some 12] (by kernel_rfl) (by kernel_rfl) rfl (by
        intro q hq
        simp only [List.mem_cons, List.mem_nil_iff, or_false] at hq
        rcases hq with rfl | rfl | rfl | rfl | rfl <;> first
          | exact isV_keeps _ | exact fun _ _ _ hb ⟨g, e, h⟩ => ⟨g, e, h.mono hb⟩) ?_ ?_
    · refine ⟨fun vs Y hy hd => ?_, fun vs Y hy hd => ?_, fun vs Y hy hd => ?_, fun vs Y hy hd => ?_, fun vs Y hy hd => ?_, trivial⟩
      · have hS := Lib.hid (kSplit_any engS m Y (by decide) ((hy.cell (World.block_lt_of_cell? w _ HM.out)).trans HM.out))
        (simp only [opens]; try simp only [Nat.reduceAdd])
        go_wp2_with (go_at_call 79; refine hS.out.mono ?_; rintro e w4 ⟨g, rfl, hst, hb⟩)
        exact ⟨_, rfl, hb, g, rfl, hst⟩
      · (simp only [opens]; try simp only [Nat.reduceAdd])
        go_wp2_with fail
        exact ⟨_, rfl, Below.refl _ _, rfl⟩
      · have g0 : vs 1 = .slice (some ⟨b, off, none⟩) 4 cap := hd 1 (by decide) (by kernel_rfl)
        (simp only [opens]; try simp only [Nat.reduceAdd])
        rw [g0]
        go_wp2_with fail
        exact ⟨_, rfl, Below.refl _ _, rfl⟩
      · have g0 : vs 2 = .pointer (some ⟨b, off, none⟩) := hd 2 (by decide) (by kernel_rfl)
        have hc := (hy.cell (World.block_lt_of_cell? w _ HC.out)).trans HC.out
        (simp only [opens]; try simp only [Nat.reduceAdd])
        rw [g0]
        go_wp2_with fail
        exact ⟨_, rfl, Below.refl _ _, rfl⟩
      · obtain ⟨g, g0, hS⟩ : ∃ g, vs 0 = .slice (some ⟨g, 0, none⟩) engL.length engL.length ∧ Strs Y (.slice (some ⟨g, 0, none⟩) engL.length engL.length) engL := hd 0 (by decide) (by kernel_rfl)
        have g1 : vs 3 = .string ⟨x.toArray⟩ := hd 3 (by decide) (by kernel_rfl)
        have hX := Lib.hid (sIndexS_any engL _ x Y hS)
        clear hS
        (simp only [opens]; try simp only [Nat.reduceAdd])
        rw [g0, g1]
        go_wp2_with (go_at_call 46; refine hX.out.mono ?_; rintro e w4 ⟨rfl, rfl⟩)
        exact ⟨_, rfl, Below.refl _ _, by rw [HI.out]; rfl⟩
    intro vs w3 hb3 hf
    have g5 : vs 4 = .int .i64 I := hf 4 (by decide)
    simp only [opens, List.drop_succ_cons, List.drop_zero]
    try simp only [Nat.reduceAdd]
    rw [g5]
    clear hf g5
    have HB3 := Lib.hid hb3
    have hsR3 := Lib.hid (HSR.out.mono hb3)
    clear hb3
    by_cases hI0 : 0 ≤ I
    · have l3 : R.length ≤ 1048577 := by have := H3.out; omega
      have b1 : Below w3.heap.size w3 (w3.alloc (.cells #[.int .i64 (I + 1)] 3)) := (Below.refl _ _).alloc (Nat.le_refl _) _
      have hP := kNumbers_any R _ 3 3 (w3.alloc (.cells #[.int .i64 (I + 1)] 3)) (hsR3.out.mono b1) l3 (by omega)
      have hW1 : (w3.alloc (.cells #[.int .i64 (I + 1)] 3)).ownsRow w.heap.size 3 1 (.slice (some ⟨w3.heap.size, 0, none⟩) 1 1) 1 [.int .i64 (I + 1)] := World.ownsRow_lit w3 #[.int .i64 (I + 1)] 1 HB3.out.size (by decide) rfl
      have HW1 := Lib.hid hW1
      have HB4 := Lib.hid (Below.of HB3.out b1)
      clear b1 l3 hW1
      cases hok : numsOk R 3 3 with
      | false =>
        have hno : Hid (askedK (x :: R) = none) := by show (if _ then _ else _) = _; rw [if_neg (by rw [hok]; simp)]
        have hP2 := Lib.hid (hP.mono fun e w' hh => NumsK.no hh hok)
        clear hP hok
        go_wp2_with (first | (go_at_call 45; refine (kNeed_ok _ _).mono ?_; rintro e w7 ⟨rfl, hw7⟩; subst hw7) | (go_at_call 85; refine hP2.out.mono ?_; rintro e w8 ⟨rfl, hb8⟩))
        exact ⟨rfl, Below.of HB4.out hb8, .inr ⟨hno.out, rfl⟩⟩
      | true =>
        have hyes : Hid (askedK (x :: R) = some ((I + 1) :: R.map PR.numV)) := by show (if _ then _ else _) = _; rw [if_pos ⟨H3.out, by rw [← HI.out]; exact hI0, hok⟩, HI.out]
        have hP2 := Lib.hid (hP.mono fun e w' hh => NumsK.yes hh hok)
        clear hP hok
        go_wp2_with (first | (go_at_call 45; refine (kNeed_ok _ _).mono ?_; rintro e w7 ⟨rfl, hw7⟩; subst hw7) | (go_at_call 85; refine hP2.out.mono ?_; rintro e w8 ⟨v8, rfl, ho8, hb8⟩; have hB8 := Lib.hid (Below.of HB4.out hb8); have hown8 := owns_below' HW1.out hb8; have hCu := Cells.of_owns ho8.1; have HO8 := Lib.hid ho8; clear hb8 ho8; rw [List.length_map, H3.out] at hCu; obtain ⟨ao8, cap8, hv8, _⟩ := hCu; subst hv8; have hCu := Cells.of_owns HO8.out.1; rw [List.length_map, H3.out] at hCu) | (at_builtin; refine app_cells rfl _ _ 22 rfl 3 1 8 _ Tryd.underlying22 infoI' rfl (by decide) (w0 := w) (B0 := w.heap.size) rfl hown8 hB8.out (Nat.le_refl _) hB8.out.size rfl hCu (by intro u hu; obtain ⟨z, _, rfl⟩ := List.mem_map.1 hu; rfl) (by omega) (by omega) ?_; intro v9 w9 hown9 hb9 hbs9 hgr9))
        go_ret
        refine ⟨hb9, .inl ⟨_, _, hyes.out, rfl, ?_, ?_⟩⟩
        · have e : ((I + 1) :: R.map PR.numV).length = 1 + 3 := by simp [H3.out]
          rw [e]
          exact hown9
        · intro z hz
          rcases List.mem_cons.1 hz with rfl | hz
          · unfold rng; omega
          · exact HO8.out.2 z hz
    · have hI0b : decide (0 ≤ I) = false := decide_eq_false hI0
      have hno : Hid (askedK (x :: R) = none) := by show (if _ then _ else _) = _; rw [if_neg (by rintro ⟨_, h0, _⟩; rw [← HI.out] at h0; exact hI0 h0)]
      go_wp2_with (go_at_call 45; refine (kNeed_no _ _).mono ?_; rintro e w7 ⟨rfl, rfl⟩)
      exact ⟨rfl, HB3.out, .inr ⟨hno.out, rfl⟩⟩
  · have e1 : ((L.length : Int) == 4) = false := by simpa using (by omega : ¬ (L.length : Int) = 4)
    have e2 : ¬ (L.length : Int) = 4 := by omega
    have hno : Hid (askedK L = none) := by
      cases L with
      | nil => rfl
      | cons x R => show (if _ then _ else _) = _; rw [if_neg (by rintro ⟨h3, _⟩; exact c1 (by simp [h3]))]
    clear hi3 c1
    go_enter Tryd.func86, Tryd.ntmps86
    go_wp2_with (go_at_call 45; refine (kNeed_no _ _).mono ?_; rintro e w7 ⟨rfl, rfl⟩)
    exact ⟨rfl, Below.refl _ _, .inr ⟨hno.out, rfl⟩⟩

end Go.Proofs.YtjcaejdokillgaaDoor
