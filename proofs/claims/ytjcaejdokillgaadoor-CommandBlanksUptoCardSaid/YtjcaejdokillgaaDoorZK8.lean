/- Contracts: commands of one content; the page's example. -/
import Derived.Test.YtjcaejdokillgaaDoorZWalkK5
import Derived.Test.YtjcaejdokillgaaDoorZPlainQ
import Derived.Test.YtjcaejdokillgaaDoorZL1
import Derived.Deep.QuietTactic
import Derived.BigRegion
import Derived.Test.YtjcaejdokillgaaDoorZK6
import Derived.Test.YtjcaejdokillgaaDoorZL2
namespace Go.Proofs.YtjcaejdokillgaaDoor
open Go.RowKit Go.Shelf
attribute [local simp] mk_get

theorem info_stringK : (Tryd.prog.info? 9).map (fun i => (i.zero, i.size, i.bytes)) = some (some (.string ⟨#[]⟩), 1, 16) := by kernel_rfl
theorem cat_eqK (a b : List UInt8) : (ByteArray.mk a.toArray) ++ (ByteArray.mk b.toArray) = ⟨(a ++ b).toArray⟩ := by
  apply ByteArray.ext
  simp
theorem drop_extK (s : List UInt8) (k : Nat) : (ByteArray.mk s.toArray).extract k s.length = ⟨(s.drop k).toArray⟩ := by
  apply ByteArray.ext
  simp only [ByteArray.data_extract]
  apply Array.ext'
  simp
  exact List.take_of_length_le (by simp)
theorem mid_extK (s : List UInt8) (f i : Nat) : (ByteArray.mk s.toArray).extract f i = ⟨((s.drop f).take (i - f)).toArray⟩ := by
  apply ByteArray.ext
  simp only [ByteArray.data_extract]
  apply Array.ext'
  simp
abbrev strK (l : List UInt8) : Value := .string ⟨l.toArray⟩

set_option maxRecDepth 100000 in
set_option maxHeartbeats 4000000 in
theorem r01Cut_any (c : UInt8) (s : List UInt8) (w : World) (hs : s.length ≤ 1048576) :
    Calls Tryd.prog 40 #[.string ⟨s.toArray⟩, .int .u8 (c.toNat : Int)] w fun e w' => ∃ v, e = .returned v ∧ w'.ownsRow w.heap.size 9 1 v (PS.cut c s).length ((PS.cut c s).map strK) ∧ Below w.heap.size w w' := by
  go_enter Tryd.func40, Tryd.ntmps40
  go_wp2_with fail
  go_loopg [5, 6, 7] s.length (fun gg s5 s6 s7 wr => ∃ (i f : Nat) (P : List (List UInt8)), i ≤ s.length ∧ f ≤ i ∧ s.length - i ≤ gg ∧ P.length ≤ f ∧ s6 = .int .i64 f ∧ s7 = .int .i64 i ∧ Hid (Below w.heap.size w wr) ∧ Hid (PS.cut c s = P ++ PS.cut c (s.drop f)) ∧ Hid (c ∉ (s.drop f).take (i - f)) ∧ Aside (wr.ownsRow w.heap.size 9 1 s5 P.length (P.map strK)))
  case atStart => exact ⟨0, 0, [], Nat.zero_le _, Nat.le_refl _, by omega, Nat.le_refl _, rfl, rfl, Below.refl _ _, rfl, (show c ∉ _ by simp), World.ownsRow_nil _ _ _ _⟩
  case round =>
    obtain ⟨i, f, P, hi, hfi, hg, hP, rfl, rfl, hbr, hcut, hcl, hown⟩ := hrel
    by_cases hlt : i < s.length
    · have hltz : (i : Int) < (s.length : Int) := by omega
      have hmea : ∀ g : Nat, s.length - i ≤ g → s.length - (i + 1) < g := fun g h => by omega
      have hiz : (i : Int) ≤ 1048576 := by omega
      by_cases hx : s[i] = c
      · have hsp : s.drop f = (s.drop f).take (i - f) ++ c :: s.drop (i + 1) := by
          have h1 : s.drop f = (s.drop f).take (i - f) ++ (s.drop f).drop (i - f) := (List.take_append_drop _ _).symm
          rw [List.drop_drop, show f + (i - f) = i by omega, List.drop_eq_getElem_cons hlt, hx] at h1
          exact h1
        obtain ⟨p, hp⟩ : ∃ p, p = (s.drop f).take (i - f) := ⟨_, rfl⟩
        have hcut2 : Hid (PS.cut c s = (P ++ [p]) ++ PS.cut c (s.drop (i + 1))) := by
          show _ = _
          rw [hcut.out, hsp, ← hp, PS.cut_append _ (by rw [hp]; exact hcl.out)]
          simp
        have hex : (ByteArray.mk s.toArray).extract f i = ⟨p.toArray⟩ := by rw [hp, mid_extK]
        have hfz : (f : Int) ≤ (i : Int) := by omega
        have hiz2 : (i : Int) ≤ (s.length : Int) := by omega
        have hfl : f ≤ s.length := by omega
        have hPl : P.length ≤ 1048576 := by omega
        obtain ⟨y, hy⟩ : ∃ y, s[i] = y := ⟨_, rfl⟩
        have hyc : y = c := by rw [← hy]; exact hx
        subst hyc
        clear hsp hp hcl hcut hx
        go_wp2_with (at_builtin; refine app_new rfl _ _ 38 rfl 9 1 16 _ Tryd.underlying38 info_stringK rfl (by decide) (w0 := w) (B0 := w.heap.size) rfl hown.out hbr.out (Nat.le_refl _) hbr.out.size _ 1 1 rfl (by intro u hu; simp at hu; subst hu; rfl) rfl (by omega) (by omega) ?_; intro v8 w8 hown8 hb8 hbs8 hgr8)
        go_roundg (s.length - (i + 1))
        case measure => exact hmea _ hg
        case rel =>
          refine ⟨i + 1, i + 1, P ++ [p], by omega, Nat.le_refl _, by omega, by simp; omega, by go_num, by go_num, hb8, hcut2, (show _ ∉ _ by simp), ?_⟩
          rw [List.length_append, List.map_append]
          exact hown8
      · have hcl2 : Hid (c ∉ (s.drop f).take (i + 1 - f)) := by
          show _ ∉ _
          rw [show i + 1 - f = (i - f) + 1 by omega, List.take_succ_eq_append_getElem (by simp; omega)]
          intro hm
          rcases List.mem_append.1 hm with hm | hm
          · exact hcl.out hm
          · have := List.mem_singleton.1 hm
            rw [List.getElem_drop] at this
            simp only [show f + (i - f) = i by omega] at this
            exact hx this.symm
        obtain ⟨y, hy⟩ : ∃ y, s[i] = y := ⟨_, rfl⟩
        have hyc : y ≠ c := by rw [← hy]; exact hx
        have hyn : ¬ (y.toNat : Int) = (c.toNat : Int) := fun e => hyc (UInt8.toNat_inj.1 (by omega))
        have hyb : ((y.toNat : Int) == (c.toNat : Int)) = false := by simpa using hyn
        have hyb2 : (y == c) = false := by simpa using hyc
        clear hcl hx hyc hyn
        go_wp2_with fail
        go_roundg (s.length - (i + 1))
        case measure => exact hmea _ hg
        case rel => exact ⟨i + 1, f, P, by omega, by omega, by omega, hP, rfl, by go_num, hbr, hcut, hcl2, hown⟩
    · have hltz : ¬ (i : Int) < (s.length : Int) := by omega
      obtain rfl : i = s.length := by omega
      have hlast : Hid (PS.cut c s = P ++ [s.drop f]) := by
        show _ = _
        have := hcl.out
        rw [List.take_of_length_le (by simp)] at this
        rw [hcut.out, PS.cut_one this]
      have hfz : (f : Int) ≤ (s.length : Int) := by omega
      have hPl : P.length ≤ 1048576 := by omega
      have hex := drop_extK s f
      obtain ⟨p, hp⟩ : ∃ p, p = s.drop f := ⟨_, rfl⟩
      rw [← hp] at hlast hex
      clear hcl hcut hp
      go_wp2_with (at_builtin; refine app_new rfl _ _ 38 rfl 9 1 16 _ Tryd.underlying38 info_stringK rfl (by decide) (w0 := w) (B0 := w.heap.size) rfl hown.out hbr.out (Nat.le_refl _) hbr.out.size _ 1 1 rfl (by intro u hu; simp at hu; subst hu; rfl) rfl (by omega) (by omega) ?_; intro v8 w8 hown8 hb8 hbs8 hgr8)
      go_ret
      refine ⟨_, rfl, ?_, hb8⟩
      rw [hlast.out, List.length_append, List.map_append]
      exact hown8

end Go.Proofs.YtjcaejdokillgaaDoor

namespace Go.Proofs.YtjcaejdokillgaaDoor
open Go.RowKit Go.Shelf
attribute [local simp] mk_get

theorem words_step (L : List (List UInt8)) (k : Nat) (hk : k < L.length) : (L.take (k + 1)).filter (fun p => !p.isEmpty) = (L.take k).filter (fun p => !p.isEmpty) ++ (if L[k].isEmpty then [] else [L[k]]) := by
  rw [List.take_succ_eq_append_getElem hk, List.filter_append, List.filter_cons]
  cases h : L[k].isEmpty <;> simp

set_option maxRecDepth 100000 in
set_option maxHeartbeats 4000000 in
theorem r01Words_any (s : List UInt8) (w : World) (hs : s.length ≤ 1048576) :
    Calls Tryd.prog 15 #[.string ⟨s.toArray⟩] w fun e w' => ∃ v, e = .returned v ∧ Strs w' v (PS.words s) ∧ Below w.heap.size w w' := by
  have hC := Lib.hid (r01Cut_any 32 s w hs)
  have hcl := PS.cut_len 32 s
  have hW : PS.words s = (PS.cut 32 s).filter fun p => !p.isEmpty := rfl
  have hp : ∀ t ∈ PS.cut 32 s, t.length ≤ 9223372036854775807 := fun t ht => by
    have := PS.cut_piece 32 s t ht
    omega
  have hpw : ∀ t ∈ PS.words s, t.length ≤ 9223372036854775807 := fun t ht => hp t (List.mem_filter.1 ht).1
  have HPW := Lib.hid hpw
  have HW := Lib.hid hW
  clear hW hpw
  generalize PS.cut 32 s = L at *
  have HP := Lib.hid hp
  have hLl : L.length ≤ 1048577 := by omega
  clear hp hcl
  go_enter Tryd.func15, Tryd.ntmps15
  go_wp2_with (go_at_call 40; refine hC.out.mono ?_; rintro e w1 ⟨v, rfl, ho, hb1⟩; obtain ⟨a, cp, rfl⟩ := owned_sliceK ho; have HB1 := Lib.hid hb1; have HS : Hid (Strs w1 (.slice a L.length cp) L) := ⟨Cells.of_owns ho, HP.out⟩; clear ho hb1)
  obtain ⟨ao, cap, hsl, h1, h2, hi3⟩ := HS.out.open_
  cases hsl
  have HI := Lib.hid hi3
  clear hi3
  go_loopg [4, 5] L.length (fun gg s4 s5 wr => ∃ k : Nat, k ≤ L.length ∧ L.length - k ≤ gg ∧ s5 = .int .i64 k ∧ Hid (Below w1.heap.size w1 wr) ∧ Aside (wr.ownsRow w1.heap.size 9 1 s4 ((L.take k).filter fun p => !p.isEmpty).length (((L.take k).filter fun p => !p.isEmpty).map strK)))
  case atStart => exact ⟨0, Nat.zero_le _, by omega, rfl, Below.refl _ _, World.ownsRow_nil _ _ _ _⟩
  case round =>
    obtain ⟨k, hk, hg, rfl, hbr, hown⟩ := hrel
    by_cases hlt : k < L.length
    · obtain ⟨b', off, hbo, hbs, hry, hc⟩ := HI.out k hlt
      cases hbo
      have hmea : ∀ g : Nat, L.length - k ≤ g → L.length - (k + 1) < g := fun g h => by omega
      have hc := (hbr.out.cell hbs).trans hc
      have hst := words_step L k hlt
      have hltz : (k : Int) < (L.length : Int) := by omega
      have hfl : ((L.take k).filter fun p => !p.isEmpty).length ≤ 1048577 := by
        have := List.length_filter_le (fun p : List UInt8 => !p.isEmpty) (L.take k)
        have h2 : (L.take k).length ≤ k := by rw [List.length_take]; omega
        omega
      obtain ⟨F1, hF1⟩ : ∃ F1, F1 = (L.take (k + 1)).filter fun p => !p.isEmpty := ⟨_, rfl⟩
      obtain ⟨F, hF⟩ : ∃ F, F = (L.take k).filter fun p => !p.isEmpty := ⟨_, rfl⟩
      rw [← hF1, ← hF] at hst
      rw [← hF] at hown hfl
      have HF1 := Lib.hid hF1
      clear hF1 hF
      generalize L[k] = y at *
      cases y with
      | nil =>
        have hst : F1 = F := by rw [hst]; simp
        subst hst
        clear hry
        go_wp2_with fail
        go_roundg (L.length - (k + 1))
        case measure => exact hmea _ hg
        case rel =>
          refine ⟨k + 1, by omega, by omega, by go_num, hbr, ?_⟩
          rw [← HF1.out]
          exact hown.out
      | cons y0 yr =>
        have hst : Hid (F1 = F ++ [y0 :: yr]) := by show _ = _; rw [hst]; simp
        clear hry
        go_wp2_with (at_builtin; refine app_new rfl _ _ 38 rfl 9 1 16 _ Tryd.underlying38 info_stringK rfl (by decide) (w0 := w1) (B0 := w1.heap.size) rfl hown.out hbr.out (Nat.le_refl _) hbr.out.size _ 1 1 rfl (by intro u hu; simp at hu; subst hu; rfl) rfl (by omega) (by omega) ?_; intro v8 w8 hown8 hb8 hbs8 hgr8)
        go_roundg (L.length - (k + 1))
        case measure => exact hmea _ hg
        case rel =>
          refine ⟨k + 1, by omega, by omega, by go_num, hb8, ?_⟩
          rw [← HF1.out, hst.out, List.length_append, List.map_append]
          exact hown8
    · have hltz : ¬ (k : Int) < (L.length : Int) := by omega
      obtain rfl : k = L.length := by omega
      have hS : Hid (Strs wr u4 (PS.words s)) := by
        have := hown.out
        rw [List.take_length, ← HW.out] at this
        exact ⟨Cells.of_owns this, HPW.out⟩
      clear hown hg hk hlt
      go_wp2_with fail
      go_ret
      exact ⟨_, rfl, hS.out, Below.of HB1.out hbr.out⟩

theorem jn_take (b : List UInt8) (l : List (List UInt8)) (k : Nat) (hk : k < l.length) : PS.jn b (l.take (k + 1)) = if k = 0 then l[k] else PS.jn b (l.take k) ++ b ++ l[k] := by
  rw [List.take_succ_eq_append_getElem hk]
  by_cases h : k = 0
  · subst h; simp [PS.jn]
  · rw [if_neg h, PS.jn_snoc]
    intro e
    have : (l.take k).length = 0 := by rw [e]; rfl
    rw [List.length_take] at this
    omega

set_option maxRecDepth 100000 in
set_option maxHeartbeats 4000000 in
theorem r01Join_any (L : List (List UInt8)) (v : Value) (w : World) (h : Strs w v L) (hb : (PS.flat 32 L).length ≤ 100000) :
    Calls Tryd.prog 17 #[v, .string ⟨#[32, 32, 32]⟩] w fun e w' => e = .returned (.string ⟨(PS.jn [32, 32, 32] L).toArray⟩) ∧ w = w' := by
  obtain ⟨ao, cap, rfl, h1, h2, hi3⟩ := h.open_
  have HI := Lib.hid hi3
  clear hi3 h
  have hbd : Hid (∀ k, (PS.jn [32, 32, 32] (L.take k)).length ≤ 300000) := fun k => by
    have h1 := PS.jn_len [32, 32, 32] rfl (L.take k)
    have h2 : (PS.flat 32 (L.take k)).length ≤ (PS.flat 32 L).length := by
      conv => rhs; rw [← List.take_append_drop k L, PS.flat_append, List.length_append]
      omega
    omega
  go_enter Tryd.func17, Tryd.ntmps17
  go_wp2_with fail
  go_loopg [5, 6] L.length (fun gg s5 s6 wr => ∃ k : Nat, k ≤ L.length ∧ L.length - k ≤ gg ∧ s5 = .string ⟨(PS.jn [32, 32, 32] (L.take k)).toArray⟩ ∧ s6 = .int .i64 k ∧ w = wr)
  case atStart => exact ⟨0, Nat.zero_le _, by omega, rfl, rfl, rfl⟩
  case round =>
    obtain ⟨k, hk, hg, rfl, rfl, rfl⟩ := hrel
    by_cases hlt : k < L.length
    · obtain ⟨b', off, hbo, hbs, hry, hc⟩ := HI.out k hlt
      cases hbo
      have hmea : ∀ g : Nat, L.length - k ≤ g → L.length - (k + 1) < g := fun g h => by omega
      have hltz : (k : Int) < (L.length : Int) := by omega
      have hst := jn_take [32, 32, 32] L k hlt
      have l0 := hbd.out k
      have l1 := hbd.out (k + 1)
      obtain ⟨T1, hT1⟩ : ∃ Z, Z = PS.jn [32, 32, 32] (L.take (k + 1)) := ⟨_, rfl⟩
      obtain ⟨T, hT⟩ : ∃ Z, Z = PS.jn [32, 32, 32] (L.take k) := ⟨_, rfl⟩
      rw [← hT1, ← hT] at hst
      rw [← hT1] at l1
      rw [← hT] at l0 ⊢
      have HT1 := Lib.hid hT1
      have HT := Lib.hid hT
      clear hT1 hT
      obtain ⟨y, hy⟩ : ∃ y, L[k] = y := ⟨_, rfl⟩
      rw [hy] at hst hc hry
      clear hry hy
      by_cases hk0 : k = 0
      · have hT0 : T = [] := by rw [HT.out, hk0]; rfl
        rw [if_pos hk0] at hst
        subst hT0
        have hkn : ¬ 0 < k := by omega
        have k2 : (⟨([] : List UInt8).toArray⟩ : ByteArray) ++ ⟨y.toArray⟩ = ⟨T1.toArray⟩ := by rw [cat_eqK, hst]; rfl
        have hT1y : T1 = y := hst
        have m2 : ¬ 9223372036854775807 < y.length := by rw [← hst]; omega
        clear hst l0 l1 hk0 k2
        subst hT1y
        go_wp2_with fail
        go_roundg (L.length - (k + 1))
        case measure => exact hmea _ hg
        case rel => exact ⟨k + 1, by omega, by omega, by rw [← HT1.out]; exact congrArg Value.string (cat_eqK [] T1), by go_num, rfl⟩
      · have hkp : 0 < k := by omega
        rw [if_neg hk0] at hst
        obtain ⟨T2, hT2⟩ : ∃ Z, Z = T ++ [32, 32, 32] := ⟨_, rfl⟩
        rw [← hT2] at hst
        have k1 : (⟨T.toArray⟩ : ByteArray) ++ ⟨#[32, 32, 32]⟩ = ⟨T2.toArray⟩ := by rw [hT2]; exact cat_eqK T [32, 32, 32]
        have k2 : (⟨T2.toArray⟩ : ByteArray) ++ ⟨y.toArray⟩ = ⟨T1.toArray⟩ := by rw [cat_eqK, hst]
        have lT2 : T2.length = T.length + 3 := by rw [hT2]; simp
        have lT1 : T1.length = T2.length + y.length := by rw [hst]; simp
        have m1 : ¬ 9223372036854775807 < T.length + 3 := by omega
        have m2 : ¬ 9223372036854775807 < T2.length + y.length := by omega
        clear hst l0 l1 hk0 hT2 lT1 lT2
        go_wp2_with fail
        go_roundg (L.length - (k + 1))
        case measure => exact hmea _ hg
        case rel => exact ⟨k + 1, by omega, by omega, by rw [← HT1.out], by go_num, rfl⟩
    · have hltz : ¬ (k : Int) < (L.length : Int) := by omega
      obtain rfl : k = L.length := by omega
      rw [List.take_length]
      go_wp2_with fail
      go_ret
      exact ⟨rfl, rfl⟩

set_option maxHeartbeats 1000000 in
theorem plInts_eq (l : List Int) (va vb : Value) (w : World) (ha : Ints w va l) (hb : Ints w vb l) :
    Calls Tryd.prog 39 #[va, vb] w fun e w' => e = .returned (.bool true) ∧ Below w.heap.size w w' := by
  obtain ⟨aa, capa, rfl, a1, a2, a3⟩ := ha.open_
  obtain ⟨ab, capb, rfl, b1, b2, b3⟩ := hb.open_
  have HA := Lib.hid a3
  have HB := Lib.hid b3
  have hne : ((l.length : Int) != (l.length : Int)) = false := by simp
  clear ha hb a3 b3
  go_enter Tryd.func39, Tryd.ntmps39
  go_wp2_with fail
  go_loopg [5] l.length (fun gg s5 wr => ∃ k : Nat, k ≤ l.length ∧ l.length - k ≤ gg ∧ s5 = .int .i64 k ∧ Hid (Below w.heap.size w wr))
  case atStart => exact ⟨0, Nat.zero_le _, by omega, rfl, Below.refl _ _⟩
  case round =>
    obtain ⟨k, hk, hg, rfl, hbr⟩ := hrel
    by_cases hlt : k < l.length
    · obtain ⟨b', off, rfl, hbs, _, c0⟩ := HA.out k hlt
      obtain ⟨b'', off', rfl, hbs', _, c1⟩ := HB.out k hlt
      have hmea : ∀ g : Nat, l.length - k ≤ g → l.length - (k + 1) < g := fun g h => by omega
      have hltz : (k : Int) < (l.length : Int) := by omega
      have l0 : ∀ x : Later wr, _ := fun x => ((Below.of hbr.out x.below).cell hbs).trans c0
      have l1 : ∀ x : Later wr, _ := fun x => ((Below.of hbr.out x.below).cell hbs').trans c1
      generalize l[k] = x at *
      have hx : (x != x) = false := by simp
      clear c0 c1
      go_wp2_with fail
      refine wp_region_later (by kernel_rfl) (by kernel_rfl) ?_; (repeat (go_big_quiet_step ((fail)))); refine wpQuiet_nil ?_; rintro w3 ⟨⟨_, hb3⟩, rfl⟩
      have hb6 : Hid (Below w.heap.size w w3) := Below.of hbr.out hb3
      clear l0 l1
      go_wp2_with fail
      go_roundg (l.length - (k + 1))
      case measure => exact hmea _ hg
      case rel => exact ⟨k + 1, by omega, by omega, by go_num, hb6⟩
    · have hltz : ¬ (k : Int) < (l.length : Int) := by omega
      obtain rfl : k = l.length := by omega
      go_wp2_with fail
      go_ret
      exact ⟨rfl, hbr.out⟩

end Go.Proofs.YtjcaejdokillgaaDoor

namespace Go.Proofs.YtjcaejdokillgaaDoor
open Go.RowKit Go.Shelf
attribute [local simp] mk_get

theorem zero3_cmd (w : World) : IsCmd w (.agg zero3.toArray) 0 [] [] := ⟨.slice none 0 0, rfl, ⟨Cells.nil _ _, fun x hx => by cases hx⟩, by decide⟩

theorem PkTo.any (L : List (List UInt8)) : ∃ (ER K : Int) (T : List UInt8) (N : List Int), ∀ w e w', PkTo L w e w' → ∃ v, e = .returned (.tuple #[v, .int .i64 ER]) ∧ IsCmd w' v K T N ∧ Below w.heap.size w w' := by
  cases hc : cmdK L with
  | inl x =>
    obtain ⟨k, t, n⟩ := x
    refine ⟨0, k, t, n, fun w e w' h => ?_⟩
    obtain ⟨hb, ⟨k', t', n', v, h1, rfl, h2⟩ | ⟨er, _, h1, _⟩⟩ := h
    · rw [hc] at h1
      injection h1 with h1; injection h1 with g1 h1; injection h1 with g2 g3
      subst g1; subst g2; subst g3
      exact ⟨v, rfl, h2, hb⟩
    · rw [hc] at h1; cases h1
  | inr er =>
    refine ⟨er, 0, [], [], fun w e w' h => ?_⟩
    obtain ⟨hb, ⟨k', t', n', v, h1, _⟩ | ⟨er', _, h1, rfl⟩⟩ := h
    · rw [hc] at h1; cases h1
    · rw [hc] at h1
      obtain rfl := Sum.inr.inj h1
      exact ⟨_, rfl, zero3_cmd w', hb⟩
theorem PkTo.yes {L : List (List UInt8)} {w w' : World} {e : Ending} (h : PkTo L w e w') {k : Nat} {t : List UInt8} {n : List Int} (hc : cmdK L = .inl (k, t, n)) : ∃ v, e = .returned (.tuple #[v, .int .i64 0]) ∧ IsCmd w' v k t n ∧ Below w.heap.size w w' := by
  obtain ⟨hb, ⟨k', t', n', v, h1, rfl, h2⟩ | ⟨er, _, h1, _⟩⟩ := h
  · rw [hc] at h1
    injection h1 with h1; injection h1 with g1 h1; injection h1 with g2 g3
    subst g1; subst g2; subst g3
    exact ⟨v, rfl, h2, hb⟩
  · rw [hc] at h1; cases h1

set_option maxRecDepth 100000 in
set_option maxHeartbeats 4000000 in
theorem same32_any (K : Int) (T : List UInt8) (N : List Int) (va vb : Value) (w : World) (ha : IsCmd w va K T N) (hb : IsCmd w vb K T N) :
    Calls Tryd.prog 18 #[va, vb] w fun e w' => e = .returned (.bool true) ∧ Below w.heap.size w w' := by
  obtain ⟨na, rfl, ia, _⟩ := ha
  obtain ⟨nb, rfl, ib, _⟩ := hb
  obtain ⟨aa, ca, rfl, _⟩ := ia.open_
  obtain ⟨ab, cb, rfl, _⟩ := ib.open_
  obtain ⟨V1, hV1⟩ : ∃ V, V = w.alloc (.cells #[.int .i64 K, .slice aa N.length ca, .string ⟨T.toArray⟩] 41) := ⟨_, rfl⟩
  obtain ⟨V2, hV2⟩ : ∃ V, V = V1.alloc (.cells #[.int .i64 K, .slice ab N.length cb, .string ⟨T.toArray⟩] 41) := ⟨_, rfl⟩
  have e1 : V1.heap.size = w.heap.size + 1 := by rw [hV1]; simp
  have b1 : Below w.heap.size w V1 := by rw [hV1]; exact (Below.refl _ _).alloc (Nat.le_refl _) _
  have b2 : Below V1.heap.size V1 V2 := by rw [hV2]; exact (Below.refl _ _).alloc (Nat.le_refl _) _
  have r1 : RowL 41 V2 w.heap.size [.int .i64 K, .slice aa N.length ca, .string ⟨T.toArray⟩] := by
    have := RowL.new (T := 41) w [.int .i64 K, .slice aa N.length ca, .string ⟨T.toArray⟩]; rw [← hV1] at this; exact this.mono b2
  have r2 : RowL 41 V2 (w.heap.size + 1) [.int .i64 K, .slice ab N.length cb, .string ⟨T.toArray⟩] := by
    have := RowL.new (T := 41) V1 [.int .i64 K, .slice ab N.length cb, .string ⟨T.toArray⟩]; rw [← hV2, e1] at this; exact this
  have HB := Lib.hid (Below.of b1 b2)
  have hI := Lib.hid (plInts_eq N _ _ V2 (ia.mono (Below.of b1 b2)) (ib.mono (Below.of b1 b2)))
  have HV : Hid ((w.alloc (.cells #[.int .i64 K, .slice aa N.length ca, .string ⟨T.toArray⟩] 41)).alloc (.cells #[.int .i64 K, .slice ab N.length cb, .string ⟨T.toArray⟩] 41) = V2) := by show _ = _; rw [hV2, hV1]
  have q0 := r1.cell 0 _ rfl
  have q1 := r1.cell 1 _ rfl
  have q2 := r1.cell 2 _ rfl
  have z0 := r2.cell 0 _ rfl
  have z1 := r2.cell 1 _ rfl
  have z2 := r2.cell 2 _ rfl
  rw [← HV.out] at q0 q1 q2 z0 z1 z2
  have eK : (K == K) = true := by simp
  have eT : (T == T) = true := by simp
  clear ia ib e1 b1 b2 r1 r2 hV1 hV2
  go_enter Tryd.func18, Tryd.ntmps18
  go_wp2_with fail
  rw [HV.out]
  refine hI.out.mono ?_
  rintro e w7 ⟨rfl, hb7⟩
  clear q0 q1 q2 z0 z1 z2
  go_wp2_with fail
  go_ret
  exact ⟨by first | rfl | simp, Below.of HB.out hb7⟩

abbrev alS : List UInt8 := [99, 104, 101, 99, 107, 32, 105, 99, 51, 32, 49, 48, 48, 32, 48, 32, 48]
theorem al_words : PS.words alS = [[99, 104, 101, 99, 107], [105, 99, 51], [49, 48, 48], [48], [48]] := by kernel_rfl
theorem al_cmd : cmdK (PS.words alS) = .inl (9, [], [3, 100, 0, 0]) := by kernel_rfl

set_option maxRecDepth 100000 in
set_option maxHeartbeats 4000000 in
theorem alive32_any (m : Int) (w : World) (hm : w.cell? ⟨0, 0, none⟩ = some (.int .i64 m)) :
    Calls Tryd.prog 14 #[] w fun e w' => e = .returned (.bool true) ∧ Below w.heap.size w w' := by
  have hP := Lib.hid ((kParse_any alS m w (by decide) (by decide) (fun x R h => by rw [al_words] at h; obtain ⟨rfl, _⟩ := List.cons.inj h; decide) hm).mono fun e w' hh => PkTo.yes hh al_cmd)
  go_enter Tryd.func14, Tryd.ntmps14
  go_wp2_with fail
  refine hP.out.mono ?_
  rintro e w1 ⟨v, rfl, ⟨vn, rfl, hn, _⟩, hb1⟩
  have HN := Lib.hid hn
  obtain ⟨an, cn, rfl, _⟩ := hn.open_
  have HB1 := Lib.hid hb1
  clear hn hb1 hP
  obtain ⟨X, hX⟩ : ∃ X, X = w1.alloc (.cells #[.int .i64 9, .slice an 4 cn, .string ⟨#[]⟩] 41) := ⟨_, rfl⟩
  have bX : Below w1.heap.size w1 X := by rw [hX]; exact (Below.refl _ _).alloc (Nat.le_refl _) _
  obtain ⟨X2, hX2⟩ : ∃ X2, X2 = X.alloc (.cells #[.int .i64 3, .int .i64 100, .int .i64 0, .int .i64 0] 3) := ⟨_, rfl⟩
  have bX2 : Below X.heap.size X X2 := by rw [hX2]; exact (Below.refl _ _).alloc (Nat.le_refl _) _
  have sX : X.heap.size = w1.heap.size + 1 := by rw [hX]; simp
  have i2 : Ints X2 (.slice (some ⟨w1.heap.size + 1, 0, none⟩) 4 4) [3, 100, 0, 0] := by
    have := ints_new X [3, 100, 0, 0] (by decide) (by intro x hx; simp at hx; rcases hx with rfl | rfl | rfl | rfl <;> (unfold rng; decide)) #[.int .i64 3, .int .i64 100, .int .i64 0, .int .i64 0] rfl
    rw [← hX2, sX] at this
    exact this
  have hI := Lib.hid (plInts_eq [3, 100, 0, 0] _ _ X2 (HN.out.mono (Below.of bX bX2)) i2)
  have HX : Hid ((w1.alloc (.cells #[.int .i64 9, .slice an 4 cn, .string ⟨#[]⟩] 41)).alloc (.cells #[.int .i64 3, .int .i64 100, .int .i64 0, .int .i64 0] 3) = X2) := by show _ = _; rw [hX2, hX]
  have HB2 := Lib.hid (Below.of HB1.out (Below.of bX bX2))
  clear bX bX2 i2 hX hX2 sX
  go_wp2_with fail
  rw [HX.out]
  refine hI.out.mono ?_
  rintro e w7 ⟨rfl, hb7⟩
  go_wp2_with fail
  go_ret
  exact ⟨by first | rfl | simp, Below.of HB2.out hb7⟩

end Go.Proofs.YtjcaejdokillgaaDoor
