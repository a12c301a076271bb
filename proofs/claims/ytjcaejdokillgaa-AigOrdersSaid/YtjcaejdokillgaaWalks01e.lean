/- Contracts: Reverse at octets that the call owns; unsigned; Print. -/
import Derived.Test.YtjcaejdokillgaaPlain01
import Derived.Test.YtjcaejdokillgaaLib
import Derived.RegionTactic
import Derived.BigRegion
import Derived.ChangeAlike
namespace Go.Proofs.Ytjcaejdokillgaa
open Go.RowKit Go.Shelf

abbrev encB (c : UInt8) : Value := .int .u8 (c.toNat : Int)

/-- the first k and the last k have changed places -/
def RevTo (xs ys : List UInt8) (k : Nat) : Prop :=
  ys.length = xs.length ∧ ∀ j, j < xs.length → ys[j]? = if j < k ∨ xs.length < j + 1 + k then xs[xs.length - 1 - j]? else xs[j]?

theorem RevTo.zero (xs : List UInt8) : RevTo xs xs 0 := ⟨rfl, fun j hj => by rw [if_neg (by omega)]⟩

theorem RevTo.done {xs ys : List UInt8} {k : Nat} (h : RevTo xs ys k) (hk : xs.length ≤ 2 * k + 1) : ys = xs.reverse := by
  refine List.ext_getElem? fun j => ?_
  by_cases hj : j < xs.length
  · rw [h.2 j hj, List.getElem?_reverse hj]
    split
    · rfl
    · congr 1; omega
  · rw [List.getElem?_eq_none (by rw [h.1]; omega), List.getElem?_eq_none (by simp; omega)]

theorem RevTo.next {xs ys : List UInt8} {k : Nat} (h : RevTo xs ys k) (hk : 2 * k + 1 < xs.length) (a b : UInt8) (ha : ys[k]? = some a) (hb : ys[xs.length - 1 - k]? = some b) :
    RevTo xs ((ys.set k b).set (xs.length - 1 - k) a) (k + 1) := by
  refine ⟨by simp [h.1], fun j hj => ?_⟩
  have hak := h.2 k (by omega)
  have hbk := h.2 (xs.length - 1 - k) (by omega)
  rw [if_neg (by omega), ha] at hak
  rw [if_neg (by omega), hb] at hbk
  rw [List.getElem?_set]
  by_cases e1 : xs.length - 1 - k = j
  · rw [if_pos e1, if_pos (by simp [h.1]; omega), if_pos (by omega), hak]; congr 1; omega
  · rw [if_neg e1, List.getElem?_set]
    by_cases e2 : k = j
    · subst e2
      rw [if_pos rfl, if_pos (by rw [h.1]; omega), if_pos (by omega), hbk]
    · rw [if_neg e2, h.2 j hj]
      by_cases c : j < k ∨ xs.length < j + 1 + k
      · rw [if_pos c, if_pos (by omega)]
      · rw [if_neg c, if_neg (by omega)]

set_option maxHeartbeats 1000000 in
theorem ReverseB_any (B g cap : Nat) (xs : List UInt8) (w : World) (hs : xs.length ≤ 9223372036854775807) (hown : w.ownsRow B 5 1 (.slice (some ⟨g, 0, none⟩) xs.length cap) xs.length (xs.map encB)) :
    Calls Try.prog 54 #[.slice (some ⟨g, 0, none⟩) xs.length cap] w fun e w' => e = .returned (.tuple #[]) ∧
      w'.ownsRow B 5 1 (.slice (some ⟨g, 0, none⟩) xs.length cap) xs.length (xs.reverse.map encB) ∧ w.grownBy w' (some g) := by
  go_enter Try.func54, Try.ntmps54
  go_wp2
  go_loopg [2, 3] xs.length (fun gk s2 s3 wr => ∃ (i : Nat) (ys : List UInt8), s2 = .int .i64 i ∧ s3 = .int .i64 ((xs.length : Int) - 1 - i) ∧ i ≤ xs.length ∧ xs.length - i ≤ gk ∧
    Aside (RevTo xs ys i ∧ wr.ownsRow B 5 1 (.slice (some ⟨g, 0, none⟩) xs.length cap) xs.length (ys.map encB) ∧ w.grownBy wr (some g)))
  case atStart => exact ⟨0, xs, rfl, by go_num, by omega, by omega, RevTo.zero xs, hown, World.grownBy.refl _ _⟩
  case round =>
    obtain ⟨i, ys, rfl, rfl, hi, hg, HA⟩ := hrel
    by_cases hlt : (i : Int) < (xs.length : Int) - 1 - i
    · obtain ⟨hrev, hown', hgr⟩ := HA.out
      clear HA
      have hyl := hrev.1
      have hci := hown'.cellAt i (by omega)
      have hcj := hown'.cellAt (xs.length - 1 - i) (by omega)
      have hfi := hown'.frozenAt i
      have hfj := hown'.frozenAt (xs.length - 1 - i)
      rw [List.getElem?_map, List.getElem?_eq_getElem (by omega)] at hci hcj
      simp only [Option.map_some] at hci hcj
      have HA : Aside (RevTo xs ys i ∧ wr.ownsRow B 5 1 (.slice (some ⟨g, 0, none⟩) xs.length cap) xs.length (ys.map encB) ∧ w.grownBy wr (some g)) := ⟨hrev, hown', hgr⟩
      have ha := Lib.hid (show ys[i]? = some ys[i] from List.getElem?_eq_getElem (by omega))
      have hb := Lib.hid (show ys[xs.length - 1 - i]? = some ys[xs.length - 1 - i] from List.getElem?_eq_getElem (by omega))
      generalize ys[i] = a at hci ha
      generalize ys[xs.length - 1 - i] = b at hcj hb
      clear hrev hown' hgr hown
      rw [show ((xs.length : Int) - 1 - (i : Int)) = ((xs.length - 1 - i : Nat) : Int) from by omega] at hlt ⊢
      have hjn : xs.length - 1 - i < xs.length := by omega
      have hjj := Lib.hid (show xs.length - 1 - i = xs.length - 1 - i from rfl)
      generalize hj : xs.length - 1 - i = j at hlt hcj hfj hb hjn ⊢
      have hJ := Lib.hid hj
      clear hj hjj
      have hjz : (j : Int) < (xs.length : Int) := by omega
      have hiz : (i : Int) < (xs.length : Int) := by omega
      have hne : ¬ i = j := by omega
      go_wp2_with fail
      go_region
      go_wp2
      go_roundg (xs.length - (i + 1))
      case measure => omega
      case rel =>
        obtain ⟨hrev, hown', hgr⟩ := HA.out
        have hJ' := hJ.out
        refine ⟨i + 1, (ys.set i b).set j a, by go_num, by congr 1; omega, by omega, by omega, ?_, ?_, ?_⟩
        · rw [← hJ']; exact hrev.next (by omega) a b ha.out (by rw [hJ']; exact hb.out)
        · have h1 := (hown'.stored i (encB b)).1
          have h2 := (h1.stored j (encB a)).1
          rw [← List.map_set, ← List.map_set] at h2
          exact h2
        · have h1 := (hown'.stored i (encB b))
          have h2 := (h1.1.stored j (encB a)).2
          exact grownBy_drew ((hgr.trans h1.2).trans h2)
    · have hd : xs.length ≤ 2 * i + 1 := by omega
      go_wp2
      go_end0
      obtain ⟨hrev, hown', hgr⟩ := HA.out
      rw [hrev.done hd] at hown'
      exact ⟨rfl, by rw [← List.map_reverse]; exact hown', hgr⟩

theorem Try.info5 : (Try.prog.info? 5).map (fun i => (i.zero, i.size, i.bytes)) = some (some (.int .u8 0), 1, 1) := by kernel_rfl

theorem wrap_u8 (d : Nat) (h : d < 10) : (.int .u8 (48 + (d : Int)) : Value) = encB (P01.dg d) := by
  have := P01.toNat_dig d h
  simp only [encB, this]
  congr 1

theorem dec_step (m : Nat) (h : ¬ m < 10) : P01.dec m = P01.dec (m / 10) ++ [P01.dg (m % 10)] := P01.dec_ge m h

set_option maxRecDepth 100000 in
set_option maxHeartbeats 1000000 in
theorem unsigned_any (n : Nat) (w : World) (hn : n ≤ 9223372036854775808) :
    Calls Try.prog 37 #[.int .u64 n] w fun e w' => e = .returned (.string ⟨(P01.dec n).toArray⟩) ∧ Below w.heap.size w w' := by
  go_enter Try.func37, Try.ntmps37
  go_wp2
  go_loopg [0, 3] n (fun gk s0 s3 wr => ∃ (m : Nat) (acc : List UInt8), s0 = .int .u64 m ∧ m ≤ 9223372036854775808 ∧ m ≤ gk ∧
    Aside (wr.ownsRow w.heap.size 5 1 s3 acc.length (acc.map encB)) ∧ acc.length + (P01.dec m).length ≤ 100 ∧ Below w.heap.size w wr ∧
    Aside (P01.dec n = P01.dec m ++ acc.reverse))
  case atStart => exact ⟨n, [], rfl, hn, Nat.le_refl _, World.ownsRow_nil _ _ _ _, by have := P01.dec_len n 20 (by omega) (by omega); simp; omega, Below.refl _ _, by simp [Aside]⟩
  case round =>
    obtain ⟨m, acc, rfl, hm, hg, hown, hal, hbel, HA⟩ := hrel
    have hbs := hbel.size
    by_cases h10 : m < 10
    · have hw := Lib.hid (wrap_u8 m h10)
      go_wp2_with (at_builtin; refine app_new rfl _ _ 29 rfl 5 1 1 _ Try.underlying29 Try.info5 rfl (by decide) rfl hown.out hbel (Nat.le_refl _) hbs _ 1 1 rfl (by intro u hu; simp at hu; subst hu; rfl) rfl (by omega) (by omega) ?_; intro v' w1 hown1 hbel1 hbs1 _)
      obtain ⟨g, cap, rfl, hBg, hgs, hnc⟩ := owns_some hown1 (by omega)
      have hown2 : w1.ownsRow w.heap.size 5 1 (.slice (some ⟨g, 0, none⟩) (acc.length + 1) cap) (acc ++ [P01.dg m]).length ((acc ++ [P01.dg m]).map encB) := by
        rw [List.map_append, List.length_append]
        have e : (#[Value.int IntKind.u8 (48 + (m : Int))].toList) = [P01.dg m].map encB := by rw [hw.out]; rfl
        rw [← e]
        exact hown1
      have hlen : (acc ++ [P01.dg m]).length = acc.length + 1 := by simp
      have HL := Lib.hid hlen
      clear hlen
      have hfin : (acc ++ [P01.dg m]).reverse = P01.dec n := by rw [HA.out, P01.dec_lt m h10]; simp
      have HF := Lib.hid hfin
      clear hfin hown1
      generalize acc ++ [P01.dg m] = l at hown2 HL HF
      have hll : l.length ≤ 9223372036854775807 := by rw [HL.out]; omega
      have hrev := ReverseB_any w.heap.size g cap l w1 hll (by rw [HL.out] at hown2 ⊢; exact hown2)
      rw [HL.out] at hrev
      clear hown2
      go_wp2_with (go_at_call 54; refine hrev.mono ?_; rintro e w2 ⟨rfl, hown3, hgr3⟩)
      have hcv := conv_back (P := Try.prog) (l := l.reverse) 29 9 Try.underlying29 Try.underlying5 Try.underlying9 (acc.length + 1) (by simp [HL.out]) hown3
      rw [hcv]
      go_wp2
      go_ret
      exact ⟨by rw [← HF.out]; rfl, hbel1.grown hgr3 hbs1 (fun k hk => by cases hk; exact hBg)⟩
    · go_wp2_with (at_builtin; refine app_new rfl _ _ 29 rfl 5 1 1 _ Try.underlying29 Try.info5 rfl (by decide) rfl hown.out hbel (Nat.le_refl _) hbs _ 1 1 rfl (by intro u hu; simp at hu; subst hu; rfl) rfl (by omega) (by omega) ?_; intro v' w1 hown1 hbel1 hbs1 _)
      have hstep := dec_step m h10
      have hdl : (P01.dec m).length = (P01.dec (m / 10)).length + 1 := by rw [hstep]; simp
      go_roundg (m / 10)
      case measure => omega
      case rel =>
        refine ⟨m / 10, acc ++ [P01.dg (m % 10)], by go_num, by omega, Nat.le_refl _, ?_, by simp; omega, hbel1, ?_⟩
        · have e : [Value.int IntKind.u8 (48 + (m : Int) % 10)] = [P01.dg (m % 10)].map encB := by
            have := wrap_u8 (m % 10) (Nat.mod_lt _ (by omega))
            simp only [List.map_cons, List.map_nil, ← this]
            rfl
          rw [e] at hown1
          rw [List.map_append, List.length_append]
          exact hown1
        · show P01.dec n = _
          rw [HA.out, hstep]; simp

theorem wrap_neg (n : Int) (h : n < 0) (h1 : -9223372036854775808 ≤ n) : IntKind.u64.wrap (-IntKind.u64.wrap n) = -n := by
  have e : ∀ z, IntKind.u64.wrap z = z % 18446744073709551616 := fun z => by simp [IntKind.wrap, IntKind.bits, IntKind.signed]
  rw [e, e]
  omega

set_option maxHeartbeats 400000 in
theorem Print_any (n : Int) (w : World) (h1 : -9223372036854775808 ≤ n) (h2 : n ≤ 9223372036854775807) :
    Calls Try.prog 19 #[.int .i64 n] w fun e w' => e = .returned (.string ⟨(P01.decI n).toArray⟩) ∧ Below w.heap.size w w' := by
  have hu := unsigned_any n.natAbs w (by omega)
  unfold P01.decI
  by_cases h : n < 0
  · rw [if_pos h]
    have e : (n.natAbs : Int) = -n := by omega
    rw [e] at hu
    have hlen := P01.dec_len n.natAbs 20 (by omega) (by omega)
    generalize P01.dec n.natAbs = d at hu hlen
    clear e
    have hwr := Lib.hid (wrap_neg n h h1)
    go_enter Try.func19, Try.ntmps19
    go_wp2_with (go_at_call 37; rw [hwr.out]; refine hu.mono ?_; rintro e w2 ⟨rfl, hb⟩)
    go_ret
    refine ⟨?_, hb⟩
    simp only [Array.getD_eq_getD_getElem?, List.getElem?_toArray, List.getElem?_cons_succ, List.getElem?_cons_zero, Option.getD_some]
    exact congrArg (fun s => Ending.returned (Value.string s)) (ByteArray.mk_append_mk [45] d)
  · rw [if_neg h]
    have e : (n.natAbs : Int) = n := by omega
    rw [e] at hu
    clear e
    generalize P01.dec n.natAbs = d at hu
    go_enter Try.func19, Try.ntmps19
    go_wp2_with (go_at_call 37; refine hu.mono ?_; rintro e w2 ⟨rfl, hb⟩)
    go_ret
    exact ⟨rfl, hb⟩

end Go.Proofs.Ytjcaejdokillgaa
