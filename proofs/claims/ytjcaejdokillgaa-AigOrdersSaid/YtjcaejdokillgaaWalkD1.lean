/- Contracts: the page's decimals; digits.Join. -/
import Derived.Test.YtjcaejdokillgaaLibR
import Derived.Test.YtjcaejdokillgaaWalks01e
import Derived.Test.YtjcaejdokillgaaShelfJ
import Derived.Test.YtjcaejdokillgaaLibC
import Derived.Lib.Join
namespace Go.Proofs.Ytjcaejdokillgaa
open Go.RowKit Go.Shelf
attribute [local simp] mk_get

theorem cat_eq (a b : List UInt8) : (ByteArray.mk a.toArray) ++ (ByteArray.mk b.toArray) = ⟨(a ++ b).toArray⟩ := by
  apply ByteArray.ext
  simp [ByteArray.data_append]

theorem conv_cell (w : World) (g : Nat) (y : UInt8) (n : Int) (h : (y.toNat : Int) = n) (hc : w.cell? ⟨g, 0, none⟩ = some (.int .u8 n)) : (convert 29 9 (.slice (some ⟨g, 0, none⟩) 1 1)).run Try.prog w = .ok (.string ⟨#[y]⟩) w := by
  subst h
  refine run_convert_bytes_back w 29 9 5 ⟨g, 0, none⟩ 1 [y] Try.underlying29 Try.underlying5 Try.underlying9 fun j hj => ?_
  have hj0 : j = 0 := by simp at hj; omega
  subst hj0
  exact hc

theorem toNat_dg (d : Nat) (h : d < 10) : ((P01.dg d).toNat : Int) = 48 + (d : Int) := by
  have := P01.toNat_dig d h
  omega

def one8 (n : Int) (v : Value) (w : World) : Prop := ∃ g, v = .slice (some ⟨g, 0, none⟩) 1 1 ∧ w.cell? ⟨g, 0, none⟩ = some (.int .u8 n)
theorem one8.mono {n : Int} {v : Value} {w w' : World} (h : one8 n v w) (hb : Below w.heap.size w w') : one8 n v w' := by
  obtain ⟨g, e, hc⟩ := h
  exact ⟨g, e, (hb.cell (World.block_lt_of_cell? w _ hc)).trans hc⟩

set_option maxHeartbeats 1000000 in
theorem r01digits_any (n : Nat) : ∀ (w : World), n ≤ 18446744073709551615 →
    Calls Try.prog 21 #[.int .u64 n] w fun e w' => e = .returned (.string ⟨(P01.dec n).toArray⟩) ∧ Below w.heap.size w w' := by
  induction n using Nat.strongRecOn with
  | _ n ih =>
    intro w hn
    by_cases h10 : n < 10
    · have hz : (n : Int) < 10 := by omega
      have hd := P01.dec_lt n h10
      have hcv := conv_cell (w.alloc (.cells #[.int .u8 (48 + (n : Int))] 5)) w.heap.size (P01.dg n) _ (toNat_dg n h10) (World.cell?_alloc_mark _ _ _ _ _)
      rw [hd]
      clear ih hd
      go_enter Try.func21, Try.ntmps21
      go_wp2_with fail
      go_ret
      exact ⟨rfl, (Below.refl _ _).alloc (Nat.le_refl _) _⟩
    · have hz : decide ((n : Int) < 10) = false := decide_eq_false (by omega)
      have hc := fun y => ih (n / 10) (by omega) y (by omega)
      have hlen := P01.dec_len (n / 10) 20 (by omega) (by omega)
      have hstep := P01.dec_ge n h10
      have htn := toNat_dg (n % 10) (by omega)
      have hq : ((n / 10 : Nat) : Int) = (n : Int) / 10 := by omega
      have hr : ((n % 10 : Nat) : Int) = (n : Int) % 10 := by omega
      rw [hq] at hc
      rw [hr] at htn
      rw [hstep]
      generalize P01.dec (n / 10) = D at *
      generalize P01.dg (n % 10) = y at *
      clear ih hstep hq hr
      go_enter Try.func21, Try.ntmps21
      go_wp2_with fail
      refine wp_region_makes 10 [isV (.int .u64 (n : Int)), isV (.int .u64 ((n : Int) / 10)), isV (.string ⟨D.toArray⟩), isV (.int .u64 (n : Int)), isV (.int .u64 ((n : Int) % 10)),
        isV (.int .u64 (48 + (n : Int) % 10)), isV (.int .u8 (48 + (n : Int) % 10)), one8 (48 + (n : Int) % 10), isV (.string ⟨#[y]⟩), isV (.string ⟨(D ++ [y]).toArray⟩)]
        [some 10, some 11, some 12, some 13, some 14, some 15, some 16, some 17, some 18, some 19] (by kernel_rfl) (by kernel_rfl) rfl (by
          intro g hg
          simp only [List.mem_cons, List.mem_nil_iff, or_false] at hg
          rcases hg with rfl | rfl | rfl | rfl | rfl | rfl | rfl | rfl | rfl | rfl <;> first | exact isV_keeps _ | exact fun _ _ _ hb h => one8.mono h hb) ?_ ?_
      · refine ⟨fun vs y' hy hd => ?_, fun vs y' hy hd => ?_, fun vs y' hy hd => ?_, fun vs y' hy hd => ?_, fun vs y' hy hd => ?_, fun vs y' hy hd => ?_, fun vs y' hy hd => ?_, fun vs y' hy hd => ?_, fun vs y' hy hd => ?_, fun vs y' hy hd => ?_, trivial⟩
        · (simp only [opens]; try simp only [Nat.reduceAdd])
          go_wp2_with fail
          exact ⟨_, rfl, Below.refl _ _, rfl⟩
        · have g0 : vs 0 = .int .u64 (n : Int) := hd 0 (by decide) (by kernel_rfl)
          (simp only [opens]; try simp only [Nat.reduceAdd])
          rw [g0]
          go_wp2_with fail
          exact ⟨_, rfl, Below.refl _ _, rfl⟩
        · have g1 : vs 1 = .int .u64 ((n : Int) / 10) := hd 1 (by decide) (by kernel_rfl)
          (simp only [opens]; try simp only [Nat.reduceAdd])
          rw [g1]
          go_wp2_with (go_at_call 21; refine (hc _).mono ?_; rintro e w1 ⟨rfl, hb⟩)
          exact ⟨_, rfl, hb, rfl⟩
        · (simp only [opens]; try simp only [Nat.reduceAdd])
          go_wp2_with fail
          exact ⟨_, rfl, Below.refl _ _, rfl⟩
        · have g1 : vs 3 = .int .u64 (n : Int) := hd 3 (by decide) (by kernel_rfl)
          (simp only [opens]; try simp only [Nat.reduceAdd])
          rw [g1]
          go_wp2_with fail
          exact ⟨_, rfl, Below.refl _ _, rfl⟩
        · have g1 : vs 4 = .int .u64 ((n : Int) % 10) := hd 4 (by decide) (by kernel_rfl)
          (simp only [opens]; try simp only [Nat.reduceAdd])
          rw [g1]
          go_wp2_with fail
          exact ⟨_, rfl, Below.refl _ _, rfl⟩
        · have g1 : vs 5 = .int .u64 (48 + (n : Int) % 10) := hd 5 (by decide) (by kernel_rfl)
          (simp only [opens]; try simp only [Nat.reduceAdd])
          rw [g1]
          go_wp2_with fail
          exact ⟨_, rfl, Below.refl _ _, rfl⟩
        · have g1 : vs 6 = .int .u8 (48 + (n : Int) % 10) := hd 6 (by decide) (by kernel_rfl)
          (simp only [opens]; try simp only [Nat.reduceAdd])
          rw [g1]
          go_wp2_with fail
          exact ⟨_, rfl, (Below.refl _ _).alloc (Nat.le_refl _) _, _, rfl, World.cell?_alloc_mark _ _ _ _ _⟩
        · obtain ⟨g, g1, hcell⟩ : one8 (48 + (n : Int) % 10) (vs 7) y' := hd 7 (by decide) (by kernel_rfl)
          have hcv := conv_cell y' g y _ htn hcell
          (simp only [opens]; try simp only [Nat.reduceAdd])
          rw [g1]
          go_wp2_with fail
          exact ⟨_, rfl, Below.refl _ _, rfl⟩
        · have g1 : vs 2 = .string ⟨D.toArray⟩ := hd 2 (by decide) (by kernel_rfl)
          have g2 : vs 8 = .string ⟨#[y]⟩ := hd 8 (by decide) (by kernel_rfl)
          have hcat : (ByteArray.mk D.toArray) ++ (ByteArray.mk #[y]) = ⟨(D ++ [y]).toArray⟩ := cat_eq D [y]
          have hD1 : D.length + 1 ≤ 9223372036854775807 := by omega
          have hD2 : (D.length : Int) + 1 ≤ 9223372036854775807 := by omega
          (simp only [opens]; try simp only [Nat.reduceAdd])
          rw [g1, g2]
          go_wp2_with fail
          exact ⟨_, rfl, Below.refl _ _, rfl⟩
      · intro vs y' hy hf
        have g1 : vs 9 = .string ⟨(D ++ [y]).toArray⟩ := hf 9 (by decide)
        (simp only [opens]; try simp only [Nat.reduceAdd])
        rw [g1]
        go_wp2_with fail
        go_ret
        exact ⟨rfl, hy⟩

set_option maxHeartbeats 400000 in
theorem r01Print_any (n : Int) (w : World) (h1 : -9223372036854775808 ≤ n) (h2 : n ≤ 9223372036854775807) :
    Calls Try.prog 8 #[.int .i64 n] w fun e w' => e = .returned (.string ⟨(P01.decI n).toArray⟩) ∧ Below w.heap.size w w' := by
  have hu := Lib.hid fun y => r01digits_any n.natAbs y (by omega)
  unfold P01.decI
  by_cases h : n < 0
  · rw [if_pos h]
    have e : (n.natAbs : Int) = -n := by omega
    rw [e] at hu
    have hlen := P01.dec_len n.natAbs 20 (by omega) (by omega)
    generalize P01.dec n.natAbs = d at hu hlen
    have hw1 : IntKind.u64.wrap (-(n + 1)) = -(n + 1) := by
      have e : ∀ z, IntKind.u64.wrap z = z % 18446744073709551616 := fun z => by simp [IntKind.wrap, IntKind.bits, IntKind.signed]
      rw [e]; omega
    clear e
    go_enter Try.func8, Try.ntmps8
    go_wp2_with fail
    first | (rw [show -(n + 1) + 1 = -n by omega]; refine (hu.out _).mono ?_) | (refine (hu.out _).mono ?_)
    rintro e w2 ⟨rfl, hb⟩
    go_wp2_with fail
    go_ret
    refine ⟨?_, hb⟩
    simp only [Array.getD_eq_getD_getElem?, List.getElem?_toArray, List.getElem?_cons_succ, List.getElem?_cons_zero, Option.getD_some]
    exact congrArg (fun s => Ending.returned (Value.string s)) (ByteArray.mk_append_mk [45] d)
  · rw [if_neg h]
    have e : (n.natAbs : Int) = n := by omega
    rw [e] at hu
    clear e
    generalize P01.dec n.natAbs = d at hu
    go_enter Try.func8, Try.ntmps8
    go_wp2_with fail
    refine (hu.out _).mono ?_
    rintro e w2 ⟨rfl, hb⟩
    go_wp2_with fail
    go_ret
    exact ⟨rfl, hb⟩

theorem sJoin_sep (l : List (List UInt8)) (c : UInt8) (v : Value) (w : World) (hS : Strs w v l) (hne : 0 < l.length) (hN : l.length ≤ 140737488355328) (hlen : (Lib.join l [c]).length ≤ 140737488355328) :
    Calls Try.prog 52 #[v, .string ⟨#[c]⟩] w fun e w' => e = .returned (.string ⟨(Lib.join l [c]).toArray⟩) ∧ Below w.heap.size w w' := by
  obtain ⟨ao, cap, rfl, h1, h2, h3⟩ := hS.open_
  obtain ⟨b, off, rfl, hbs, -, -⟩ := h3 0 hne
  have em : (l.map fun s => (⟨s.toArray⟩ : ByteArray)).map (·.data.toList) = l := by
    rw [List.map_map, show ((fun x : ByteArray => x.data.toList) ∘ fun l : List UInt8 => ByteArray.mk l.toArray) = id from rfl, List.map_id]
  have h := Try.strings_Join b off cap (l.map fun s => ⟨s.toArray⟩) ⟨#[c]⟩ w (fun j x hx => by
    obtain ⟨hj, hx⟩ := List.getElem?_eq_some_iff.1 hx
    have hj' : j < l.length := by simpa using hj
    obtain ⟨b', off', e, _, _, hc⟩ := h3 j hj'
    cases e
    rw [hc, ← hx]; simp) hbs (by simpa using hN) (by simpa using h1) (by rw [em]; exact hlen)
  rw [em, List.length_map] at h
  exact h

theorem dJoin_any (l : List (List UInt8)) (v : Value) (w : World) (hS : Strs w v l) (hne : 0 < l.length) (hN : l.length ≤ 140737488355328) (hlen : (Lib.join l [32]).length ≤ 140737488355328) :
    Calls Try.prog 33 #[v] w fun e w' => e = .returned (.string ⟨(Lib.join l [32]).toArray⟩) ∧ Below w.heap.size w w' := by
  have hJ := Lib.hid (sJoin_sep l 32 v w hS hne hN hlen)
  go_enter Try.func33, Try.ntmps33
  go_wp2_with fail
  refine hJ.out.mono ?_
  rintro e w1 ⟨rfl, hb⟩
  go_wp2_with fail
  go_ret
  exact ⟨rfl, hb⟩

end Go.Proofs.Ytjcaejdokillgaa
