/- Contracts: the page's decimals, Join, and may a witness be printed. -/
import Derived.Test.YtfjejjdkogfelaaDoorWalkX1
import Derived.Test.YtfjejjdkogfelaaDoorLibR
import Derived.Test.YtfjejjdkogfelaaDoorWalkX2
namespace Go.Proofs.YtfjejjdkogfelaaDoor
open Go.RowKit Go.Shelf
attribute [local simp] mk_get

theorem conv_cell (w : World) (g : Nat) (y : UInt8) (n : Int) (h : (y.toNat : Int) = n) (hc : w.cell? ⟨g, 0, none⟩ = some (.int .u8 n)) : (convert 48 9 (.slice (some ⟨g, 0, none⟩) 1 1)).run Tryd.prog w = .ok (.string ⟨#[y]⟩) w := by
  subst h
  refine run_convert_bytes_back w 48 9 5 ⟨g, 0, none⟩ 1 [y] Tryd.underlying48 Tryd.underlying5 Tryd.underlying9 fun j hj => ?_
  have hj0 : j = 0 := by simp at hj; omega
  subst hj0
  exact hc

theorem toNat_dg (d : Nat) (h : d < 10) : ((P01.dg d).toNat : Int) = 48 + (d : Int) := by
  have := P01.toNat_dig d h
  omega

def one8 (n : Int) (v : Value) (w : World) : Prop := ∃ g, v = .slice (some ⟨g, 0, none⟩) 1 1 ∧ w.cell? ⟨g, 0, none⟩ = some (.int .u8 n)
theorem one8.mono {n : Int} {v : Value} {w w' : World} (h : one8 n v w) (hb : Below w.heap.size w w') : one8 n v w' := by
  obtain ⟨g, e, hc⟩ := h
  exact ⟨g, e, (hb.cell (World.block_lt_of_cell? w _ hc)).trans hc⟩

set_option maxHeartbeats 1000000 in
theorem r01digits_any (n : Nat) : ∀ (w : World), n ≤ 18446744073709551615 →
    Calls Tryd.prog 16 #[.int .u64 n] w fun e w' => e = .returned (.string ⟨(P01.dec n).toArray⟩) ∧ Below w.heap.size w w' := by
  induction n using Nat.strongRecOn with
  | _ n ih =>
    intro w hn
    by_cases h10 : n < 10
    · have hz : (n : Int) < 10 := by omega
      have hd := P01.dec_lt n h10
      have hcv := conv_cell (w.alloc (.cells #[.int .u8 (48 + (n : Int))] 5)) w.heap.size (P01.dg n) _ (toNat_dg n h10) (World.cell?_alloc_mark _ _ _ _ _)
      rw [hd]
      clear ih hd
      go_enter Tryd.func16, Tryd.ntmps16
      go_wp2_with fail
      go_ret
      exact ⟨rfl, (Below.refl _ _).alloc (Nat.le_refl _) _⟩
    · have hz : decide ((n : Int) < 10) = false := decide_eq_false (by omega)
      have hc := fun y => ih (n / 10) (by omega) y (by omega)
      have hlen := P01.dec_len (n / 10) 20 (by omega) (by omega)
      have hstep := P01.dec_ge n h10
      have htn := toNat_dg (n % 10) (by omega)
      have hq : ((n / 10 : Nat) : Int) = (n : Int) / 10 := by omega
      have hr : ((n % 10 : Nat) : Int) = (n : Int) % 10 := by omega
      rw [hq] at hc
      rw [hr] at htn
      rw [hstep]
      generalize P01.dec (n / 10) = D at *
      generalize P01.dg (n % 10) = y at *
      clear ih hstep hq hr
      go_enter Tryd.func16, Tryd.ntmps16
      go_wp2_with fail
      refine wp_region_makes 10 [isV (.int .u64 (n : Int)), isV (.int .u64 ((n : Int) / 10)), isV (.string ⟨D.toArray⟩), isV (.int .u64 (n : Int)), isV (.int .u64 ((n : Int) % 10)),
        isV (.int .u64 (48 + (n : Int) % 10)), isV (.int .u8 (48 + (n : Int) % 10)), one8 (48 + (n : Int) % 10), isV (.string ⟨#[y]⟩), isV (.string ⟨(D ++ [y]).toArray⟩)]
        [some 10, some 11, some 12, some 13, some 14, some 15, some 16, some 17, some 18, some 19] (by kernel_rfl) (by kernel_rfl) rfl (by
          intro g hg
          simp only [List.mem_cons, List.mem_nil_iff, or_false] at hg
          rcases hg with rfl | rfl | rfl | rfl | rfl | rfl | rfl | rfl | rfl | rfl <;> first | exact isV_keeps _ | exact fun _ _ _ hb h => one8.mono h hb) ?_ ?_
      · refine ⟨fun vs y' hy hd => ?_, fun vs y' hy hd => ?_, fun vs y' hy hd => ?_, fun vs y' hy hd => ?_, fun vs y' hy hd => ?_, fun vs y' hy hd => ?_, fun vs y' hy hd => ?_, fun vs y' hy hd => ?_, fun vs y' hy hd => ?_, fun vs y' hy hd => ?_, trivial⟩
        · simp only [opens, Nat.reduceAdd]
          go_wp2_with fail
          exact ⟨_, rfl, Below.refl _ _, rfl⟩
        · have g0 : vs 0 = .int .u64 (n : Int) := hd 0 (by decide) (by kernel_rfl)
          simp only [opens, Nat.reduceAdd]
          rw [g0]
          go_wp2_with fail
          exact ⟨_, rfl, Below.refl _ _, rfl⟩
        · have g1 : vs 1 = .int .u64 ((n : Int) / 10) := hd 1 (by decide) (by kernel_rfl)
          simp only [opens, Nat.reduceAdd]
          rw [g1]
          go_wp2_with (go_at_call 16; refine (hc _).mono ?_; rintro e w1 ⟨rfl, hb⟩)
          exact ⟨_, rfl, hb, rfl⟩
        · simp only [opens, Nat.reduceAdd]
          go_wp2_with fail
          exact ⟨_, rfl, Below.refl _ _, rfl⟩
        · have g1 : vs 3 = .int .u64 (n : Int) := hd 3 (by decide) (by kernel_rfl)
          simp only [opens, Nat.reduceAdd]
          rw [g1]
          go_wp2_with fail
          exact ⟨_, rfl, Below.refl _ _, rfl⟩
        · have g1 : vs 4 = .int .u64 ((n : Int) % 10) := hd 4 (by decide) (by kernel_rfl)
          simp only [opens, Nat.reduceAdd]
          rw [g1]
          go_wp2_with fail
          exact ⟨_, rfl, Below.refl _ _, rfl⟩
        · have g1 : vs 5 = .int .u64 (48 + (n : Int) % 10) := hd 5 (by decide) (by kernel_rfl)
          simp only [opens, Nat.reduceAdd]
          rw [g1]
          go_wp2_with fail
          exact ⟨_, rfl, Below.refl _ _, rfl⟩
        · have g1 : vs 6 = .int .u8 (48 + (n : Int) % 10) := hd 6 (by decide) (by kernel_rfl)
          simp only [opens, Nat.reduceAdd]
          rw [g1]
          go_wp2_with fail
          exact ⟨_, rfl, (Below.refl _ _).alloc (Nat.le_refl _) _, _, rfl, World.cell?_alloc_mark _ _ _ _ _⟩
        · obtain ⟨g, g1, hcell⟩ : one8 (48 + (n : Int) % 10) (vs 7) y' := hd 7 (by decide) (by kernel_rfl)
          have hcv := conv_cell y' g y _ htn hcell
          simp only [opens, Nat.reduceAdd]
          rw [g1]
          go_wp2_with fail
          exact ⟨_, rfl, Below.refl _ _, rfl⟩
        · have g1 : vs 2 = .string ⟨D.toArray⟩ := hd 2 (by decide) (by kernel_rfl)
          have g2 : vs 8 = .string ⟨#[y]⟩ := hd 8 (by decide) (by kernel_rfl)
          have hcat : (ByteArray.mk D.toArray) ++ (ByteArray.mk #[y]) = ⟨(D ++ [y]).toArray⟩ := cat_eq D [y]
          have hD1 : D.length + 1 ≤ 9223372036854775807 := by omega
          have hD2 : (D.length : Int) + 1 ≤ 9223372036854775807 := by omega
          simp only [opens, Nat.reduceAdd]
          rw [g1, g2]
          go_wp2_with fail
          exact ⟨_, rfl, Below.refl _ _, rfl⟩
      · intro vs y' hy hf
        have g1 : vs 9 = .string ⟨(D ++ [y]).toArray⟩ := hf 9 (by decide)
        simp only [opens, Nat.reduceAdd]
        rw [g1]
        go_wp2_with fail
        go_ret
        exact ⟨rfl, hy⟩

set_option maxHeartbeats 400000 in
theorem r01Print_any (n : Int) (w : World) (h1 : -9223372036854775808 ≤ n) (h2 : n ≤ 9223372036854775807) :
    Calls Tryd.prog 8 #[.int .i64 n] w fun e w' => e = .returned (.string ⟨(P01.decI n).toArray⟩) ∧ Below w.heap.size w w' := by
  have hu := Lib.hid fun y => r01digits_any n.natAbs y (by omega)
  unfold P01.decI
  by_cases h : n < 0
  · rw [if_pos h]
    have e : (n.natAbs : Int) = -n := by omega
    rw [e] at hu
    have hlen := P01.dec_len n.natAbs 20 (by omega) (by omega)
    generalize P01.dec n.natAbs = d at hu hlen
    have hw1 : IntKind.u64.wrap (-(n + 1)) = -(n + 1) := by
      have e : ∀ z, IntKind.u64.wrap z = z % 18446744073709551616 := fun z => by simp [IntKind.wrap, IntKind.bits, IntKind.signed]
      rw [e]; omega
    clear e
    go_enter Tryd.func8, Tryd.ntmps8
    go_wp2_with fail
    first | (rw [show -(n + 1) + 1 = -n by omega]; refine (hu.out _).mono ?_) | (refine (hu.out _).mono ?_)
    rintro e w2 ⟨rfl, hb⟩
    go_wp2_with fail
    go_ret
    refine ⟨?_, hb⟩
    simp only [Array.getD_eq_getD_getElem?, List.getElem?_toArray, List.getElem?_cons_succ, List.getElem?_cons_zero, Option.getD_some]
    exact congrArg (fun s => Ending.returned (Value.string s)) (ByteArray.mk_append_mk [45] d)
  · rw [if_neg h]
    have e : (n.natAbs : Int) = n := by omega
    rw [e] at hu
    clear e
    generalize P01.dec n.natAbs = d at hu
    go_enter Tryd.func8, Tryd.ntmps8
    go_wp2_with fail
    refine (hu.out _).mono ?_
    rintro e w2 ⟨rfl, hb⟩
    go_wp2_with fail
    go_ret
    exact ⟨rfl, hb⟩

theorem join_snoc (l : List (List UInt8)) (s x : List UInt8) (h : l ≠ []) : Lib.join (l ++ [x]) s = Lib.join l s ++ s ++ x := by
  cases l with
  | nil => exact absurd rfl h
  | cons p r =>
    rw [List.cons_append, Lib.join_cons, Lib.join_cons]
    clear h
    induction r generalizing p with
    | nil => simp [Lib.joinTail]
    | cons q r ih =>
      have := ih q
      simp only [List.cons_append, Lib.joinTail, List.append_assoc] at *
      simp_all

def jn (l : List (List UInt8)) (k : Nat) : List UInt8 := Lib.join (l.take k) [10]
theorem jn_zero (l : List (List UInt8)) : jn l 0 = [] := by simp [jn, Lib.join]
theorem jn_one (l : List (List UInt8)) (h : 0 < l.length) : jn l 1 = l[0] := by
  cases l with
  | nil => simp at h
  | cons x r => simp [jn, Lib.join_one]
theorem jn_succ (l : List (List UInt8)) (k : Nat) (h : k < l.length) (h0 : 0 < k) : jn l (k + 1) = jn l k ++ [10] ++ l[k] := by
  unfold jn
  rw [List.take_succ_eq_append_getElem h, join_snoc]
  intro e
  have : (l.take k).length = 0 := by rw [e]; rfl
  rw [List.length_take] at this
  omega
theorem jn_end (l : List (List UInt8)) : jn l l.length = Lib.join l [10] := by unfold jn; rw [List.take_length]
theorem jn_mono (l : List (List UInt8)) (k : Nat) (h : k < l.length) : (jn l k).length + l[k].length ≤ (jn l (k + 1)).length ∧ (0 < k → (jn l k).length + 1 + l[k].length ≤ (jn l (k + 1)).length) := by
  by_cases h0 : 0 < k
  · rw [jn_succ l k h h0, List.length_append, List.length_append]
    exact ⟨by simp, fun _ => by simp⟩
  · obtain rfl : k = 0 := by omega
    rw [jn_zero, jn_one l h]
    exact ⟨by simp, fun h => absurd h (by omega)⟩
theorem jn_le (l : List (List UInt8)) (d : Nat) : ∀ k, k + d = l.length → (jn l k).length ≤ (Lib.join l [10]).length := by
  induction d with
  | zero => intro k h; rw [show k = l.length by omega, jn_end]; exact Nat.le_refl _
  | succ d ih =>
    intro k h
    have h1 := ih (k + 1) (by omega)
    have h2 := (jn_mono l k (by omega)).1
    exact Nat.le_trans (Nat.le_trans (Nat.le_add_right _ _) h2) h1

set_option maxRecDepth 100000 in
set_option maxHeartbeats 1000000 in
theorem r01Join_any (l : List (List UInt8)) (v : Value) (w : World) (hS : Strs w v l) (hlen : (Lib.join l [10]).length ≤ 9223372036854775807) :
    Calls Tryd.prog 9 #[v, .string ⟨#[10]⟩] w fun e w' => e = .returned (.string ⟨(Lib.join l [10]).toArray⟩) ∧ w = w' := by
  obtain ⟨ao, cap, rfl, h1, h2, hc⟩ := hS.open_
  have HC := Lib.hid hc
  have HE := Lib.hid (jn_end l)
  obtain ⟨J, hJ⟩ : ∃ J, J = Lib.join l [10] := ⟨_, rfl⟩
  have HLE : Hid (∀ k, k ≤ l.length → (jn l k).length ≤ 9223372036854775807) := fun k hk => Nat.le_trans (jn_le l (l.length - k) k (by omega)) hlen
  rw [← hJ] at HE ⊢
  clear hc hS hJ hlen
  go_enter Tryd.func9, Tryd.ntmps9
  go_wp2_with fail
  go_loopg [5, 6] l.length (fun gg s5 s6 wr => ∃ k : Nat, k ≤ l.length ∧ l.length - k ≤ gg ∧ s5 = .string ⟨(jn l k).toArray⟩ ∧ s6 = .int .i64 k ∧ w = wr)
  case atStart => exact ⟨0, Nat.zero_le _, by omega, by rw [jn_zero], rfl, rfl⟩
  case round =>
    obtain ⟨k, hk, hg, rfl, rfl, rfl⟩ := hrel
    by_cases hlt : k < l.length
    · have hmea : Hid (∀ g : Nat, l.length - k ≤ g → l.length - (k + 1) < g) := fun g h => by omega
      have HG := Lib.hid hg
      obtain ⟨b, off, rfl, hbs, hl, hcell⟩ := HC.out k hlt
      have hltz : (k : Int) < (l.length : Int) := by omega
      have hm := jn_mono l k hlt
      have hle := HLE.out (k + 1) (by omega)
      by_cases h0 : k = 0
      · subst h0
        have hst := jn_one l hlt
        have hz := jn_zero l
        rw [hz]
        rw [Nat.add_zero] at hcell
        generalize l[0] = x at *
        have hcat : (ByteArray.mk #[]) ++ (ByteArray.mk x.toArray) = ⟨(jn l 1).toArray⟩ := by rw [hst]; have := cat_eq [] x; simpa using this
        obtain ⟨Y, hY⟩ : ∃ Y, Y = jn l 1 := ⟨_, rfl⟩
        rw [← hY] at hcat
        have HY := Lib.hid hY
        clear hst hz hm hle hY hg
        go_wp2_with fail
        go_roundg (l.length - (0 + 1))
        case measure => exact hmea.out _ HG.out
        case rel => exact ⟨1, by omega, by omega, by rw [← HY.out], by go_num, rfl⟩
      · have hst := jn_succ l k hlt (by omega)
        have hm2 := hm.2 (by omega)
        have hpos : 0 < k := by omega
        generalize l[k] = x at *
        obtain ⟨X, hX⟩ : ∃ X, X = jn l k := ⟨_, rfl⟩
        obtain ⟨Y, hY⟩ : ∃ Y, Y = jn l (k + 1) := ⟨_, rfl⟩
        rw [← hX, ← hY] at hst
        rw [← hX, ← hY] at hm2
        rw [← hY] at hle
        rw [← hX]
        have hcat1 : (ByteArray.mk X.toArray) ++ (ByteArray.mk #[10]) = ⟨(X ++ [10]).toArray⟩ := cat_eq X [10]
        have hcat2 : (ByteArray.mk (X ++ [10]).toArray) ++ (ByteArray.mk x.toArray) = ⟨Y.toArray⟩ := by rw [hst]; exact cat_eq _ x
        have hl1 : X.length + 1 ≤ 9223372036854775807 := by omega
        have hl2 : (X.length : Int) + 1 ≤ 9223372036854775807 := by omega
        have hl3 : (X ++ [10]).length + x.length ≤ 9223372036854775807 := by rw [List.length_append]; simp; omega
        have hl5 : (X ++ [10]).length = X.length + 1 := by rw [List.length_append]; rfl
        obtain ⟨Z, hZ⟩ : ∃ Z, Z = X ++ [10] := ⟨_, rfl⟩
        rw [← hZ] at hcat1 hcat2 hl3 hl5
        have hl4 : (Z.length : Int) + (x.length : Int) ≤ 9223372036854775807 := by omega
        have HY := Lib.hid hY
        clear hst hm hm2 hle hY hg hX h0 hZ hl5
        go_wp2_with fail
        go_roundg (l.length - (k + 1))
        case measure => exact hmea.out _ HG.out
        case rel => exact ⟨k + 1, by omega, by omega, by rw [← HY.out], by go_num, rfl⟩
    · have hltz : ¬ (k : Int) < (l.length : Int) := by omega
      obtain rfl : k = l.length := by omega
      rw [HE.out]
      clear hg hk hlt
      go_wp2_with fail
      go_ret
      exact ⟨rfl, rfl⟩

end Go.Proofs.YtfjejjdkogfelaaDoor
