/- Contract: what stands for x. -/
import Derived.Test.YtlakfaalpijhiaaDoorLibC
import Derived.Test.YtlakfaalpijhiaaDoorPlainY
import Derived.WalkSmall
import Derived.BigRegion
namespace Go.Proofs.YtlakfaalpijhiaaDoor
open Go.RowKit Go.Shelf
attribute [local simp] mk_get

/-- the bit for the k-th place -/
def fbit (b : Int) (k : Nat) : Int := (b / 2 ^ (k % 64)) % 2

theorem fbit_or (b : Int) (k : Nat) : fbit b k = 0 ∨ fbit b k = 1 := by unfold fbit; omega

def fillAt (s : List UInt8) (b : Int) (k : Nat) : UInt8 := if s.getD k 0 = 120 then (if fbit b k = 1 then 49 else 48) else s.getD k 0
def fillN (s : List UInt8) (b : Int) (n : Nat) : List UInt8 := (List.range n).map (fillAt s b)

theorem fillN_succ (s : List UInt8) (b : Int) (n : Nat) : fillN s b (n + 1) = fillN s b n ++ [fillAt s b n] := by
  unfold fillN
  rw [List.range_succ, List.map_append]; rfl

theorem fill_Fil (s : List UInt8) (b : Int) : PC.Fil s (fillN s b s.length) := by
  refine ⟨by simp [fillN], fun j h h' => ?_⟩
  have e : (fillN s b s.length)[j] = fillAt s b j := by simp [fillN]
  have e2 : s.getD j 0 = s[j] := by simp [h]
  rw [e, fillAt, e2]
  refine ⟨fun hn => by rw [if_neg hn], fun hx => ?_⟩
  rw [if_pos hx]
  split
  · exact Or.inr rfl
  · exact Or.inl rfl

theorem cat_eqF (a b : List UInt8) : (ByteArray.mk a.toArray) ++ (ByteArray.mk b.toArray) = ⟨(a ++ b).toArray⟩ := by
  apply ByteArray.ext
  simp [ByteArray.data_append]

theorem fbit_and (b : Int) (k : Nat) (h0 : 0 ≤ b) (h1 : b ≤ 18446744073709551615) : bits BinOp.and IntKind.u64 (b / 2 ^ (k % 64)) 1 = fbit b k := by
  have hp : (0 : Int) < 2 ^ (k % 64) := Int.pow_pos (by decide)
  exact and_one_u64 _ (Int.ediv_nonneg h0 (Int.le_of_lt hp)) (Int.le_trans (Int.ediv_le_self _ h0) h1)

/-- 'string([]byte{c})' -/
theorem conv_one (w : World) (y : UInt8) (n : Int) (h : (y.toNat : Int) = n) : (convert 45 9 (.slice (some ⟨w.heap.size, 0, none⟩) 1 1)).run Tryd.prog (w.alloc (.cells #[.int .u8 n] 5)) = .ok (.string ⟨#[y]⟩) (w.alloc (.cells #[.int .u8 n] 5)) := by
  subst h
  refine run_convert_bytes_back (w.alloc (.cells #[.int .u8 (y.toNat : Int)] 5)) 45 9 5 ⟨w.heap.size, 0, none⟩ 1 [y] Tryd.underlying45 Tryd.underlying5 Tryd.underlying9 fun j hj => ?_
  have hj0 : j = 0 := by simp at hj; omega
  subst hj0
  exact World.cell?_alloc_mark _ _ _ _ _

set_option maxRecDepth 100000 in
set_option maxHeartbeats 2000000 in
theorem fill_any (s : List UInt8) (b : Int) (w : World) (hs : s.length ≤ 9223372036854775806) (hb0 : 0 ≤ b) (hb1 : b ≤ 18446744073709551615) :
    Calls Tryd.prog 12 #[.string ⟨s.toArray⟩, .int .u64 b] w fun e w' => e = .returned (.string ⟨(fillN s b s.length).toArray⟩) ∧ Below w.heap.size w w' := by
  go_enter Tryd.func12, Tryd.ntmps12
  go_wp2_with fail
  go_loopg [5, 6] s.length (fun gg s5 s6 wr => ∃ k : Nat, k ≤ s.length ∧ s.length - k ≤ gg ∧ s5 = .string ⟨(fillN s b k).toArray⟩ ∧ s6 = .int .i64 k ∧ Below w.heap.size w wr)
  case atStart => exact ⟨0, Nat.zero_le _, by omega, rfl, rfl, Below.refl _ _⟩
  case round =>
    obtain ⟨k, hk, hg, rfl, rfl, hbr⟩ := hrel
    by_cases hlt : k < s.length
    · have hmea : Hid (∀ g : Nat, s.length - k ≤ g → s.length - (k + 1) < g) := fun g h => by omega
      have HG := Lib.hid hg
      obtain ⟨x, hx⟩ : ∃ x, s[k] = x := ⟨_, rfl⟩
      have hltz : (k : Int) < (s.length : Int) := by omega
      have hat : fillAt s b k = if x = 120 then (if fbit b k = 1 then 49 else 48) else x := by
        have e2 : s.getD k 0 = s[k] := by simp [hlt]
        rw [fillAt, e2, hx]
      have hst := fillN_succ s b k
      have htl : (fillN s b k).length = k := by simp [fillN]
      have hk1 : k + 1 ≤ 9223372036854775807 := by omega
      have hk2 : (k : Int) + 1 ≤ 9223372036854775807 := by omega
      have hcat : ∀ y : UInt8, fillN s b (k + 1) = fillN s b k ++ [y] → (ByteArray.mk (fillN s b k).toArray) ++ (ByteArray.mk #[y]) = ⟨(fillN s b (k + 1)).toArray⟩ := fun y h => by rw [h]; exact cat_eqF _ [_]
      clear hg
      by_cases h1 : x = 120
      · have e1 : ((x.toNat : Int) == 120) = true := by rw [h1]; rfl
        rw [if_pos h1] at hat
        subst h1
        have hfb := fbit_and b k hb0 hb1
        rcases fbit_or b k with h0 | h0
        · rw [h0] at hfb
          rw [h0, if_neg (by decide)] at hat
          have hcv := conv_one wr 48 48 rfl
          clear h0
          rw [hat] at hst
          have hcat2 := hcat _ hst
          clear hat hst hcat
          generalize fillN s b k = X at *
          obtain ⟨Y, hY⟩ : ∃ Y, Y = fillN s b (k + 1) := ⟨_, rfl⟩
          rw [← hY] at hcat2
          have HY := Lib.hid hY
          clear hY
          go_wp2_with fail
          go_roundg (s.length - (k + 1))
          case measure => exact hmea.out _ HG.out
          case rel => exact ⟨k + 1, by omega, by omega, by rw [HY.out], by go_num, hbr.alloc hbr.size _⟩
        · rw [h0] at hfb
          rw [h0, if_pos rfl] at hat
          have hcv := conv_one wr 49 49 rfl
          clear h0
          rw [hat] at hst
          have hcat2 := hcat _ hst
          clear hat hst hcat
          generalize fillN s b k = X at *
          obtain ⟨Y, hY⟩ : ∃ Y, Y = fillN s b (k + 1) := ⟨_, rfl⟩
          rw [← hY] at hcat2
          have HY := Lib.hid hY
          clear hY
          go_wp2_with fail
          go_roundg (s.length - (k + 1))
          case measure => exact hmea.out _ HG.out
          case rel => exact ⟨k + 1, by omega, by omega, by rw [HY.out], by go_num, hbr.alloc hbr.size _⟩
      · have e1 : ((x.toNat : Int) == 120) = false := beq_eq_false_iff_ne.2 fun e => h1 (by
          rw [← UInt8.toNat_inj]
          show _ = 120
          omega)
        rw [if_neg h1] at hat
        have hcv := conv_one wr x _ rfl
        clear h1
        rw [hat] at hst
        have hcat2 := hcat _ hst
        clear hat hst hcat
        generalize fillN s b k = X at *
        obtain ⟨Y, hY⟩ : ∃ Y, Y = fillN s b (k + 1) := ⟨_, rfl⟩
        rw [← hY] at hcat2
        have HY := Lib.hid hY
        clear hY
        go_wp2_with fail
        go_roundg (s.length - (k + 1))
        case measure => exact hmea.out _ HG.out
        case rel => exact ⟨k + 1, by omega, by omega, by rw [HY.out], by go_num, hbr.alloc hbr.size _⟩
    · have hltz : ¬ (k : Int) < (s.length : Int) := by omega
      obtain rfl : k = s.length := by omega
      go_wp2_with fail
      go_ret
      exact ⟨rfl, hbr⟩

end Go.Proofs.YtlakfaalpijhiaaDoor
