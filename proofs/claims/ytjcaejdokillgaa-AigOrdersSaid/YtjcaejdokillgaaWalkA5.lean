/- Contracts: the page's groups of seven bits, its example. -/
import Derived.Test.YtjcaejdokillgaaWalkA4
namespace Go.Proofs.Ytjcaejdokillgaa
open Go.RowKit Go.Shelf
attribute [local simp] mk_get

theorem num05_any (x : Int) (w : World) : Calls Try.prog 7 #[.int .i64 x] w fun e w' => e = .returned (.int .i64 x) ∧ w = w' := by
  go_enter Try.func7, Try.ntmps7
  go_wp2
  go_ret
  exact ⟨rfl, rfl⟩

set_option maxRecDepth 100000 in
set_option maxHeartbeats 4000000 in
theorem group05_any (n : Nat) (w : World) (hn : n < 2097152) :
    Calls Try.prog 9 #[.int .i64 (n : Int)] w fun e w' => e = .returned (.string ⟨(PA.grp n).toArray⟩) ∧ Below w.heap.size w w' := by
  have hcv : ∀ (W : World) (y : UInt8) (z : Int), (y.toNat : Int) = z → (convert 29 9 (.slice (some ⟨W.heap.size, 0, none⟩) 1 1)).run Try.prog (W.alloc (.cells #[.int .u8 z] 5)) = .ok (.string ⟨#[y]⟩) (W.alloc (.cells #[.int .u8 z] 5)) := fun W y z h => conv_cell _ _ y z h (by simp)
  obtain ⟨G, hG⟩ : ∃ G, G = PA.grp n := ⟨_, rfl⟩
  have hgl := PA.grp_len n hn
  rw [← hG] at hgl ⊢
  go_enter Try.func9, Try.ntmps9
  go_wp2_with fail
  go_loopg [0, 3] n (fun gg s0 s3 wr => ∃ (m : Nat) (R : List UInt8), m ≤ gg ∧ s0 = .int .i64 (m : Int) ∧ s3 = .string ⟨R.toArray⟩ ∧ Hid (R ++ PA.grp m = G) ∧ m < 2097152 ∧ R.length ≤ 3 ∧ Hid (Below w.heap.size w wr))
  case atStart => exact ⟨n, [], Nat.le_refl _, rfl, rfl, hG.symm, hn, by simp, Below.refl _ _⟩
  case round =>
    obtain ⟨m, R, hg, rfl, rfl, hR, hm, hRl, hbr⟩ := hrel
    by_cases hlt : (m : Int) ≥ 128
    · have hm7 : 128 ≤ m := by omega
      obtain ⟨y, hy⟩ : ∃ y, y = UInt8.ofNat (m % 128 + 128) := ⟨_, rfl⟩
      have hyn : (y.toNat : Int) = (m : Int) % 128 + 128 := by
        rw [hy]
        have : (UInt8.ofNat (m % 128 + 128)).toNat = m % 128 + 128 := by simp; omega
        omega
      have hc1 := hcv wr y _ hyn
      have hcat : (⟨R.toArray⟩ : ByteArray) ++ ⟨#[y]⟩ = ⟨(R ++ [y]).toArray⟩ := cat_eq R [y]
      have hR2 : Hid ((R ++ [y]) ++ PA.grp (m / 128) = G) := by
        show _ = _
        rw [← hR.out, grp_more m hm7, ← hy]; simp
      have hRl2 : (R ++ [y]).length ≤ 3 := by
        have h1 := congrArg List.length hR2.out
        have h2 : 1 ≤ (PA.grp (m / 128)).length := by rw [PA.grp]; split <;> simp
        rw [List.length_append] at h1
        omega
      have hba : Hid (Below w.heap.size w (wr.alloc (.cells #[.int .u8 ((m : Int) % 128 + 128)] 5))) := hbr.out.alloc hbr.out.size _
      have hll : ¬ 9223372036854775807 < R.length + 1 := by omega
      clear hy hyn
      generalize R ++ [y] = R2 at *
      go_wp2_with fail
      go_roundg (m / 128)
      case measure => omega
      case rel => exact ⟨m / 128, R2, Nat.le_refl _, by go_num, rfl, hR2, by omega, hRl2, hba⟩
    · have hm7 : m < 128 := by omega
      obtain ⟨y, hy⟩ : ∃ y, y = UInt8.ofNat m := ⟨_, rfl⟩
      have hyn : (y.toNat : Int) = (m : Int) := by
        rw [hy]
        have : (UInt8.ofNat m).toNat = m := by simp; omega
        omega
      have hc1 := hcv wr y _ hyn
      have hcat : (⟨R.toArray⟩ : ByteArray) ++ ⟨#[y]⟩ = ⟨(R ++ [y]).toArray⟩ := cat_eq R [y]
      have hR2 : R ++ [y] = G := by rw [← hR.out, grp_last m hm7, ← hy]
      have hba : Hid (Below w.heap.size w (wr.alloc (.cells #[.int .u8 (m : Int)] 5))) := hbr.out.alloc hbr.out.size _
      have hll : ¬ 9223372036854775807 < R.length + 1 := by omega
      rw [hR2] at hcat
      clear hy hyn hR2
      go_wp2_with fail
      go_ret
      exact ⟨rfl, hba.out⟩

theorem noC_is (w : World) : IsCirc w (.agg #[.int .i64 0, .slice none 0 0, .slice none 0 0, .slice none 0 0, .slice none 0 0, .slice none 0 0, .slice none 0 0, .slice none 0 0]) ⟨0, [], [], [], [], [], [], []⟩ := by
  have hI : Ints w (.slice none 0 0) [] := ⟨Cells.nil _ _, fun x hx => by cases hx⟩
  exact ⟨_, _, _, _, _, _, _, rfl, ⟨hI, ⟨Cells.nil _ _, fun x hx => by cases hx⟩, hI, hI, hI, ⟨Cells.nil _ _, fun x hx => by cases hx⟩, ⟨Cells.nil _ _, fun x hx => by cases hx⟩⟩, by unfold rng; decide⟩

theorem no_ordered : PA.ordered ⟨0, [], [], [], [], [], [], []⟩ = true := by decide
theorem no_text : PA.text ⟨0, [], [], [], [], [], [], []⟩ = [97, 105, 103, 32, 48, 32, 48, 32, 48, 32, 48, 32, 48, 32, 48, 32, 48, 10] := by
  have h0 : P01.decI 0 = [48] := by show (if (0 : Int) < 0 then _ else P01.dec 0) = _; rw [if_neg (by decide)]; exact P01.dec_zero
  unfold PA.text
  rw [PA.lineT_head _ (by decide)]
  simp [PA.headN, PA.text1, PA.text2, PA.text3, PA.text4, PA.told, h0]

set_option maxRecDepth 100000 in
set_option maxHeartbeats 4000000 in
theorem alive05_any (w : World) : Calls Try.prog 5 #[] w fun e w' => e = .returned (.bool true) ∧ Below w.heap.size w w' := by
  have hW := Lib.hid (aWrite_any _ _ w (noC_is w))
  have hO := Lib.hid fun y => aOrdered_any _ _ y (noC_is y)
  rw [no_ordered] at hO
  have hN := Lib.hid fun x y => num05_any x y
  go_enter Try.func5, Try.ntmps5
  go_wp2_with fail
  refine hW.out.mono ?_
  rintro e w1 ⟨v, rfl, hv, _, hb1⟩
  have hv := hv no_ordered
  rw [no_text] at hv
  have hbk := hv.back
  rw [no_ordered]
  clear hv
  go_wp2_with (first | (go_at_call 7; refine (hN.out _ _).mono ?_; rintro e w4 ⟨rfl, rfl⟩) | (go_at_call 10; refine (hO.out _).mono ?_; rintro e w5 ⟨rfl, hb5⟩))
  go_ret
  exact ⟨by first | rfl | simp, Below.of hb1 hb5⟩

end Go.Proofs.Ytjcaejdokillgaa
