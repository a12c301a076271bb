/- The walk of DigitsLines. -/
import Derived.Test.YteiijbhkplnnmaaDoorWalks01f
import Derived.Test.YteiijbhkplnnmaaDoorAlive01
namespace Go.Proofs.YteiijbhkplnnmaaDoor
open Go.RowKit Go.Shelf

theorem flat_take (c : UInt8) (l : List (List UInt8)) (k : Nat) (h : k < l.length) : PS.flat c (l.take (k + 1)) = PS.flat c (l.take k) ++ l[k] ++ [c] := by
  rw [List.take_succ_eq_append_getElem h, PS.flat_append, PS.flat_one, List.append_assoc]

theorem flat_take_le (c : UInt8) (l : List (List UInt8)) (k : Nat) : (PS.flat c (l.take k)).length ≤ (PS.flat c l).length := by
  conv => rhs; rw [← List.take_append_drop k l, PS.flat_append, List.length_append]
  omega

set_option maxHeartbeats 1000000 in
theorem lines_walk (s : List UInt8) (m : Int) (w : World) (hs : s.length ≤ 1048576) (hm : w.cell? ⟨0, 0, none⟩ = some (.int .i64 m)) :
    Calls Tryd.prog 3 #[.string ⟨s.toArray⟩] w fun e w' => e = .returned (.bool true) ∧ Below w.heap.size w w' := by
  have hLi := Lib.hid fun w1 (hb : Below w.heap.size w w1) => Lines_any s m w1 hs ((hb.cell (World.block_lt_of_cell? w _ hm)).trans hm)
  have hlaw := PS.lines_law s
  have hfl : (PS.flat 10 (PS.lines s)).length ≤ s.length + 1 := by rcases hlaw with e | e <;> rw [e] <;> simp
  have hLl : (PS.lines s).length ≤ s.length + 1 := by
    have := cut_len 10 s
    unfold PS.lines
    split <;> simp <;> omega
  generalize PS.lines s = L at *
  have HLaw := Lib.hid hlaw
  clear hm hlaw
  go_enter Tryd.func3, Tryd.ntmps3
  go_wp2_with fail
  refine (digits01.alive_any _).mono ?_
  rintro e w1 ⟨rfl, hb1⟩
  go_wp2_with fail
  refine (hLi.out _ (by exact hb1)).mono ?_
  rintro e w2 ⟨rfl, hS, hb2⟩
  have hbw2 := Lib.hid (Below.of hb1 hb2)
  have HS := Lib.hid hS
  obtain ⟨b, hbd⟩ : ∃ b, b = w1.heap.size := ⟨_, rfl⟩
  rw [← hbd] at HS ⊢
  clear hS hb1 hb2 hbd
  go_wp2_with fail
  go_loopg [4, 5] L.length (fun gg s4 s5 wr => ∃ k : Nat, k ≤ L.length ∧ L.length - k ≤ gg ∧ s4 = .string ⟨(PS.flat 10 (L.take k)).toArray⟩ ∧ s5 = .int .i64 k ∧ w2 = wr)
  case atStart => exact ⟨0, Nat.zero_le _, by omega, rfl, rfl, rfl⟩
  case round =>
    obtain ⟨k, hk, hg, rfl, rfl, rfl⟩ := hrel
    by_cases hlt : k < L.length
    · have hc := HS.out k hlt
      have hf := flat_take 10 L k hlt
      have hfl2 := flat_take_le 10 L (k + 1)
      rw [hf] at hfl2
      have hln : (PS.flat 10 (L.take k)).length + L[k].length + 1 ≤ 1048577 := by simp at hfl2; omega
      have hmea : ∀ g : Nat, L.length - k ≤ g → L.length - (k + 1) < g := fun g h => by omega
      have HF := Lib.hid hf
      generalize PS.flat 10 (L.take k) = X at *
      generalize hp : L[k] = p at *
      clear hp hf hfl2
      have hltz : (k : Int) < (L.length : Int) := by omega
      have c1 : (ByteArray.mk X.toArray) ++ (ByteArray.mk p.toArray) = ⟨(X ++ p).toArray⟩ := cat_eq1 _ _
      have c2 : (ByteArray.mk (X ++ p).toArray) ++ (ByteArray.mk #[10]) = ⟨(X ++ p ++ [10]).toArray⟩ := cat_eq1 _ [10]
      have hl2 : (X ++ p).length = X.length + p.length := List.length_append
      have n1 : X.length + p.length ≤ 9223372036854775807 := by omega
      have n1z : (X.length : Int) + (p.length : Int) ≤ 9223372036854775807 := by omega
      have n2 : X.length + p.length + 1 ≤ 9223372036854775807 := by omega
      have n2z : (X.length : Int) + (p.length : Int) + 1 ≤ 9223372036854775807 := by omega
      have kz : (k : Int) + 1 ≤ 9223372036854775807 := by omega
      clear hln
      go_wp2_with fail
      go_roundg (L.length - (k + 1))
      case measure => exact hmea _ hg
      case rel => exact ⟨k + 1, by omega, by omega, by rw [HF.out, List.append_assoc], by go_num, rfl⟩
    · have hltz : ¬ (k : Int) < (L.length : Int) := by omega
      obtain rfl : k = L.length := by omega
      rw [List.take_length]
      have hfl3 := hfl
      obtain ⟨T, hT⟩ : ∃ T, T = PS.flat 10 L := ⟨_, rfl⟩
      have HLaw := Lib.hid HLaw.out
      rw [← hT] at HLaw ⊢ hfl3
      have c3 : (ByteArray.mk s.toArray) ++ (ByteArray.mk #[10]) = ⟨(s ++ [10]).toArray⟩ := cat_eq1 _ [10]
      have n3 : s.length + 1 ≤ 9223372036854775807 := by omega
      have n3z : (s.length : Int) + 1 ≤ 9223372036854775807 := by omega
      clear hT
      rcases HLaw.out with e | e
      · have e1 : (T == s) = true := by rw [e]; simp
        clear e HLaw
        go_wp2_with fail
        go_ret
        exact ⟨rfl, hbw2.out⟩
      · have e1 : (T == s) = false := by
          cases h : (T == s) with
          | false => rfl
          | true =>
            have h2 : T = s := by simpa using h
            have h3 := congrArg List.length (h2.symm.trans e)
            simp at h3
        obtain ⟨S1, hS1⟩ : ∃ S1, S1 = s ++ [10] := ⟨_, rfl⟩
        have e2 : (T == S1) = true := by rw [hS1, e]; simp
        rw [← hS1] at c3
        clear e HLaw hS1
        go_wp2_with fail
        go_ret
        exact ⟨rfl, hbw2.out⟩

end Go.Proofs.YteiijbhkplnnmaaDoor
