/- Contracts: digits.Words, digits.Join, Cut of a text without the octet, Texts. -/
import Derived.Test.YteiijbhkplnnmaaDoorWalks01f
import Derived.Test.YteiijbhkplnnmaaDoorShelf2
import Derived.Sort.OwnSorted
namespace Go.Proofs.YteiijbhkplnnmaaDoor
open Go.RowKit Go.Shelf

theorem words1_any (x : List UInt8) (w : World) : Calls Tryd.prog 17 #[.string ⟨x.toArray⟩] w fun e w' => e = .returned (.bool x.isEmpty) ∧ w = w' := by
  cases x with
  | nil =>
    go_enter Tryd.func17, Tryd.ntmps17
    go_wp2
    go_ret
    exact ⟨rfl, rfl⟩
  | cons a r =>
    go_enter Tryd.func17, Tryd.ntmps17
    go_wp2
    go_ret
    exact ⟨rfl, rfl⟩

theorem words1_gives (x : List UInt8) (W : World) : FnGives Tryd.prog 17 #[] #[encStr x] (.bool x.isEmpty) W :=
  (words1_any x W).mono fun _ _ ⟨he, hw⟩ => ⟨he, 0, by rw [← hw]; rfl⟩

theorem entersW1 : ∀ args w, (callFunc 17 args).run Tryd.prog w = .ok (.enter 17 args) w := enters_of Tryd.func17 (by kernel_rfl) rfl

theorem DeleteS_any (l : List (List UInt8)) (w : World) (hl : l.length ≤ 1048577) :
    Calls Tryd.prog 16 #[.slice (some ⟨w.heap.size, 0, none⟩) l.length l.length, .func (.func 17) #[] #[]] (w.alloc (.cells (l.map fun l : List UInt8 => Value.string ⟨l.toArray⟩).toArray 9)) fun e w' =>
      e = .returned (.slice (some ⟨w.heap.size, 0, none⟩) (l.filter fun p => !p.isEmpty).length l.length) ∧ Strs w' w.heap.size (l.filter fun p => !p.isEmpty) ∧ Below w.heap.size w w' := by
  have hH : Sort.Holds encStr (w.alloc (.cells (l.map fun l : List UInt8 => Value.string ⟨l.toArray⟩).toArray 9)) w.heap.size 0 l.toArray := fun j hj => by
    have hj' : j < l.length := by simpa using hj
    refine ⟨?_, ?_⟩
    · have := strs_alloc w l 9 j hj'
      rw [Nat.zero_add, this, getElem!_pos l.toArray j hj]
      simp
    · simp
  have h := AnyE.slices_DeleteFunc Tryd.layDel encStr (fun _ => rfl) (fun l => l.isEmpty) 17 #[] entersW1 [] Tryd.zeroValue9 w.heap.size 0 l.length l.toArray _
    (fun W x _ => words1_gives x W) (fun _ _ _ x _ => words1_gives x _) hH (by simp; omega) (by simp)
  simp only [List.size_toArray] at h
  have hfl := List.length_filter_le (fun p : List UInt8 => !p.isEmpty) l
  generalize (l.filter fun p => !p.isEmpty) = R at *
  have hsz : (R ++ List.replicate (l.length - R.length) []).toArray.size = l.toArray.size := by simp; omega
  refine Calls.mono h ?_
  rintro e w' ⟨he, q, hw⟩
  refine ⟨he, ?_, ?_⟩
  · intro j hj
    have hj2 : j < (R ++ List.replicate (l.length - R.length) []).toArray.size := by rw [hsz]; simp; omega
    have hc := Sort.cell?_putRow encStr (Sort.ahead (w.alloc (.cells (l.map fun l : List UInt8 => Value.string ⟨l.toArray⟩).toArray 9)) q) w.heap.size 0 l.toArray _ hH hsz j hj2
    rw [Nat.zero_add] at hc
    rw [hw, hc, getElem!_pos _ j hj2]
    simp [List.getElem_append_left hj]
  · have hg := grownBy_sorted (w := w.alloc (.cells (l.map fun l : List UInt8 => Value.string ⟨l.toArray⟩).toArray 9)) (g := w.heap.size) (n := q) (os := #[]) (R ++ List.replicate (l.length - R.length) []).toArray
    rw [Sort.grow_empty, ← hw] at hg
    exact ((Below.refl _ w).alloc (Nat.le_refl _) _).grown hg (by simp) (fun k e => by cases e; exact Nat.le_refl _)

theorem Words_any (s : List UInt8) (m : Int) (w : World) (hs : s.length ≤ 1048576) (hm : w.cell? ⟨0, 0, none⟩ = some (.int .i64 m)) :
    Calls Tryd.prog 7 #[.string ⟨s.toArray⟩] w fun e w' => ∃ b c, e = .returned (.slice (some ⟨b, 0, none⟩) (PS.words s).length c) ∧ (PS.words s).length ≤ c ∧ Strs w' b (PS.words s) ∧ Below w.heap.size w w' := by
  have hsp := Split_one 32 s m w hs hm
  have hcl := cut_len 32 s
  have hW : PS.words s = (PS.cut 32 s).filter fun p => !p.isEmpty := rfl
  have hfl := List.length_filter_le (fun p : List UInt8 => !p.isEmpty) (PS.cut 32 s)
  rw [← hW] at hfl
  have hd := DeleteS_any (PS.cut 32 s) w (by omega)
  rw [← hW] at hd
  generalize PS.words s = L at *
  generalize PS.cut 32 s = C at *
  clear hW
  have hD := Lib.hid hd
  clear hd
  go_enter Tryd.func7, Tryd.ntmps7
  go_wp2_with fail
  refine hsp.mono ?_
  rintro e w1 ⟨rfl, rfl⟩
  go_wp2_with fail
  refine hD.out.mono ?_
  rintro e w2 ⟨rfl, hS, hb⟩
  go_wp2_with fail
  go_ret
  exact ⟨_, _, rfl, hfl, hS, hb⟩

theorem join_lib : ∀ l : List (List UInt8), Lib.join l [32] = PS.join l
  | [] => rfl
  | [p] => by rw [Lib.join_one]; rfl
  | p :: q :: r => by
    have ih := join_lib (q :: r)
    rw [Lib.join_cons] at ih
    rw [Lib.join_cons, PS.join, ← ih]
    simp [Lib.joinTail]

theorem Join_any (l : List (List UInt8)) (b c : Nat) (w : World) (hS : Strs w b l) (hc : l.length ≤ c) (hN : l.length ≤ 1048577) (hlen : (PS.join l).length ≤ 1048577) :
    Calls Tryd.prog 10 #[.slice (some ⟨b, 0, none⟩) l.length c] w fun e w' => e = .returned (.string ⟨(PS.join l).toArray⟩) ∧ Below w.heap.size w w' := by
  have h : Calls Tryd.prog 18 #[.slice (some ⟨b, 0, none⟩) l.length c, .string ⟨#[32]⟩] w fun e w' => e = .returned (.string ⟨(PS.join l).toArray⟩) ∧ Below w.heap.size w w' := by
    cases l with
    | nil =>
      refine (Tryd.strings_Join_none _ c ⟨#[32]⟩ w).mono ?_
      rintro e w' ⟨rfl, rfl⟩
      exact ⟨rfl, Below.refl _ _⟩
    | cons p r =>
      have hbk : b < w.heap.size := World.block_lt_of_cell? w _ (hS 0 (by simp))
      have h := Tryd.strings_Join b 0 c ((p :: r).map fun l => ⟨l.toArray⟩) ⟨#[32]⟩ w (fun j x hx => by
        obtain ⟨y, hy, rfl⟩ := List.mem_map.1 (List.mem_of_getElem? hx)
        rw [List.getElem?_map] at hx
        cases hj : (p :: r)[j]? with
        | none => rw [hj] at hx; cases hx
        | some z =>
          rw [hj] at hx
          obtain ⟨hlt, hz⟩ := List.getElem?_eq_some_iff.1 hj
          have := hS j hlt
          rw [Nat.zero_add, this, hz]
          have hx := Option.some.inj hx
          rw [← hx]) hbk (by simp at hN ⊢; omega) (by simpa using hc) (by
        rw [List.map_map]
        rw [show ((fun x : ByteArray => x.data.toList) ∘ fun l : List UInt8 => ByteArray.mk l.toArray) = id from rfl, List.map_id]
        rw [show (ByteArray.mk #[32]).data.toList = [32] from rfl, join_lib]
        omega)
      rw [List.map_map, show ((fun x : ByteArray => x.data.toList) ∘ fun l : List UInt8 => ByteArray.mk l.toArray) = id from rfl, List.map_id, show (ByteArray.mk #[32]).data.toList = [32] from rfl, join_lib, List.length_map] at h
      exact h
  have H := Lib.hid h
  clear h hS
  generalize PS.join l = J at *
  go_enter Tryd.func10, Tryd.ntmps10
  go_wp2_with fail
  refine H.out.mono ?_
  rintro e w1 ⟨rfl, hb⟩
  go_wp2_with fail
  go_ret
  exact ⟨rfl, hb⟩

set_option maxHeartbeats 1000000 in
theorem Texts_same (l : List (List UInt8)) (b1 b2 c1 c2 : Nat) (w : World) (h1 : Strs w b1 l) (h2 : Strs w b2 l) (hc1 : l.length ≤ c1) (hc2 : l.length ≤ c2) (hN : l.length ≤ 1048577) :
    Calls Tryd.prog 9 #[.slice (some ⟨b1, 0, none⟩) l.length c1, .slice (some ⟨b2, 0, none⟩) l.length c2] w fun e w' => e = .returned (.bool true) ∧ Below w.heap.size w w' := by
  have H1 := Lib.hid h1
  have H2 := Lib.hid h2
  clear h1 h2
  go_enter Tryd.func9, Tryd.ntmps9
  go_wp2_with fail
  go_loopg [5] l.length (fun gg s5 wr => ∃ k : Nat, k ≤ l.length ∧ l.length - k ≤ gg ∧ s5 = .int .i64 k ∧ Below w.heap.size w wr)
  case atStart => exact ⟨0, Nat.zero_le _, by omega, rfl, Below.refl _ _⟩
  case round =>
    obtain ⟨k, hk, hg, rfl, hbr⟩ := hrel
    by_cases hlt : k < l.length
    · have e1 := (H1.out.mono hbr) k hlt
      have e2 := (H2.out.mono hbr) k hlt
      have hmea : ∀ g : Nat, l.length - k ≤ g → l.length - (k + 1) < g := fun g h => by omega
      generalize l[k] = y at *
      have hltz : (k : Int) < (l.length : Int) := by omega
      go_wp2_with fail
      go_region
      go_wp2
      go_roundg (l.length - (k + 1))
      case measure => exact hmea _ hg
      case rel => exact ⟨k + 1, by omega, by omega, by go_num, hbr.drew⟩
    · have hltz : ¬ (k : Int) < (l.length : Int) := by omega
      go_wp2_with fail
      go_ret
      exact ⟨rfl, hbr⟩

end Go.Proofs.YteiijbhkplnnmaaDoor
