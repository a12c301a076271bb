/- Contracts: a line's words; a text without the blanks ahead of it. -/
import Derived.Test.YtjcaejdokillgaaDoorZK1
import Derived.Test.YtjcaejdokillgaaDoorZShelfK
import Derived.Sort.OwnSorted
namespace Go.Proofs.YtjcaejdokillgaaDoor
open Go.RowKit Go.Shelf
attribute [local simp] mk_get

def StrsB (w : World) (b : Nat) (l : List (List UInt8)) : Prop := ∀ j (h : j < l.length), w.cell? ⟨b, j, none⟩ = some (.string ⟨l[j].toArray⟩)

theorem Split_lit (c : UInt8) (s : List UInt8) (m : Int) (w : World) (hs : s.length ≤ 1048576) (hm : w.cell? ⟨0, 0, none⟩ = some (.int .i64 m)) :
    Calls Tryd.prog 71 #[.string ⟨s.toArray⟩, .string ⟨#[c]⟩] w fun e w' => e = .returned (.slice (some ⟨w.heap.size, 0, none⟩) (PS.cut c s).length (PS.cut c s).length) ∧
      w' = w.alloc (.cells ((PS.cut c s).map fun l => Value.string ⟨l.toArray⟩).toArray 9) := by
  have hsz : (ByteArray.mk s.toArray).size = s.length := by simp [ByteArray.size]
  have h := Tryd.strings_Split ⟨s.toArray⟩ ⟨#[c]⟩ m w (by omega) hm (Nat.le_refl 1)
  have hl := Lib.splitB_all ⟨#[c]⟩ (Nat.le_refl 1) 0 _ ⟨s.toArray⟩ rfl
  rw [splitB_cut, List.length_map] at hl
  rw [splitB_cut, List.map_map, ← hl] at h
  exact h

theorem strsB_alloc (w : World) (l : List (List UInt8)) (t : TypeId) : StrsB (w.alloc (.cells (l.map fun l => Value.string ⟨l.toArray⟩).toArray t)) w.heap.size l := fun j hj => by
  rw [World.cell?_alloc_mark]
  simp [hj]

theorem words1_any (x : List UInt8) (w : World) : Calls Tryd.prog 78 #[.string ⟨x.toArray⟩] w fun e w' => e = .returned (.bool x.isEmpty) ∧ w = w' := by
  cases x with
  | nil =>
    go_enter Tryd.func78, Tryd.ntmps78
    go_wp2
    go_ret
    exact ⟨rfl, rfl⟩
  | cons a r =>
    go_enter Tryd.func78, Tryd.ntmps78
    go_wp2
    go_ret
    exact ⟨rfl, rfl⟩

theorem words1_gives (x : List UInt8) (W : World) : FnGives Tryd.prog 78 #[] #[encStr x] (.bool x.isEmpty) W :=
  (words1_any x W).mono fun _ _ ⟨he, hw⟩ => ⟨he, 0, by rw [← hw]; rfl⟩

theorem entersW1 : ∀ args w, (callFunc 78 args).run Tryd.prog w = .ok (.enter 78 args) w := enters_of Tryd.func78 (by kernel_rfl) rfl

theorem DeleteS_any (l : List (List UInt8)) (w : World) (hl : l.length ≤ 1048577) :
    Calls Tryd.prog 77 #[.slice (some ⟨w.heap.size, 0, none⟩) l.length l.length, .func (.func 78) #[] #[]] (w.alloc (.cells (l.map fun l : List UInt8 => Value.string ⟨l.toArray⟩).toArray 9)) fun e w' =>
      e = .returned (.slice (some ⟨w.heap.size, 0, none⟩) (l.filter fun p => !p.isEmpty).length l.length) ∧ StrsB w' w.heap.size (l.filter fun p => !p.isEmpty) ∧ Below w.heap.size w w' ∧ w.heap.size < w'.heap.size := by
  have hH : Sort.Holds encStr (w.alloc (.cells (l.map fun l : List UInt8 => Value.string ⟨l.toArray⟩).toArray 9)) w.heap.size 0 l.toArray := fun j hj => by
    have hj' : j < l.length := by simpa using hj
    refine ⟨?_, ?_⟩
    · have := strsB_alloc w l 9 j hj'
      rw [Nat.zero_add, this, getElem!_pos l.toArray j hj]
      simp
    · simp
  have h := AnyE.slices_DeleteFunc Tryd.layDel encStr (fun _ => rfl) (fun l => l.isEmpty) 78 #[] entersW1 [] Tryd.zeroValue9 w.heap.size 0 l.length l.toArray _
    (fun W x _ => words1_gives x W) (fun _ _ _ x _ => words1_gives x _) hH (by simp; omega) (by simp)
  simp only [List.size_toArray] at h
  have hfl := List.length_filter_le (fun p : List UInt8 => !p.isEmpty) l
  generalize (l.filter fun p => !p.isEmpty) = R at *
  have hsz : (R ++ List.replicate (l.length - R.length) []).toArray.size = l.toArray.size := by simp; omega
  refine Calls.mono h ?_
  rintro e w' ⟨he, q, hw⟩
  have hg := grownBy_sorted (w := w.alloc (.cells (l.map fun l : List UInt8 => Value.string ⟨l.toArray⟩).toArray 9)) (g := w.heap.size) (n := q) (os := #[]) (R ++ List.replicate (l.length - R.length) []).toArray
  refine ⟨he, ?_, ?_, ?_⟩
  · intro j hj
    have hj2 : j < (R ++ List.replicate (l.length - R.length) []).toArray.size := by rw [hsz]; simp; omega
    have hc := Sort.cell?_putRow encStr (Sort.ahead (w.alloc (.cells (l.map fun l : List UInt8 => Value.string ⟨l.toArray⟩).toArray 9)) q) w.heap.size 0 l.toArray _ hH hsz j hj2
    rw [Nat.zero_add] at hc
    rw [hw, hc, getElem!_pos _ j hj2]
    simp [List.getElem_append_left hj]
  · rw [Sort.grow_empty, ← hw] at hg
    exact ((Below.refl _ w).alloc (Nat.le_refl _) _).grown hg (by simp) (fun k e => by cases e; exact Nat.le_refl _)
  · rw [Sort.grow_empty, ← hw] at hg
    have := hg.size
    simp at this
    omega

/-- cells of a block of texts, as a slice -/
theorem StrsB.strs {w : World} {b c : Nat} {l : List (List UInt8)} (h : StrsB w b l) (hb : b < w.heap.size) (hc : l.length ≤ c) (hm : c ≤ 9223372036854775807) (hl : ∀ s ∈ l, s.length ≤ 9223372036854775807) : Strs w (.slice (some ⟨b, 0, none⟩) l.length c) l :=
  ⟨⟨some ⟨b, 0, none⟩, c, rfl, hc, hm, fun h => (by cases h), by simp, fun j hj => ⟨b, 0, rfl, hb, by
    have hj' : j < l.length := by simpa using hj
    rw [Nat.zero_add, h j hj', List.getElem_map]⟩⟩, hl⟩

theorem kWords_any (s : List UInt8) (m : Int) (w : World) (hs : s.length ≤ 1048576) (hm : w.cell? ⟨0, 0, none⟩ = some (.int .i64 m)) :
    Calls Tryd.prog 44 #[.string ⟨s.toArray⟩] w fun e w' => ∃ b c, e = .returned (.slice (some ⟨b, 0, none⟩) (PS.words s).length c) ∧ Strs w' (.slice (some ⟨b, 0, none⟩) (PS.words s).length c) (PS.words s) ∧ (PS.words s).length ≤ 1048577 ∧ Below w.heap.size w w' := by
  have hsp := Lib.hid (Split_lit 32 s m w hs hm)
  have hcl := PS.cut_len 32 s
  have hW : PS.words s = (PS.cut 32 s).filter fun p => !p.isEmpty := rfl
  have hfl := List.length_filter_le (fun p : List UInt8 => !p.isEmpty) (PS.cut 32 s)
  rw [← hW] at hfl
  have hp : ∀ t ∈ PS.words s, t.length ≤ 9223372036854775807 := fun t ht => by
    rw [hW] at ht
    have := PS.cut_piece 32 s t (List.mem_filter.1 ht).1
    omega
  have hd := DeleteS_any (PS.cut 32 s) w (by omega)
  rw [← hW] at hd
  generalize PS.words s = L at *
  generalize PS.cut 32 s = C at *
  clear hW
  have hD := Lib.hid hd
  have hP := Lib.hid hp
  clear hd hp
  go_enter Tryd.func44, Tryd.ntmps44
  go_wp2_with fail
  refine hsp.out.mono ?_
  rintro e w1 ⟨rfl, rfl⟩
  go_wp2_with fail
  refine hD.out.mono ?_
  rintro e w2 ⟨rfl, hS, hb, hlt⟩
  have HS := Lib.hid (hS.strs hlt hfl (by omega) hP.out)
  have HB := Lib.hid hb
  clear hS hb
  go_wp2_with fail
  go_ret
  exact ⟨_, _, rfl, HS.out, by omega, HB.out⟩

set_option maxHeartbeats 2000000 in
theorem sTrimLB_any (c : UInt8) (s : List UInt8) (w : World) (_hs : s.length ≤ 9223372036854775807) :
    Calls Tryd.prog 81 #[.string ⟨s.toArray⟩, .int .u8 (c.toNat : Int)] w fun e w' => (∃ t : List UInt8, t.length ≤ s.length ∧ e = .returned (.string ⟨t.toArray⟩)) ∧ w = w' := by
  go_enter Tryd.func81, Tryd.ntmps81
  go_wp2
  go_loopg [0] s.length (fun gg s0 wr => ∃ t : List UInt8, t.length ≤ s.length ∧ t.length ≤ gg ∧ s0 = .string ⟨t.toArray⟩ ∧ w = wr)
  case atStart => exact ⟨s, Nat.le_refl _, Nat.le_refl _, rfl, rfl⟩
  case round =>
    obtain ⟨t, ht, hg, rfl, rfl⟩ := hrel
    cases t with
    | nil =>
      go_wp2
      go_ret
      exact ⟨⟨[], by simp, rfl⟩, rfl⟩
    | cons x r =>
      have hl : (x :: r).length = r.length + 1 := rfl
      have hz : (0 : Int) < ((x :: r).length : Int) := by rw [hl]; omega
      by_cases hx : x = c
      · subst hx
        have hext : (ByteArray.mk (x :: r).toArray).extract 1 (r.length + 1) = ⟨r.toArray⟩ := by
          apply ByteArray.ext
          simp only [ByteArray.data_extract]
          apply Array.ext'
          simp
        go_wp2
        go_roundg r.length
        case measure => omega
        case rel => exact ⟨r, by omega, Nat.le_refl _, rfl, rfl⟩
      · have hxb : ((x.toNat : Int) == (c.toNat : Int)) = false := by
          rw [beq_eq_false_iff_ne]; intro e; exact hx (UInt8.toNat_inj.1 (by omega))
        have hxn : ¬ (x.toNat : Int) = (c.toNat : Int) := fun e => hx (UInt8.toNat_inj.1 (by omega))
        go_wp2
        go_ret
        exact ⟨⟨x :: r, ht, rfl⟩, rfl⟩

theorem sTrimLeft_blank (s : List UInt8) (w : World) (hs : s.length ≤ 9223372036854775807) :
    Calls Tryd.prog 49 #[.string ⟨s.toArray⟩, .string ⟨#[32]⟩] w fun e w' => (∃ t : List UInt8, t.length ≤ s.length ∧ e = .returned (.string ⟨t.toArray⟩)) ∧ w = w' := by
  cases s with
  | nil =>
    go_enter Tryd.func49, Tryd.ntmps49
    go_wp2
    go_ret
    exact ⟨⟨[], by simp, rfl⟩, rfl⟩
  | cons x r =>
    have hT := Lib.hid (sTrimLB_any 32 (x :: r) w hs)
    go_enter Tryd.func49, Tryd.ntmps49
    go_wp2_with (go_at_call 81; refine hT.out.mono ?_; rintro e w1 ⟨⟨t, ht, rfl⟩, rfl⟩)
    go_ret
    exact ⟨⟨_, ht, rfl⟩, rfl⟩

end Go.Proofs.YtjcaejdokillgaaDoor
