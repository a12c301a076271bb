/- Contracts: strings.Split at one octet, slices.Clip, digits.Lines. -/
import Derived.Test.YteiijbhkplnnmaaDoorShelf
import Derived.Test.YteiijbhkplnnmaaDoorPlainS
import Derived.Test.YteiijbhkplnnmaaDoorLib
namespace Go.Proofs.YteiijbhkplnnmaaDoor
open Go.RowKit Go.Shelf

theorem cat_eq1 (a b : List UInt8) : (ByteArray.mk a.toArray) ++ (ByteArray.mk b.toArray) = ⟨(a ++ b).toArray⟩ := by
  apply ByteArray.ext
  simp [ByteArray.data_append]

/-- a slice of the call's own that holds texts -/
def Strs (w : World) (b : Nat) (l : List (List UInt8)) : Prop := ∀ j (h : j < l.length), w.cell? ⟨b, j, none⟩ = some (.string ⟨l[j].toArray⟩)

theorem Strs.mono {w w' : World} {b : Nat} {l : List (List UInt8)} (h : Strs w b l) (hb : Below w.heap.size w w') : Strs w' b l := fun j hj =>
  (hb.cell (World.block_lt_of_cell? w _ (h j hj))).trans (h j hj)

theorem splitB_cut (c : UInt8) (s : List UInt8) : (Lib.splitB ⟨#[c]⟩ 0 (Lib.countB ⟨s.toArray⟩ ⟨#[c]⟩) ⟨s.toArray⟩) = (PS.cut c s).map fun l => ⟨l.toArray⟩ := by
  have h := Lib.splitB_data ⟨#[c]⟩ 0 (Lib.countB ⟨s.toArray⟩ ⟨#[c]⟩) ⟨s.toArray⟩
  have e : Lib.countB ⟨s.toArray⟩ ⟨#[c]⟩ = Lib.count s [c] := by simp [Lib.countB]
  rw [e] at h ⊢
  have h2 : (Lib.splitB ⟨#[c]⟩ 0 (Lib.count s [c]) ⟨s.toArray⟩).map (·.data.toList) = PS.cut c s := by
    rw [h]
    exact PS.splitK_cut c s
  rw [← h2, List.map_map]
  symm
  rw [List.map_congr_left (g := id) (fun x _ => by cases x; simp [Function.comp]), List.map_id]

theorem Split_one (c : UInt8) (s : List UInt8) (m : Int) (w : World) (hs : s.length ≤ 1048576) (hm : w.cell? ⟨0, 0, none⟩ = some (.int .i64 m)) :
    Calls Tryd.prog 14 #[.string ⟨s.toArray⟩, .string ⟨#[c]⟩] w fun e w' => e = .returned (.slice (some ⟨w.heap.size, 0, none⟩) (PS.cut c s).length (PS.cut c s).length) ∧
      w' = w.alloc (.cells ((PS.cut c s).map fun l => Value.string ⟨l.toArray⟩).toArray 9) := by
  have hsz : (ByteArray.mk s.toArray).size = s.length := by simp [ByteArray.size]
  have h := Tryd.strings_Split ⟨s.toArray⟩ ⟨#[c]⟩ m w (by omega) hm (Nat.le_refl 1)
  have hl := Lib.splitB_all ⟨#[c]⟩ (Nat.le_refl 1) 0 _ ⟨s.toArray⟩ rfl
  rw [splitB_cut, List.length_map] at hl
  rw [splitB_cut, List.map_map, ← hl] at h
  exact h

theorem strs_alloc (w : World) (l : List (List UInt8)) (t : TypeId) : Strs (w.alloc (.cells (l.map fun l => Value.string ⟨l.toArray⟩).toArray t)) w.heap.size l := fun j hj => by
  rw [World.cell?_alloc_mark]
  simp [hj]

theorem Clip_any (a : Option Addr) (n c : Nat) (w : World) (h : n ≤ c) (hc : c ≤ 9223372036854775807) :
    Calls Tryd.prog 15 #[.slice a n c] w fun e w' => e = .returned (.slice a n n) ∧ w = w' := by
  go_enter Tryd.func15, Tryd.ntmps15
  go_wp2
  go_ret
  exact ⟨rfl, rfl⟩

theorem Split_strs (c : UInt8) (s : List UInt8) (m : Int) (w : World) (hs : s.length ≤ 1048576) (hm : w.cell? ⟨0, 0, none⟩ = some (.int .i64 m)) :
    Calls Tryd.prog 14 #[.string ⟨s.toArray⟩, .string ⟨#[c]⟩] w fun e w' => e = .returned (.slice (some ⟨w.heap.size, 0, none⟩) (PS.cut c s).length (PS.cut c s).length) ∧
      Strs w' w.heap.size (PS.cut c s) ∧ Below w.heap.size w w' :=
  (Split_one c s m w hs hm).mono fun e w' ⟨he, hw⟩ => ⟨he, by rw [hw]; exact strs_alloc _ _ _, by rw [hw]; exact (Below.refl _ _).alloc (Nat.le_refl _) _⟩

theorem cut_len (c : UInt8) : ∀ s : List UInt8, (PS.cut c s).length ≤ s.length + 1
  | [] => by simp [PS.cut]
  | b :: l => by
    have ih := cut_len c l
    by_cases h : b = c
    · rw [PS.cut, if_pos h]; simp; omega
    · obtain ⟨p, r, e1, e2⟩ := PS.cut_cons_ne h l
      rw [e2]; rw [e1] at ih; simp at ih ⊢; omega

theorem Lines_any (s : List UInt8) (m : Int) (w : World) (hs : s.length ≤ 1048576) (hm : w.cell? ⟨0, 0, none⟩ = some (.int .i64 m)) :
    Calls Tryd.prog 6 #[.string ⟨s.toArray⟩] w fun e w' => e = .returned (.slice (some ⟨w.heap.size, 0, none⟩) (PS.lines s).length (PS.lines s).length) ∧
      Strs w' w.heap.size (PS.lines s) ∧ Below w.heap.size w w' := by
  have hcl := cut_len 10 s
  have hsp := Lib.hid (Split_strs 10 s m w hs hm)
  have hne := PS.cut_ne 10 s
  have hL : PS.lines s = if (PS.cut 10 s).getLast hne = [] then (PS.cut 10 s).dropLast else PS.cut 10 s := rfl
  generalize PS.cut 10 s = C at *
  obtain ⟨p, hp⟩ : ∃ p, p = C.getLast hne := ⟨_, rfl⟩
  rw [← hp] at hL
  have HL := Lib.hid hL
  clear hL
  generalize PS.lines s = L at *
  have hpos : 0 < C.length := List.length_pos_iff.2 hne
  rw [List.getLast_eq_getElem hne] at hp
  obtain ⟨n, hn⟩ : ∃ n, n = C.length := ⟨_, rfl⟩
  have hcell : ∀ w1, Strs w1 w.heap.size C → w1.cell? ⟨w.heap.size, n - 1, none⟩ = some (.string ⟨p.toArray⟩) := fun w1 h => by rw [hn, hp]; exact h _ (by omega)
  rw [← hn] at hsp hcl hpos
  clear hp hne
  have hw : ((n : Int) - 1) = ((n - 1 : Nat) : Int) := by omega
  have hwr : IntKind.i64.wrap ((n : Int) - 1) = ((n - 1 : Nat) : Int) := by rw [hw]; exact IntWalk.i64_in _ (by omega)
  have hn1 : n ≤ 1048577 := by omega
  have hz : (((n - 1 : Nat) : Int)) < (n : Int) := by omega
  have hz2 : n - 1 < n := by omega
  have hz3 : n - 1 ≤ n := by omega
  go_enter Tryd.func6, Tryd.ntmps6
  go_wp2_with fail
  refine hsp.out.mono ?_
  rintro e w1 ⟨rfl, hS, hb1⟩
  have hc := hcell w1 hS
  have HS := Lib.hid hS
  have HN := Lib.hid hn
  clear hcell hS hn
  cases p with
  | nil =>
    go_wp2_with fail
    refine (Clip_any _ (n - 1) n w1 (by omega) (by omega)).mono ?_
    rintro e w2 ⟨rfl, rfl⟩
    go_wp2_with fail
    go_ret
    have e1 : L = C.dropLast := by rw [HL.out]; simp
    have e2 : L.length = n - 1 := by rw [e1, List.length_dropLast, ← HN.out]
    refine ⟨by rw [e2]; rfl, fun j hj => ?_, hb1⟩
    have := HS.out j (by rw [← HN.out]; omega)
    rw [this]
    subst e1
    rw [List.getElem_dropLast]
  | cons x r =>
    go_wp2_with fail
    refine (Clip_any _ n n w1 (by omega) (by omega)).mono ?_
    rintro e w2 ⟨rfl, rfl⟩
    go_wp2_with fail
    go_ret
    have e1 : L = C := by rw [HL.out, if_neg (by simp)]
    rw [e1, ← HN.out]
    exact ⟨rfl, HS.out, hb1⟩

end Go.Proofs.YteiijbhkplnnmaaDoor
