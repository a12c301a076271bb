/- Contracts: the texts' writer: a line; a line each. -/
import Derived.Test.YtjcaejdokillgaaDoorZL3
import Derived.Test.YtjcaejdokillgaaDoorZW1
import Derived.Test.YtjcaejdokillgaaDoorZP3
import Derived.Test.YtjcaejdokillgaaDoorZL1
import Derived.BigRegion
import Derived.BigQuiet
namespace Go.Proofs.YtjcaejdokillgaaDoor
open Go.RowKit Go.Shelf
attribute [local simp] mk_get

theorem aag_lies : BLies 60 := by unfold BLies; kernel_rfl
theorem aag_ne : (60 : Nat) ≠ 5 := by decide

/-- a line of which k numbers are laid -/
def px (AH : List UInt8) (l : List Int) (k : Nat) : List UInt8 := Lib.join (PA.words AH (l.take k)) [32]

theorem joinTail_snoc (sep : List UInt8) (r : List (List UInt8)) (p : List UInt8) : Lib.joinTail sep (r ++ [p]) = Lib.joinTail sep r ++ (sep ++ p) := by simp [Lib.joinTail]
theorem px_zero (AH : List UInt8) (l : List Int) : px AH l 0 = AH := by
  unfold px PA.words
  by_cases h : AH = []
  · subst h; simp [Lib.join_nil]
  · simp [h, Lib.join_one]
theorem px_first (l : List Int) (h : 0 < l.length) : px [] l 1 = P01.decI l[0] := by
  unfold px PA.words
  cases l with
  | nil => simp at h
  | cons n r => simp [Lib.join_one]
theorem px_next (AH : List UInt8) (l : List Int) (k : Nat) (hk : k < l.length) (h : AH ≠ [] ∨ 0 < k) : px AH l (k + 1) = px AH l k ++ ([32] ++ P01.decI l[k]) := by
  unfold px PA.words
  rw [List.take_succ_eq_append_getElem hk]
  by_cases hA : AH = []
  · subst hA
    obtain ⟨j, rfl⟩ : ∃ j, k = j + 1 := ⟨k - 1, by rcases h with h | h; exact absurd rfl h; omega⟩
    cases l with
    | nil => simp at hk
    | cons n r =>
      rw [if_pos rfl, List.take_succ_cons, List.nil_append, List.nil_append, List.cons_append, List.map_cons, List.map_cons, List.map_append, List.map_cons, List.map_nil, Lib.join_cons, Lib.join_cons, joinTail_snoc, List.append_assoc]
  · rw [if_neg hA, List.map_append, List.map_cons, List.map_nil, List.singleton_append, List.singleton_append, Lib.join_cons, Lib.join_cons, joinTail_snoc, List.append_assoc]
theorem px_all (AH : List UInt8) (l : List Int) : px AH l l.length ++ [10] = PA.lineT AH l := by
  unfold px PA.lineT
  rw [List.take_length]
theorem px_len (AH : List UInt8) (l : List Int) (h : ∀ n ∈ l, rng n) (k : Nat) : (px AH l k).length ≤ AH.length + 21 * l.length + 1 := by
  have h1 := PA.lineT_len AH (l.take k) fun n hn => h n (List.mem_of_mem_take hn)
  unfold PA.lineT at h1
  unfold px
  have : (l.take k).length ≤ l.length := by rw [List.length_take]; omega
  simp only [List.length_append, List.length_cons, List.length_nil] at h1
  omega

set_option maxRecDepth 100000 in
set_option maxHeartbeats 4000000 in
theorem jwHead_any (B b g : Nat) (S : List UInt8) (l : List Int) (w : World) (h : BIs 60 B b (Lib.byteCells S) w) (hrow : RowL 3 w g (l.map (Value.int .i64))) (hg : g ≠ b) (hrg : ∀ x ∈ l, rng x) (hl : l.length ≤ 100) (hB : B ≤ w.heap.size) (hS : S.length ≤ 1000000000) :
    Calls Tryd.prog 25 #[.pointer (some ⟨b, 0, none⟩), .string ⟨#[97, 97, 103]⟩, .slice (some ⟨g, 0, none⟩) l.length l.length] w fun e w' => e = .returned (.tuple #[]) ∧ BIs 60 B b (Lib.byteCells (S ++ PA.lineT ([97, 97, 103] : List UInt8) l)) w' ∧ Below B w w' ∧ Lib.OthersKept 5 (some b) w w' := by
  have HRow := Lib.hid hrow
  have HBI := Lib.hid h
  have HRG := Lib.hid hrg
  have HPL := Lib.hid fun k => px_len ([97, 97, 103] : List UInt8) l hrg k
  have HSl := Lib.hid hS
  have HBw := Lib.hid hB
  have hgb := Lib.hid hg
  have hW0 := Lib.hid (bWriteString_any 60 aag_lies aag_ne B b (Lib.byteCells S) ([97, 97, 103] : List UInt8) w h (by rw [Lib.byteCells_length]; simp; omega) hB)
  clear hrow h hrg hS hB hg
  go_enter Tryd.func25, Tryd.ntmps25
  go_wp2_with (go_at_call 27; refine hW0.out.mono ?_; rintro e w1 ⟨rfl, hB1, hb1, hk1⟩)
  rw [bytes_app] at hB1
  have HB1 := Lib.hid hB1
  have Hb1 := Lib.hid hb1
  have Hk1 := Lib.hid hk1
  clear hB1 hb1 hk1 hW0 HBI
  go_loopg [15] l.length (fun gg s15 wr => ∃ k : Nat, k ≤ l.length ∧ l.length - k ≤ gg ∧ s15 = .int .i64 k ∧ Hid (BIs 60 B b (Lib.byteCells (S ++ px ([97, 97, 103] : List UInt8) l k)) wr) ∧ Hid (Below B w wr) ∧ Hid (B ≤ wr.heap.size) ∧ Hid (Lib.OthersKept 5 (some b) w wr))
  case atStart => exact ⟨0, Nat.zero_le _, by omega, rfl, by rw [px_zero]; exact HB1.out, Hb1.out, Nat.le_trans HBw.out Hb1.out.size, Hk1.out⟩
  case round =>
    obtain ⟨k0, hk, hgm, rfl, hBI, hbr, hBs, hkr⟩ := hrel
    by_cases hlt : k0 < l.length
    · have hmea : Hid (∀ g : Nat, l.length - k0 ≤ g → l.length - (k0 + 1) < g) := fun g h => by omega
      have HG := Lib.hid hgm
      have hlt0 : Hid (k0 + 1 ≤ l.length) := hlt
      have hrr := HRow.out.others hkr.out hgb.out (by decide)
      have hc : wr.cell? ⟨g, k0, none⟩ = some (.int .i64 l[k0]) := hrr.cell k0 _ (by rw [List.getElem?_map, List.getElem?_eq_getElem hlt]; rfl)
      have hry := HRG.out _ (List.getElem_mem hlt)
      have hpx0 : Hid (0 < k0 ∨ ([97, 97, 103] : List UInt8) ≠ [] → px ([97, 97, 103] : List UInt8) l (k0 + 1) = px ([97, 97, 103] : List UInt8) l k0 ++ ([32] ++ P01.decI l[k0])) := fun h => px_next ([97, 97, 103] : List UInt8) l k0 hlt (by rcases h with h | h; exact .inr h; exact .inl (by first | exact h | decide | exact absurd h id))
      have hpx1 : Hid (k0 = 0 → ([97, 97, 103] : List UInt8) = [] → px ([97, 97, 103] : List UInt8) l (k0 + 1) = px ([97, 97, 103] : List UInt8) l k0 ++ P01.decI l[k0]) := fun h h2 => by
        subst h
        rw [h2, px_zero, px_first l hlt, List.nil_append]
        rfl
      have hDl : Hid ((P01.decI l[k0]).length ≤ 20) := PA.decI_len _ hry.1 hry.2
      have hltz : (k0 : Int) < (l.length : Int) := by omega
      have hPr := Lib.hid fun y => Print_any l[k0] y hry.1 hry.2
      generalize l[k0] = x at *
      generalize P01.decI x = D at *
      have hwb := Lib.hid (bWriteByte_any 60 aag_lies aag_ne B b (Lib.byteCells (S ++ px ([97, 97, 103] : List UInt8) l k0)) 32 wr hBI.out (by rw [Lib.byteCells_length, List.length_append]; have := HPL.out k0; have := HSl.out; simp at *; omega) hBs.out)
      clear hrr hry hlt hgm hk
      by_cases hk0 : k0 = 0
      · subst hk0
        have hst := Lib.hid (hpx0.out (.inr (by decide)))
        go_wp2_with (go_at_call 29; refine hwb.out.mono ?_; rintro e w2 ⟨rfl, hB2, hb2, hk2⟩; have hBI2 := Lib.hid hB2; have hbr2 : Hid (Below B w w2) := hbr.out.trans hb2; have hBs2 : Hid (B ≤ w2.heap.size) := Nat.le_trans hBs.out hb2.size; have hkr2 := Lib.hid (hkr.out.trans hk2); clear hB2 hb2 hk2)
        have hln2 : Hid ((Lib.byteCells (S ++ px [97, 97, 103] l 0) ++ [Value.int .u8 32]).length ≤ 1000100000) := by show _ ≤ _; rw [List.length_append, Lib.byteCells_length, List.length_append]; have := HPL.out 0; have := HSl.out; simp at *; omega
        have hP : ∀ x : Later w2, _ := fun x => hPr.out x.at_
        clear hc
        try go_wp2_with fail
        refine wp_region_later_tail 5 (by kernel_rfl) (by kernel_rfl) ?_; simp only [List.take_succ_cons, List.take_zero, List.drop_succ_cons, List.drop_zero]; (repeat (go_big_quiet_step ((go_at_call 28; with_reducible exact Calls.later (hP _))))); refine wpQuiet_nil ?_; rintro w3 ⟨⟨_, hb3⟩, rfl⟩
        clear hP
        go_wp2_with (go_at_call 27; refine (bWriteString_any 60 aag_lies aag_ne B b _ D _ (bs_mono hBI2.out hb3) (by have := hln2.out; have := hDl.out; omega) (Nat.le_trans hBs2.out hb3.size)).mono ?_; rintro e w5 ⟨rfl, hB5, hb5, hk5⟩)
        have hb6 : Hid (Below B w w5) := (hbr2.out.trans (hb3.mono hBs2.out)).trans hb5
        have hk6 : Hid (Lib.OthersKept 5 (some b) w w5) := (hkr2.out.trans (others_below hb3)).trans hk5
        go_roundg (l.length - (0 + 1))
        case measure => exact hmea.out _ HG.out
        case rel =>
          refine ⟨0 + 1, hlt0.out, Nat.le_refl _, by go_num, ?_, hb6, Nat.le_trans hBs2.out (Nat.le_trans hb3.size (by have := hb5.size; omega)), hk6⟩
          rw [show Lib.byteCells (S ++ px [97, 97, 103] l (0 + 1)) = (Lib.byteCells (S ++ px [97, 97, 103] l 0) ++ [Value.int .u8 32]) ++ Lib.byteCells D by rw [hst.out]; simp [Lib.byteCells]]
          exact hB5
      · have hk0z : (0 : Int) < (k0 : Int) := by omega
        have hk0n : 0 < k0 := by omega
        have hst := Lib.hid (hpx0.out (.inl hk0n))
        clear hk0
        go_wp2_with (go_at_call 29; refine hwb.out.mono ?_; rintro e w2 ⟨rfl, hB2, hb2, hk2⟩; have hBI2 := Lib.hid hB2; have hbr2 : Hid (Below B w w2) := hbr.out.trans hb2; have hBs2 : Hid (B ≤ w2.heap.size) := Nat.le_trans hBs.out hb2.size; have hkr2 := Lib.hid (hkr.out.trans hk2); clear hB2 hb2 hk2)
        have hln2 : Hid ((Lib.byteCells (S ++ px ([97, 97, 103] : List UInt8) l k0) ++ [Value.int .u8 32]).length ≤ 1000100000) := by show _ ≤ _; rw [List.length_append, Lib.byteCells_length, List.length_append]; have := HPL.out k0; have := HSl.out; simp at *; omega
        have hP : ∀ x : Later w2, _ := fun x => hPr.out x.at_
        clear hc
        try go_wp2_with fail
        refine wp_region_later_tail 5 (by kernel_rfl) (by kernel_rfl) ?_; simp only [List.take_succ_cons, List.take_zero, List.drop_succ_cons, List.drop_zero]; (repeat (go_big_quiet_step ((go_at_call 28; with_reducible exact Calls.later (hP _))))); refine wpQuiet_nil ?_; rintro w3 ⟨⟨_, hb3⟩, rfl⟩
        clear hP
        go_wp2_with (go_at_call 27; refine (bWriteString_any 60 aag_lies aag_ne B b _ D _ (bs_mono hBI2.out hb3) (by have := hln2.out; have := hDl.out; omega) (Nat.le_trans hBs2.out hb3.size)).mono ?_; rintro e w5 ⟨rfl, hB5, hb5, hk5⟩)
        have hb6 : Hid (Below B w w5) := (hbr2.out.trans (hb3.mono hBs2.out)).trans hb5
        have hk6 : Hid (Lib.OthersKept 5 (some b) w w5) := (hkr2.out.trans (others_below hb3)).trans hk5
        go_roundg (l.length - (k0 + 1))
        case measure => exact hmea.out _ HG.out
        case rel =>
          refine ⟨k0 + 1, hlt0.out, Nat.le_refl _, by go_num, ?_, hb6, Nat.le_trans hBs2.out (Nat.le_trans hb3.size (by have := hb5.size; omega)), hk6⟩
          rw [show Lib.byteCells (S ++ px ([97, 97, 103] : List UInt8) l (k0 + 1)) = (Lib.byteCells (S ++ px ([97, 97, 103] : List UInt8) l k0) ++ [Value.int .u8 32]) ++ Lib.byteCells D by rw [hst.out]; simp [Lib.byteCells]]
          exact hB5
    · have hltz : ¬ (k0 : Int) < (l.length : Int) := by omega
      obtain rfl : k0 = l.length := by omega
      have hwb := Lib.hid (bWriteByte_any 60 aag_lies aag_ne B b (Lib.byteCells (S ++ px ([97, 97, 103] : List UInt8) l l.length)) 10 wr hBI.out (by rw [Lib.byteCells_length, List.length_append]; have := HPL.out l.length; have := HSl.out; simp at *; omega) hBs.out)
      have hal := Lib.hid (px_all ([97, 97, 103] : List UInt8) l)
      clear hgm hk hlt
      go_wp2_with (go_at_call 29; refine hwb.out.mono ?_; rintro e w2 ⟨rfl, hB2, hb2, hk2⟩)
      go_end0
      refine ⟨rfl, ?_, hbr.out.trans hb2, hkr.out.trans hk2⟩
      rw [← hal.out, ← List.append_assoc]
      have : Lib.byteCells ((S ++ px ([97, 97, 103] : List UInt8) l l.length) ++ [10]) = Lib.byteCells (S ++ px ([97, 97, 103] : List UInt8) l l.length) ++ [.int .u8 10] := by simp [Lib.byteCells]
      rw [this]
      exact hB2
set_option maxRecDepth 100000 in
set_option maxHeartbeats 4000000 in
theorem jwLine_any (B b g : Nat) (S : List UInt8) (l : List Int) (w : World) (h : BIs 60 B b (Lib.byteCells S) w) (hrow : RowL 3 w g (l.map (Value.int .i64))) (hg : g ≠ b) (hrg : ∀ x ∈ l, rng x) (hl : l.length ≤ 100) (hB : B ≤ w.heap.size) (hS : S.length ≤ 1000000000) :
    Calls Tryd.prog 25 #[.pointer (some ⟨b, 0, none⟩), .string ⟨#[]⟩, .slice (some ⟨g, 0, none⟩) l.length l.length] w fun e w' => e = .returned (.tuple #[]) ∧ BIs 60 B b (Lib.byteCells (S ++ PA.lineT ([] : List UInt8) l)) w' ∧ Below B w w' ∧ Lib.OthersKept 5 (some b) w w' := by
  have HRow := Lib.hid hrow
  have HBI := Lib.hid h
  have HRG := Lib.hid hrg
  have HPL := Lib.hid fun k => px_len ([] : List UInt8) l hrg k
  have HSl := Lib.hid hS
  have HBw := Lib.hid hB
  have hgb := Lib.hid hg
  have hW0 := Lib.hid (bWriteString_any 60 aag_lies aag_ne B b (Lib.byteCells S) ([] : List UInt8) w h (by rw [Lib.byteCells_length]; simp; omega) hB)
  clear hrow h hrg hS hB hg
  go_enter Tryd.func25, Tryd.ntmps25
  go_wp2_with (go_at_call 27; refine hW0.out.mono ?_; rintro e w1 ⟨rfl, hB1, hb1, hk1⟩)
  rw [bytes_app] at hB1
  have HB1 := Lib.hid hB1
  have Hb1 := Lib.hid hb1
  have Hk1 := Lib.hid hk1
  clear hB1 hb1 hk1 hW0 HBI
  go_loopg [15] l.length (fun gg s15 wr => ∃ k : Nat, k ≤ l.length ∧ l.length - k ≤ gg ∧ s15 = .int .i64 k ∧ Hid (BIs 60 B b (Lib.byteCells (S ++ px ([] : List UInt8) l k)) wr) ∧ Hid (Below B w wr) ∧ Hid (B ≤ wr.heap.size) ∧ Hid (Lib.OthersKept 5 (some b) w wr))
  case atStart => exact ⟨0, Nat.zero_le _, by omega, rfl, by rw [px_zero]; exact HB1.out, Hb1.out, Nat.le_trans HBw.out Hb1.out.size, Hk1.out⟩
  case round =>
    obtain ⟨k0, hk, hgm, rfl, hBI, hbr, hBs, hkr⟩ := hrel
    by_cases hlt : k0 < l.length
    · have hmea : Hid (∀ g : Nat, l.length - k0 ≤ g → l.length - (k0 + 1) < g) := fun g h => by omega
      have HG := Lib.hid hgm
      have hlt0 : Hid (k0 + 1 ≤ l.length) := hlt
      have hrr := HRow.out.others hkr.out hgb.out (by decide)
      have hc : wr.cell? ⟨g, k0, none⟩ = some (.int .i64 l[k0]) := hrr.cell k0 _ (by rw [List.getElem?_map, List.getElem?_eq_getElem hlt]; rfl)
      have hry := HRG.out _ (List.getElem_mem hlt)
      have hpx0 : Hid (0 < k0 ∨ False → px ([] : List UInt8) l (k0 + 1) = px ([] : List UInt8) l k0 ++ ([32] ++ P01.decI l[k0])) := fun h => px_next ([] : List UInt8) l k0 hlt (by rcases h with h | h; exact .inr h; exact .inl (by first | exact h | decide | exact absurd h id))
      have hpx1 : Hid (k0 = 0 → ([] : List UInt8) = [] → px ([] : List UInt8) l (k0 + 1) = px ([] : List UInt8) l k0 ++ P01.decI l[k0]) := fun h h2 => by
        subst h
        rw [h2, px_zero, px_first l hlt, List.nil_append]
        rfl
      have hDl : Hid ((P01.decI l[k0]).length ≤ 20) := PA.decI_len _ hry.1 hry.2
      have hltz : (k0 : Int) < (l.length : Int) := by omega
      have hPr := Lib.hid fun y => Print_any l[k0] y hry.1 hry.2
      generalize l[k0] = x at *
      generalize P01.decI x = D at *
      have hwb := Lib.hid (bWriteByte_any 60 aag_lies aag_ne B b (Lib.byteCells (S ++ px ([] : List UInt8) l k0)) 32 wr hBI.out (by rw [Lib.byteCells_length, List.length_append]; have := HPL.out k0; have := HSl.out; simp at *; omega) hBs.out)
      clear hrr hry hlt hgm hk
      by_cases hk0 : k0 = 0
      · subst hk0
        have hst := Lib.hid (hpx1.out rfl rfl)
        obtain ⟨w2, hw2⟩ : ∃ W, W = wr := ⟨_, rfl⟩
        have hBI2 : Hid (BIs 60 B b (Lib.byteCells (S ++ px [] l 0)) w2) := by rw [hw2]; exact hBI.out
        have hbr2 : Hid (Below B w w2) := by rw [hw2]; exact hbr.out
        have hBs2 : Hid (B ≤ w2.heap.size) := by rw [hw2]; exact hBs.out
        have hkr2 : Hid (Lib.OthersKept 5 (some b) w w2) := by rw [hw2]; exact hkr.out
        have hln2 : Hid ((Lib.byteCells (S ++ px [] l 0)).length ≤ 1000100000) := by show _ ≤ _; rw [Lib.byteCells_length, List.length_append]; have := HPL.out 0; have := HSl.out; simp at *; omega
        subst hw2
        go_wp2_with fail
        have hP : ∀ x : Later w2, _ := fun x => hPr.out x.at_
        clear hc
        try go_wp2_with fail
        refine wp_region_later_tail 5 (by kernel_rfl) (by kernel_rfl) ?_; simp only [List.take_succ_cons, List.take_zero, List.drop_succ_cons, List.drop_zero]; (repeat (go_big_quiet_step ((go_at_call 28; with_reducible exact Calls.later (hP _))))); refine wpQuiet_nil ?_; rintro w3 ⟨⟨_, hb3⟩, rfl⟩
        clear hP
        go_wp2_with (go_at_call 27; refine (bWriteString_any 60 aag_lies aag_ne B b _ D _ (bs_mono hBI2.out hb3) (by have := hln2.out; have := hDl.out; omega) (Nat.le_trans hBs2.out hb3.size)).mono ?_; rintro e w5 ⟨rfl, hB5, hb5, hk5⟩)
        have hb6 : Hid (Below B w w5) := (hbr2.out.trans (hb3.mono hBs2.out)).trans hb5
        have hk6 : Hid (Lib.OthersKept 5 (some b) w w5) := (hkr2.out.trans (others_below hb3)).trans hk5
        go_roundg (l.length - (0 + 1))
        case measure => exact hmea.out _ HG.out
        case rel =>
          refine ⟨0 + 1, hlt0.out, Nat.le_refl _, by go_num, ?_, hb6, Nat.le_trans hBs2.out (Nat.le_trans hb3.size (by have := hb5.size; omega)), hk6⟩
          rw [show Lib.byteCells (S ++ px [] l (0 + 1)) = (Lib.byteCells (S ++ px [] l 0)) ++ Lib.byteCells D by rw [hst.out]; simp [Lib.byteCells]]
          exact hB5
      · have hk0z : (0 : Int) < (k0 : Int) := by omega
        have hk0n : 0 < k0 := by omega
        have hst := Lib.hid (hpx0.out (.inl hk0n))
        clear hk0
        go_wp2_with (go_at_call 29; refine hwb.out.mono ?_; rintro e w2 ⟨rfl, hB2, hb2, hk2⟩; have hBI2 := Lib.hid hB2; have hbr2 : Hid (Below B w w2) := hbr.out.trans hb2; have hBs2 : Hid (B ≤ w2.heap.size) := Nat.le_trans hBs.out hb2.size; have hkr2 := Lib.hid (hkr.out.trans hk2); clear hB2 hb2 hk2)
        have hln2 : Hid ((Lib.byteCells (S ++ px ([] : List UInt8) l k0) ++ [Value.int .u8 32]).length ≤ 1000100000) := by show _ ≤ _; rw [List.length_append, Lib.byteCells_length, List.length_append]; have := HPL.out k0; have := HSl.out; simp at *; omega
        have hP : ∀ x : Later w2, _ := fun x => hPr.out x.at_
        clear hc
        try go_wp2_with fail
        refine wp_region_later_tail 5 (by kernel_rfl) (by kernel_rfl) ?_; simp only [List.take_succ_cons, List.take_zero, List.drop_succ_cons, List.drop_zero]; (repeat (go_big_quiet_step ((go_at_call 28; with_reducible exact Calls.later (hP _))))); refine wpQuiet_nil ?_; rintro w3 ⟨⟨_, hb3⟩, rfl⟩
        clear hP
        go_wp2_with (go_at_call 27; refine (bWriteString_any 60 aag_lies aag_ne B b _ D _ (bs_mono hBI2.out hb3) (by have := hln2.out; have := hDl.out; omega) (Nat.le_trans hBs2.out hb3.size)).mono ?_; rintro e w5 ⟨rfl, hB5, hb5, hk5⟩)
        have hb6 : Hid (Below B w w5) := (hbr2.out.trans (hb3.mono hBs2.out)).trans hb5
        have hk6 : Hid (Lib.OthersKept 5 (some b) w w5) := (hkr2.out.trans (others_below hb3)).trans hk5
        go_roundg (l.length - (k0 + 1))
        case measure => exact hmea.out _ HG.out
        case rel =>
          refine ⟨k0 + 1, hlt0.out, Nat.le_refl _, by go_num, ?_, hb6, Nat.le_trans hBs2.out (Nat.le_trans hb3.size (by have := hb5.size; omega)), hk6⟩
          rw [show Lib.byteCells (S ++ px ([] : List UInt8) l (k0 + 1)) = (Lib.byteCells (S ++ px ([] : List UInt8) l k0) ++ [Value.int .u8 32]) ++ Lib.byteCells D by rw [hst.out]; simp [Lib.byteCells]]
          exact hB5
    · have hltz : ¬ (k0 : Int) < (l.length : Int) := by omega
      obtain rfl : k0 = l.length := by omega
      have hwb := Lib.hid (bWriteByte_any 60 aag_lies aag_ne B b (Lib.byteCells (S ++ px ([] : List UInt8) l l.length)) 10 wr hBI.out (by rw [Lib.byteCells_length, List.length_append]; have := HPL.out l.length; have := HSl.out; simp at *; omega) hBs.out)
      have hal := Lib.hid (px_all ([] : List UInt8) l)
      clear hgm hk hlt
      go_wp2_with (go_at_call 29; refine hwb.out.mono ?_; rintro e w2 ⟨rfl, hB2, hb2, hk2⟩)
      go_end0
      refine ⟨rfl, ?_, hbr.out.trans hb2, hkr.out.trans hk2⟩
      rw [← hal.out, ← List.append_assoc]
      have : Lib.byteCells ((S ++ px ([] : List UInt8) l l.length) ++ [10]) = Lib.byteCells (S ++ px ([] : List UInt8) l l.length) ++ [.int .u8 10] := by simp [Lib.byteCells]
      rw [this]
      exact hB2

end Go.Proofs.YtjcaejdokillgaaDoor
