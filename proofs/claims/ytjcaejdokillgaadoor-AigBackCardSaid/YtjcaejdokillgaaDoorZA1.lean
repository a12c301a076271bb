/- Contracts: slices.Grow of nothing, slices.Concat of three lists of ints. -/
import Derived.Test.YtjcaejdokillgaaDoorZL3
import Derived.Test.YtjcaejdokillgaaDoorZW1
import Derived.Test.YtjcaejdokillgaaDoorZP3
import Derived.Test.YtjcaejdokillgaaDoorZL1
import Derived.BigRegion
import Derived.Test.YtjcaejdokillgaaDoorZL2
import Derived.Lib.Walk
import Derived.Lib.AppendZerosOnto
namespace Go.Proofs.YtjcaejdokillgaaDoor
open Go.RowKit Go.Shelf
attribute [local simp] mk_get

theorem aig_lies : BLies 100 := by unfold BLies; kernel_rfl
theorem aig_ne : (100 : Nat) ≠ 5 := by decide

def W (PRE : List (List UInt8)) (l : List Int) : List (List UInt8) := PRE ++ l.map P01.decI

set_option maxRecDepth 100000 in
set_option maxHeartbeats 4000000 in
theorem aHead_any (B b : Nat) (S : List UInt8) (l : List Int) (vl : Value) (w : World) (h : BIs 100 B b (Lib.byteCells S) w) (hv : Ints w vl l) (hne : 0 < (W ([[97, 105, 103]] : List (List UInt8)) l).length) (hl : l.length ≤ 100) (hB : B ≤ w.heap.size) (hS : S.length ≤ 1000000000) :
    Calls Tryd.prog 52 #[.pointer (some ⟨b, 0, none⟩), .string ⟨#[97, 105, 103]⟩, vl] w fun e w' => e = .returned (.tuple #[]) ∧ BIs 100 B b (Lib.byteCells (S ++ (Lib.join (W ([[97, 105, 103]] : List (List UInt8)) l) [32] ++ [10]))) w' ∧ Below B w w' ∧ Lib.OthersKept 5 (some b) w w' := by
  obtain ⟨ao, cap, rfl, hi1, hi2, hi3⟩ := hv.open_
  have HI := Lib.hid hi3
  have HV := Lib.hid hv
  have HBI := Lib.hid h
  have HNE := Lib.hid hne
  clear hi3 hv h hne
  obtain ⟨i, hi, hz0, hz1, hz2⟩ := info_parts info_string
  have hlk : (l.length : Int) + 1 ≤ 9223372036854775807 := by omega
  go_enter Tryd.func52, Tryd.ntmps52
  go_wp2_with (first | (at_make; refine wpList_make_own w rfl _ _ 38 rfl w.heap.size 9 i (.string ⟨#[]⟩) 1 Tryd.underlying38 hi hz0 hz1 .i64 .i64 _ (l.length + 1) rfl rfl (by omega) (by rw [hz2]; omega) (by unfold maxLen; omega) (Nat.le_refl _) ?_; intro w1 hown1 hgr1; have hb1 : Below w.heap.size w w1 := (Below.refl _ _).grown hgr1 (Nat.le_refl _) (by intro k e; cases e)) | (at_builtin; refine app_new rfl _ _ 38 rfl 9 1 16 _ Tryd.underlying38 info_string rfl (by decide) (w0 := w) (B0 := w.heap.size) rfl hown1 hb1 (Nat.le_refl _) hb1.size _ 1 1 rfl (by intro u hu; simp at hu; subst hu; rfl) rfl (by omega) (by omega) ?_; intro v3 w3 hown3 hb3 hbs3 hgr3))
  go_loopg [6, 21] l.length (fun gg s6 s21 wr => ∃ k : Nat, k ≤ l.length ∧ l.length - k ≤ gg ∧ s21 = .int .i64 k ∧ Hid (Below w.heap.size w wr) ∧ Aside (wr.ownsRow w.heap.size 9 1 s6 (([[97, 105, 103]] : List (List UInt8)).length + k) ((W ([[97, 105, 103]] : List (List UInt8)) (l.take k)).map strV)))
  case atStart => exact ⟨0, Nat.zero_le _, by omega, rfl, hb3, by simpa [Aside, W, strV] using hown3⟩
  case round =>
    obtain ⟨k, hk, hg, rfl, hbr, hown⟩ := hrel
    by_cases hlt : k < l.length
    · obtain ⟨b', off, rfl, hbs, hry, hc⟩ := HI.out k hlt
      have hmea : ∀ g : Nat, l.length - k ≤ g → l.length - (k + 1) < g := fun g h => by omega
      have hc := (hbr.out.cell hbs).trans hc
      have hstep : Hid ((W ([[97, 105, 103]] : List (List UInt8)) (l.take (k + 1))).map strV = (W ([[97, 105, 103]] : List (List UInt8)) (l.take k)).map strV ++ [strV (P01.decI l[k])]) := by
        show _ = _
        unfold W
        rw [List.take_succ_eq_append_getElem hlt]
        simp only [List.map_append, List.map_cons, List.map_nil, List.append_assoc]
      generalize hy : l[k] = y at *
      have hltz : (k : Int) < (l.length : Int) := by omega
      have hP := Lib.hid (Print_any y wr hry.1 hry.2)
      have hkk : k ≤ 100 := by omega
      clear hry
      have hBn := Lib.hid hbr.out.size
      have hws : Hid (w.heap.size ≤ w.heap.size) := Nat.le_refl _
      go_wp2_with (first | (go_at_call 28; refine hP.out.mono ?_; rintro e w2 ⟨rfl, hb2⟩; have hown2 := hown.out.below2 hb2; have hbb := Below.of hbr.out hb2) | (at_builtin; refine app_new rfl _ _ 38 rfl 9 1 16 _ Tryd.underlying38 info_string rfl (by decide) (w0 := w) (B0 := w.heap.size) rfl hown2 hbb (Nat.le_refl _) hbb.size _ 1 1 rfl (by intro u hu; simp at hu; subst hu; rfl) rfl (by simp; omega) (by simp; omega) ?_; intro v4 w4 hown4 hb4 hbs4 hgr4))
      go_roundg (l.length - (k + 1))
      case measure => exact hmea _ hg
      case rel =>
        refine ⟨k + 1, by omega, by omega, by go_num, hb4, ?_⟩
        rw [hstep.out]
        exact hown4
    · have hltz : ¬ (k : Int) < (l.length : Int) := by omega
      obtain rfl : k = l.length := by omega
      have hWW : W ([[97, 105, 103]] : List (List UInt8)) l = PA.words ([97, 105, 103] : List UInt8) l := by unfold W PA.words; simp
      have hjl : (Lib.join (W ([[97, 105, 103]] : List (List UInt8)) l) [32]).length ≤ 5000 := by
        have := PA.lineT_len ([97, 105, 103] : List UInt8) l fun n hn => HV.out.2 n hn
        rw [PA.lineT, ← hWW] at this
        simp only [List.length_append, List.length_cons, List.length_nil] at this
        omega
      have hWl : ([[97, 105, 103]] : List (List UInt8)).length + l.length = (W ([[97, 105, 103]] : List (List UInt8)) l).length := by unfold W; simp only [List.length_append, List.length_map]
      have hWs : ∀ s ∈ W ([[97, 105, 103]] : List (List UInt8)) l, s.length ≤ 9223372036854775807 := by
        intro s hs
        unfold W at hs
        rcases List.mem_append.1 hs with hs | hs
        · simp at hs
          try (subst hs; decide)
        · obtain ⟨n, hn, rfl⟩ := List.mem_map.1 hs
          have hr := HV.out.2 n hn
          have := PA.decI_len n hr.1 hr.2
          omega
      have hown := hown.out
      rw [List.take_length, hWl] at hown
      have hSt := Lib.hid (Strs.of_owns hown hWs)
      have hJ : ∀ x : Later wr, _ := fun x => dJoin_any (W ([[97, 105, 103]] : List (List UInt8)) l) u6 x.at_ (hSt.out.mono x.below) HNE.out (by rw [← hWl]; simp; omega) (by omega)
      have hBI : Hid (BIs 100 B b (Lib.byteCells S) wr) := bs_mono HBI.out hbr.out
      have hSz := Lib.hid (Nat.le_trans hB hbr.out.size)
      have hBW := Lib.hid (hbr.out.mono hB)
      clear hWW hWl hWs hown hg hk hlt
      obtain ⟨J, hJe⟩ : ∃ J, J = Lib.join (W ([[97, 105, 103]] : List (List UInt8)) l) [32] := ⟨_, rfl⟩
      rw [← hJe] at hJ hjl
      have HJe := Lib.hid hJe
      clear hJe
      have hcat : (ByteArray.mk J.toArray) ++ (ByteArray.mk #[10]) = ⟨(J ++ [10]).toArray⟩ := cat_eq J [10]
      have hll : ¬ 9223372036854775807 < J.length + 1 := by omega
      have hJS : Hid (S.length + (J ++ [10]).length ≤ 140737488355328) := by show _ ≤ _; rw [List.length_append]; simp; omega
      go_wp2_with fail
      refine wp_region_later_tail 6 (by kernel_rfl) (by kernel_rfl) ?_; simp only [List.take_succ_cons, List.take_zero, List.drop_succ_cons, List.drop_zero]; (repeat (go_big_quiet_step ((go_at_call 89; with_reducible exact Calls.later (hJ _))))); refine wpQuiet_nil ?_; rintro w3 ⟨⟨_, hb3⟩, rfl⟩
      have hb4 := Below.of hbr.out hb3
      go_wp2_with (go_at_call 27; refine (bWriteString_any 100 aig_lies aig_ne B b (Lib.byteCells S) (J ++ [10]) _ (bs_mono hBI.out hb3) (by rw [Lib.byteCells_length]; exact hJS.out) (Nat.le_trans hSz.out hb3.size)).mono ?_; rintro e w5 ⟨rfl, hB5, hb5, hk5⟩)
      go_end0
      rw [bytes_app, HJe.out] at hB5
      exact ⟨rfl, hB5, (hb4.mono hB).trans hb5, (others_below hb4).trans hk5⟩
set_option maxRecDepth 100000 in
set_option maxHeartbeats 4000000 in
theorem aLine_any (B b : Nat) (S : List UInt8) (l : List Int) (vl : Value) (w : World) (h : BIs 100 B b (Lib.byteCells S) w) (hv : Ints w vl l) (hne : 0 < (W ([] : List (List UInt8)) l).length) (hl : l.length ≤ 100) (hB : B ≤ w.heap.size) (hS : S.length ≤ 1000000000) :
    Calls Tryd.prog 52 #[.pointer (some ⟨b, 0, none⟩), .string ⟨#[]⟩, vl] w fun e w' => e = .returned (.tuple #[]) ∧ BIs 100 B b (Lib.byteCells (S ++ (Lib.join (W ([] : List (List UInt8)) l) [32] ++ [10]))) w' ∧ Below B w w' ∧ Lib.OthersKept 5 (some b) w w' := by
  obtain ⟨ao, cap, rfl, hi1, hi2, hi3⟩ := hv.open_
  have HI := Lib.hid hi3
  have HV := Lib.hid hv
  have HBI := Lib.hid h
  have HNE := Lib.hid hne
  clear hi3 hv h hne
  obtain ⟨i, hi, hz0, hz1, hz2⟩ := info_parts info_string
  have hlk : (l.length : Int) + 1 ≤ 9223372036854775807 := by omega
  go_enter Tryd.func52, Tryd.ntmps52
  go_wp2_with (first | (at_make; refine wpList_make_own w rfl _ _ 38 rfl w.heap.size 9 i (.string ⟨#[]⟩) 1 Tryd.underlying38 hi hz0 hz1 .i64 .i64 _ (l.length + 1) rfl rfl (by omega) (by rw [hz2]; omega) (by unfold maxLen; omega) (Nat.le_refl _) ?_; intro w1 hown1 hgr1; have hb1 : Below w.heap.size w w1 := (Below.refl _ _).grown hgr1 (Nat.le_refl _) (by intro k e; cases e)) | (at_builtin; refine app_new rfl _ _ 38 rfl 9 1 16 _ Tryd.underlying38 info_string rfl (by decide) (w0 := w) (B0 := w.heap.size) rfl hown1 hb1 (Nat.le_refl _) hb1.size _ 1 1 rfl (by intro u hu; simp at hu; subst hu; rfl) rfl (by omega) (by omega) ?_; intro v3 w3 hown3 hb3 hbs3 hgr3))
  go_loopg [6, 21] l.length (fun gg s6 s21 wr => ∃ k : Nat, k ≤ l.length ∧ l.length - k ≤ gg ∧ s21 = .int .i64 k ∧ Hid (Below w.heap.size w wr) ∧ Aside (wr.ownsRow w.heap.size 9 1 s6 (([] : List (List UInt8)).length + k) ((W ([] : List (List UInt8)) (l.take k)).map strV)))
  case atStart => exact ⟨0, Nat.zero_le _, by omega, rfl, hb1, by simpa [Aside, W, strV] using hown1⟩
  case round =>
    obtain ⟨k, hk, hg, rfl, hbr, hown⟩ := hrel
    by_cases hlt : k < l.length
    · obtain ⟨b', off, rfl, hbs, hry, hc⟩ := HI.out k hlt
      have hmea : ∀ g : Nat, l.length - k ≤ g → l.length - (k + 1) < g := fun g h => by omega
      have hc := (hbr.out.cell hbs).trans hc
      have hstep : Hid ((W ([] : List (List UInt8)) (l.take (k + 1))).map strV = (W ([] : List (List UInt8)) (l.take k)).map strV ++ [strV (P01.decI l[k])]) := by
        show _ = _
        unfold W
        rw [List.take_succ_eq_append_getElem hlt]
        simp only [List.map_append, List.map_cons, List.map_nil, List.append_assoc]
      generalize hy : l[k] = y at *
      have hltz : (k : Int) < (l.length : Int) := by omega
      have hP := Lib.hid (Print_any y wr hry.1 hry.2)
      have hkk : k ≤ 100 := by omega
      clear hry
      have hBn := Lib.hid hbr.out.size
      have hws : Hid (w.heap.size ≤ w.heap.size) := Nat.le_refl _
      go_wp2_with (first | (go_at_call 28; refine hP.out.mono ?_; rintro e w2 ⟨rfl, hb2⟩; have hown2 := hown.out.below2 hb2; have hbb := Below.of hbr.out hb2) | (at_builtin; refine app_new rfl _ _ 38 rfl 9 1 16 _ Tryd.underlying38 info_string rfl (by decide) (w0 := w) (B0 := w.heap.size) rfl hown2 hbb (Nat.le_refl _) hbb.size _ 1 1 rfl (by intro u hu; simp at hu; subst hu; rfl) rfl (by simp; omega) (by simp; omega) ?_; intro v4 w4 hown4 hb4 hbs4 hgr4))
      go_roundg (l.length - (k + 1))
      case measure => exact hmea _ hg
      case rel =>
        refine ⟨k + 1, by omega, by omega, by go_num, hb4, ?_⟩
        rw [hstep.out]
        exact hown4
    · have hltz : ¬ (k : Int) < (l.length : Int) := by omega
      obtain rfl : k = l.length := by omega
      have hWW : W ([] : List (List UInt8)) l = PA.words ([] : List UInt8) l := by unfold W PA.words; simp
      have hjl : (Lib.join (W ([] : List (List UInt8)) l) [32]).length ≤ 5000 := by
        have := PA.lineT_len ([] : List UInt8) l fun n hn => HV.out.2 n hn
        rw [PA.lineT, ← hWW] at this
        simp only [List.length_append, List.length_cons, List.length_nil] at this
        omega
      have hWl : ([] : List (List UInt8)).length + l.length = (W ([] : List (List UInt8)) l).length := by unfold W; simp only [List.length_append, List.length_map]
      have hWs : ∀ s ∈ W ([] : List (List UInt8)) l, s.length ≤ 9223372036854775807 := by
        intro s hs
        unfold W at hs
        rcases List.mem_append.1 hs with hs | hs
        · simp at hs
          try (subst hs; decide)
        · obtain ⟨n, hn, rfl⟩ := List.mem_map.1 hs
          have hr := HV.out.2 n hn
          have := PA.decI_len n hr.1 hr.2
          omega
      have hown := hown.out
      rw [List.take_length, hWl] at hown
      have hSt := Lib.hid (Strs.of_owns hown hWs)
      have hJ : ∀ x : Later wr, _ := fun x => dJoin_any (W ([] : List (List UInt8)) l) u6 x.at_ (hSt.out.mono x.below) HNE.out (by rw [← hWl]; simp; omega) (by omega)
      have hBI : Hid (BIs 100 B b (Lib.byteCells S) wr) := bs_mono HBI.out hbr.out
      have hSz := Lib.hid (Nat.le_trans hB hbr.out.size)
      have hBW := Lib.hid (hbr.out.mono hB)
      clear hWW hWl hWs hown hg hk hlt
      obtain ⟨J, hJe⟩ : ∃ J, J = Lib.join (W ([] : List (List UInt8)) l) [32] := ⟨_, rfl⟩
      rw [← hJe] at hJ hjl
      have HJe := Lib.hid hJe
      clear hJe
      have hcat : (ByteArray.mk J.toArray) ++ (ByteArray.mk #[10]) = ⟨(J ++ [10]).toArray⟩ := cat_eq J [10]
      have hll : ¬ 9223372036854775807 < J.length + 1 := by omega
      have hJS : Hid (S.length + (J ++ [10]).length ≤ 140737488355328) := by show _ ≤ _; rw [List.length_append]; simp; omega
      go_wp2_with fail
      refine wp_region_later_tail 6 (by kernel_rfl) (by kernel_rfl) ?_; simp only [List.take_succ_cons, List.take_zero, List.drop_succ_cons, List.drop_zero]; (repeat (go_big_quiet_step ((go_at_call 89; with_reducible exact Calls.later (hJ _))))); refine wpQuiet_nil ?_; rintro w3 ⟨⟨_, hb3⟩, rfl⟩
      have hb4 := Below.of hbr.out hb3
      go_wp2_with (go_at_call 27; refine (bWriteString_any 100 aig_lies aig_ne B b (Lib.byteCells S) (J ++ [10]) _ (bs_mono hBI.out hb3) (by rw [Lib.byteCells_length]; exact hJS.out) (Nat.le_trans hSz.out hb3.size)).mono ?_; rintro e w5 ⟨rfl, hB5, hb5, hk5⟩)
      go_end0
      rw [bytes_app, HJe.out] at hB5
      exact ⟨rfl, hB5, (hb4.mono hB).trans hb5, (others_below hb4).trans hk5⟩

theorem or128 (m : Nat) : bits BinOp.or IntKind.u8 ((m : Int) % 256) 128 = ((UInt8.ofNat (m % 128 + 128)).toNat : Int) := by
  have h : (List.range 256).all (fun v => bits BinOp.or IntKind.u8 (v : Int) 128 == ((v % 128 + 128 : Nat) : Int)) = true := by kernel_rfl
  have h1 := List.all_eq_true.1 h (m % 256) (List.mem_range.2 (Nat.mod_lt _ (by decide)))
  have e : ((m : Int) % 256) = ((m % 256 : Nat) : Int) := by omega
  rw [e, eq_of_beq h1]
  have : (UInt8.ofNat (m % 128 + 128)).toNat = m % 128 + 128 := by simp; omega
  omega

theorem grp_more (m : Nat) (h : 128 ≤ m) : PA.grp m = UInt8.ofNat (m % 128 + 128) :: PA.grp (m / 128) := by rw [PA.grp, if_neg (by omega)]
theorem grp_last (m : Nat) (h : m < 128) : PA.grp m = [UInt8.ofNat m] := by rw [PA.grp, if_pos h]

set_option maxRecDepth 100000 in
set_option maxHeartbeats 4000000 in
theorem aNumber_any (B b : Nat) (S : List UInt8) (n : Nat) (w : World) (h : BIs 100 B b (Lib.byteCells S) w) (hn : n < 2097152) (hB : B ≤ w.heap.size) (hS : S.length ≤ 1000000000) :
    Calls Tryd.prog 54 #[.pointer (some ⟨b, 0, none⟩), .int .i64 (n : Int)] w fun e w' => e = .returned (.tuple #[]) ∧ BIs 100 B b (Lib.byteCells (S ++ PA.grp n)) w' ∧ Below B w w' ∧ Lib.OthersKept 5 (some b) w w' := by
  have HBI := Lib.hid h
  clear h
  go_enter Tryd.func54, Tryd.ntmps54
  go_wp2_with fail
  go_loopg [1] n (fun gg s1 wr => ∃ (m : Nat) (R : List UInt8), m ≤ gg ∧ s1 = .int .i64 (m : Int) ∧ Hid (m < 2097152 ∧ R.length ≤ 1000000003 ∧ R ++ PA.grp m = S ++ PA.grp n) ∧ Hid (BIs 100 B b (Lib.byteCells R) wr) ∧ Hid (Below B w wr ∧ B ≤ wr.heap.size ∧ Lib.OthersKept 5 (some b) w wr))
  case atStart => exact ⟨n, S, Nat.le_refl _, rfl, ⟨hn, by omega, rfl⟩, HBI.out, Below.refl _ _, hB, Lib.OthersKept.refl _ _ _⟩
  case round =>
    obtain ⟨m, R, hg, rfl, hR, hBI, hbr⟩ := hrel
    by_cases hlt : (m : Int) ≥ 128
    · have hm7 : 128 ≤ m := by omega
      have hor := or128 m
      generalize hy : UInt8.ofNat (m % 128 + 128) = y at hor
      have hw := Lib.hid (bWriteByte_any 100 aig_lies aig_ne B b (Lib.byteCells R) (y.toNat : Int) wr hBI.out (by rw [Lib.byteCells_length]; have := hR.out.2.1; omega) hbr.out.2.1)
      have hR2 : Hid (m / 128 < 2097152 ∧ (R ++ [y]).length ≤ 1000000003 ∧ (R ++ [y]) ++ PA.grp (m / 128) = S ++ PA.grp n) := by
        obtain ⟨r1, r2, r3⟩ := hR.out
        have e := congrArg List.length r3
        rw [grp_more m hm7, hy] at r3
        refine ⟨by omega, ?_, by rw [← r3]; simp⟩
        have := congrArg List.length r3
        have := PA.grp_len n hn
        simp only [List.length_append, List.length_cons, List.length_nil] at *
        omega
      have hdv : m / 128 < m := by omega
      clear hy hm7
      go_wp2_with (go_at_call 29; refine hw.out.mono ?_; rintro e w5 ⟨rfl, hB5, hb5, hk5⟩)
      go_roundg (m / 128)
      case measure => omega
      case rel =>
        refine ⟨m / 128, R ++ [y], Nat.le_refl _, by go_num, hR2, ?_, (hbr.out.1.trans hb5), Nat.le_trans hbr.out.2.1 hb5.size, hbr.out.2.2.trans hk5⟩
        show BIs _ _ _ _ _
        rw [← bytes_app]
        exact hB5
    · have hm7 : m < 128 := by omega
      have hw := Lib.hid (bWriteByte_any 100 aig_lies aig_ne B b (Lib.byteCells R) (m : Int) wr hBI.out (by rw [Lib.byteCells_length]; have := hR.out.2.1; omega) hbr.out.2.1)
      go_wp2_with (go_at_call 29; refine hw.out.mono ?_; rintro e w5 ⟨rfl, hB5, hb5, hk5⟩)
      go_end0
      refine ⟨rfl, ?_, hbr.out.1.trans hb5, hbr.out.2.2.trans hk5⟩
      rw [← hR.out.2.2, grp_last m hm7, ← bytes_app]
      have e : Lib.byteCells [UInt8.ofNat m] = [.int .u8 (m : Int)] := by
        have : (UInt8.ofNat m).toNat = m := by simp; omega
        simp [Lib.byteCells, this]
      rw [e]
      exact hB5

end Go.Proofs.YtjcaejdokillgaaDoor

namespace Go.Proofs.YtjcaejdokillgaaDoor
open Go.RowKit Go.Shelf

theorem infoI : (Tryd.prog.info? 3).map (fun i => (i.zero, i.size, i.bytes)) = some (some (.int .i64 0), 1, 8) := by kernel_rfl
theorem int_one (l : List Int) : ∀ u ∈ l.map (Value.int .i64), u.oneCell' = true := fun u hu => by
  obtain ⟨x, _, rfl⟩ := List.mem_map.1 hu
  rfl

set_option maxRecDepth 100000 in
set_option maxHeartbeats 4000000 in
theorem GrowI_nil (n : Nat) (w : World) (hb : n ≤ 1000000) :
    Calls Tryd.prog 90 #[.slice none 0 0, .int .i64 (n : Int)] w fun e w' => ∃ v, e = .returned v ∧ w'.ownsRow w.heap.size 3 1 v 0 [] ∧ Below w.heap.size w w' := by
  obtain ⟨i0, hi0, hz0, hs1, hs2⟩ := info_parts infoI
  have h1 : ¬ ((n : Int) < 0) := by omega
  by_cases hn : 0 < n
  · have h4 : (n : Int) > 0 := by omega
    have hold : (Builtin.firstCells i0.size 0 (.slice none 0 0)).run Tryd.prog w.drew = .ok (([] : List Value).toArray) w.drew := run_firstCells_none w.drew i0.size 0 0 0
    have hrz : ∀ ty, (Builtin.append_ #[22, 3] ty #[.slice none 0 0, .int .i64 (n : Int)]).run Tryd.prog w =
        .ok (.slice (some ⟨w.heap.size, 0, none⟩) n (grownCap w n 0 3)) (w.drew.alloc (.cells (([] : List Value).toArray ++ Builtin.zeroCells (.int .i64 0 : Value).cells n ++ Builtin.zeroCells (.int .i64 0 : Value).cells (grownCap w n 0 3 - n)) 3)) := fun ty => by
      have h := Lib.run_append_grow_zeros w 22 3 ty 3 i0 (.int .i64 0) .i64 .i64 Tryd.underlying22 Tryd.underlying3 hi0 hz0 none 0 0 [] hold n (by omega) (by omega) (by omega) (by omega)
        (by rw [hs2]; omega)
        (by rw [Nat.zero_add]; exact growslice_fits hn (by rw [hs2]; omega))
      rw [Nat.zero_add] at h
      exact h
    have hGn : n ≤ grownCap w n 0 3 := grownCap_ge w _ _ _
    have hG63 : grownCap w n 0 3 ≤ 9223372036854775807 := by
      have := grownCap_le_maxLen w n 0 3 (by unfold maxLen; omega)
      unfold maxLen at this
      omega
    generalize grownCap w n 0 3 = G at *
    clear hold
    go_enter Tryd.func90, Tryd.ntmps90
    go_wp2_with (at_builtin; refine Lib.wpList_append_run _ rfl _ _ _ _ rfl _ _ rfl rfl _ _ (hrz _) ?_)
    go_ret
    refine ⟨_, rfl, World.ownsRow_made w.drew _ G (Nat.le_refl _) (by unfold maxLen; omega) ?_, (Below.refl _ _).drew.alloc (Nat.le_refl _) _⟩
    simp [Builtin.zeroCells]
    omega
  · obtain rfl : n = 0 := by omega
    go_enter Tryd.func90, Tryd.ntmps90
    go_wp2_with fail
    go_ret
    exact ⟨_, rfl, World.ownsRow_nil _ _ _ _, Below.refl _ _⟩

set_option maxRecDepth 100000 in
set_option maxHeartbeats 4000000 in
theorem ConcatI_three (n1 n2 n3 : Nat) (cs1 cs2 cs3 : List Value) (v1 v2 v3 : Value) (g : Nat) (w : World) (h1 : Cells w 1 v1 n1 cs1) (h2 : Cells w 1 v2 n2 cs2) (h3 : Cells w 1 v3 n3 cs3) (ho1 : ∀ u ∈ cs1, u.oneCell' = true) (ho2 : ∀ u ∈ cs2, u.oneCell' = true) (ho3 : ∀ u ∈ cs3, u.oneCell' = true)
    (hc1 : w.cell? ⟨g, 0, none⟩ = some v1) (hc2 : w.cell? ⟨g, 1, none⟩ = some v2) (hc3 : w.cell? ⟨g, 2, none⟩ = some v3) (hm : n1 + n2 + n3 ≤ 1000000) :
    Calls Tryd.prog 53 #[.slice (some ⟨g, 0, none⟩) 3 3] w fun e w' => ∃ u, e = .returned u ∧ w'.ownsRow w.heap.size 3 1 u (n1 + n2 + n3) (cs1 ++ cs2 ++ cs3) ∧ Below w.heap.size w w' := by
  have hD1 := h1
  have hD2 := h2
  have hD3 := h3
  obtain ⟨a1, d1, rfl, _⟩ := hD1
  obtain ⟨a2, d2, rfl, _⟩ := hD2
  obtain ⟨a3, d3, rfl, _⟩ := hD3
  have HC1 := Lib.hid h1
  have HC2 := Lib.hid h2
  have HC3 := Lib.hid h3
  have HO1 := Lib.hid ho1
  have HO2 := Lib.hid ho2
  have HO3 := Lib.hid ho3
  clear h1 h2 h3 ho1 ho2 ho3
  have hGr := Lib.hid fun w => GrowI_nil (n1 + n2 + n3) w hm
  have e0 : IntKind.i64.wrap ((n1 : Int) + (n2 : Int)) = (n1 : Int) + (n2 : Int) := IntWalk.i64_in _ (by omega)
  have e1 : IntKind.i64.wrap ((n1 : Int) + (n2 : Int) + (n3 : Int)) = (n1 : Int) + (n2 : Int) + (n3 : Int) := IntWalk.i64_in _ (by omega)
  go_enter Tryd.func53, Tryd.ntmps53
  go_wp2_with fail
  go_loopg [3, 11] 3 (fun gg s3 s11 wr => w = wr ∧ ((s3 = .int .i64 0 ∧ s11 = .int .i64 0 ∧ 3 ≤ gg) ∨ (s3 = .int .i64 (n1 : Int) ∧ s11 = .int .i64 1 ∧ 2 ≤ gg) ∨ (s3 = .int .i64 ((n1 : Int) + (n2 : Int)) ∧ s11 = .int .i64 2 ∧ 1 ≤ gg) ∨ (s3 = .int .i64 ((n1 : Int) + (n2 : Int) + (n3 : Int)) ∧ s11 = .int .i64 3)))
  case atStart => exact ⟨rfl, Or.inl ⟨rfl, rfl, Nat.le_refl _⟩⟩
  case round =>
    obtain ⟨rfl, hr⟩ := hrel
    rcases hr with ⟨rfl, rfl, hg⟩ | ⟨rfl, rfl, hg⟩ | ⟨rfl, rfl, hg⟩ | ⟨rfl, rfl⟩
    · have hnn : ¬ ((n1 : Int) < 0) := by omega
      go_wp2_with fail
      go_roundg 2
      case measure => omega
      case rel => exact ⟨rfl, Or.inr (Or.inl ⟨by go_num, rfl, Nat.le_refl _⟩)⟩
    · have hnn : ¬ ((n1 : Int) + (n2 : Int) < 0) := by omega
      go_wp2_with fail
      go_roundg 1
      case measure => omega
      case rel => exact ⟨rfl, Or.inr (Or.inr (Or.inl ⟨by go_num, rfl, Nat.le_refl _⟩))⟩
    · have hnn : ¬ ((n1 : Int) + (n2 : Int) + (n3 : Int) < 0) := by omega
      go_wp2_with fail
      go_roundg 0
      case measure => omega
      case rel => exact ⟨rfl, Or.inr (Or.inr (Or.inr ⟨by go_num, rfl⟩))⟩
    · go_wp2_with fail
      rw [show ((n1 : Int) + (n2 : Int) + (n3 : Int)) = ((n1 + n2 + n3 : Nat) : Int) by omega]
      refine (hGr.out w).mono ?_
      rintro e w1 ⟨v, rfl, hown1, hb1⟩
      have hOUT1 : Hid (w1.ownsRow w.heap.size 3 1 v 0 []) := hown1
      have hc1' := (hb1.cell (World.block_lt_of_cell? _ _ hc1)).trans hc1
      have hc2' := (hb1.cell (World.block_lt_of_cell? _ _ hc2)).trans hc2
      have hc3' := (hb1.cell (World.block_lt_of_cell? _ _ hc3)).trans hc3
      have hB1H := Lib.hid hb1
      clear hown1 hb1
      go_wp2_with fail
      go_loopg [6, 27] 3 (fun gg s6 s27 wr => Below w.heap.size w wr ∧ ((s27 = .int .i64 0 ∧ 3 ≤ gg ∧ Aside (wr.ownsRow w.heap.size 3 1 s6 0 [])) ∨ (s27 = .int .i64 1 ∧ 2 ≤ gg ∧ Aside (wr.ownsRow w.heap.size 3 1 s6 n1 cs1)) ∨ (s27 = .int .i64 2 ∧ 1 ≤ gg ∧ Aside (wr.ownsRow w.heap.size 3 1 s6 (n1 + n2) (cs1 ++ cs2))) ∨ (s27 = .int .i64 3 ∧ Aside (wr.ownsRow w.heap.size 3 1 s6 (n1 + n2 + n3) (cs1 ++ cs2 ++ cs3)))))
      case atStart => exact ⟨hB1H.out, Or.inl ⟨rfl, Nat.le_refl _, hOUT1.out⟩⟩
      case round =>
        clear hc1' hc2' hc3'
        obtain ⟨hbr, hr⟩ := hrel
        have k1 := (hbr.cell (World.block_lt_of_cell? _ _ hc1)).trans hc1
        have k2 := (hbr.cell (World.block_lt_of_cell? _ _ hc2)).trans hc2
        have k3 := (hbr.cell (World.block_lt_of_cell? _ _ hc3)).trans hc3
        rcases hr with ⟨rfl, hg, ho⟩ | ⟨rfl, hg, ho⟩ | ⟨rfl, hg, ho⟩ | ⟨rfl, ho⟩
        · go_wp2_with (at_builtin; refine app_cells rfl _ _ 22 rfl 3 1 8 (.int .i64 0) Tryd.underlying22 infoI rfl (by decide) (w0 := w) (B0 := w.heap.size) rfl ho.out hbr (Nat.le_refl _) hbr.size rfl (HC1.out.mono hbr) HO1.out (by omega) (by omega) ?_; intro v3 w3 hown3 hb3 hbs3 hgr3; have hout3 : Hid (w3.ownsRow w.heap.size 3 1 v3 (n1) (cs1)) := (by rw [Nat.zero_add, List.nil_append] at hown3; exact hown3); clear hgr3 hown3)
          go_roundg 2
          case measure => omega
          case rel => exact ⟨hb3, Or.inr (Or.inl ⟨rfl, Nat.le_refl _, hout3.out⟩)⟩
        · go_wp2_with (at_builtin; refine app_cells rfl _ _ 22 rfl 3 1 8 (.int .i64 0) Tryd.underlying22 infoI rfl (by decide) (w0 := w) (B0 := w.heap.size) rfl ho.out hbr (Nat.le_refl _) hbr.size rfl (HC2.out.mono hbr) HO2.out (by omega) (by omega) ?_; intro v3 w3 hown3 hb3 hbs3 hgr3; have hout3 : Hid (w3.ownsRow w.heap.size 3 1 v3 (n1 + n2) (cs1 ++ cs2)) := (hown3); clear hgr3 hown3)
          go_roundg 1
          case measure => omega
          case rel => exact ⟨hb3, Or.inr (Or.inr (Or.inl ⟨rfl, Nat.le_refl _, hout3.out⟩))⟩
        · go_wp2_with (at_builtin; refine app_cells rfl _ _ 22 rfl 3 1 8 (.int .i64 0) Tryd.underlying22 infoI rfl (by decide) (w0 := w) (B0 := w.heap.size) rfl ho.out hbr (Nat.le_refl _) hbr.size rfl (HC3.out.mono hbr) HO3.out (by omega) (by omega) ?_; intro v3 w3 hown3 hb3 hbs3 hgr3; have hout3 : Hid (w3.ownsRow w.heap.size 3 1 v3 (n1 + n2 + n3) (cs1 ++ cs2 ++ cs3)) := (hown3); clear hgr3 hown3)
          go_roundg 0
          case measure => omega
          case rel => exact ⟨hb3, Or.inr (Or.inr (Or.inr ⟨rfl, hout3.out⟩))⟩
        · go_wp2_with fail
          go_ret
          exact ⟨_, rfl, ho.out, hbr⟩

end Go.Proofs.YtjcaejdokillgaaDoor
