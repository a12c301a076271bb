/- Contracts: the octets' writer: a line, a number in groups. -/
import Derived.Test.YtjcaejdokillgaaWalkB
import Derived.Test.YtjcaejdokillgaaWalkD1
import Derived.Test.YtjcaejdokillgaaPlainA
import Derived.Test.YtjcaejdokillgaaLibQ
import Derived.BigRegion
namespace Go.Proofs.Ytjcaejdokillgaa
open Go.RowKit Go.Shelf
attribute [local simp] mk_get

theorem bs_mono {T B b : Nat} {bs : List Value} {w w' : World} (h : BIs T B b bs w) (hb : Below w.heap.size w w') : BIs T B b bs w' := by
  have hg : w.grownBy w' none := ⟨hb.os, hb.tape, hb.output, hb.size, fun k hk _ => hb.block k hk⟩
  have hm : ∀ p, Lib.BuilderAtF T 5 B b p bs w → Lib.BuilderAtF T 5 B b p bs w' := fun p h => by
    have hl := h.lt
    obtain ⟨h1, v, h2, h3, h4⟩ := h
    exact ⟨h1, v, by rw [hb.block b hl]; exact h2, h3.kept hg (by cases v.ownBlock <;> simp), h4⟩
  exact h.elim (fun x => .inl (hm _ x)) (fun x => .inr (hm _ x))

theorem _root_.Go.World.ownsRow.below2 {w w' : World} {B : Nat} {e : TypeId} {k n : Nat} {v : Value} {xs : List Value} (h : w.ownsRow B e k v n xs) (hb : Below w.heap.size w w') : w'.ownsRow B e k v n xs :=
  h.kept ⟨hb.os, hb.tape, hb.output, hb.size, fun b hb' _ => hb.block b hb'⟩ (row := none) (by cases v.ownBlock <;> simp)

theorem others_below {b : Nat} {w w' : World} (h : Below w.heap.size w w') : Lib.OthersKept 5 (some b) w w' := fun k _ hk _ _ => (h.block k (Array.getElem?_eq_some_iff.1 hk).1).trans hk

theorem owns_others {w w' : World} {B b : Nat} {e : TypeId} {k n : Nat} {v : Value} {xs : List Value} (h : w.ownsRow B e k v n xs) (hk : Lib.OthersKept 5 (some b) w w') (he : e ≠ 5) (hB : b < B) : w'.ownsRow B e k v n xs := by
  refine ⟨h.1, ?_⟩
  rcases h.2 with h | ⟨g, cap, cur, h1, h2, h3, h4⟩
  · exact .inl h
  · exact .inr ⟨g, cap, cur, h1, h2, hk g _ h3 (by simp only [ne_eq, Option.some.injEq]; omega) (fun c fz e' => he (by injection e')), h4⟩

theorem bs_lt {T B b : Nat} {bs : List Value} {w : World} (h : BIs T B b bs w) : b < w.heap.size := h.elim (fun x => x.lt) fun x => x.lt

theorem info_string : (Try.prog.info? 9).map (fun i => (i.zero, i.size, i.bytes)) = some (some (.string ⟨#[]⟩), 1, 16) := by kernel_rfl
def strV (s : List UInt8) : Value := .string ⟨s.toArray⟩
theorem Strs.of_owns {w : World} {B : Nat} {v : Value} {l : List (List UInt8)} (h : w.ownsRow B 9 1 v l.length (l.map strV)) (hl : ∀ s ∈ l, s.length ≤ 9223372036854775807) : Strs w v l := ⟨Cells.of_owns h, hl⟩

theorem bytes_app (a b : List UInt8) : Lib.byteCells a ++ Lib.byteCells b = Lib.byteCells (a ++ b) := by simp [Lib.byteCells]

theorem aig_lies : BLies 51 := by unfold BLies; kernel_rfl
theorem aig_ne : (51 : Nat) ≠ 5 := by decide

def W (PRE : List (List UInt8)) (l : List Int) : List (List UInt8) := PRE ++ l.map P01.decI

set_option maxRecDepth 100000 in
set_option maxHeartbeats 4000000 in
theorem aHead_any (B b : Nat) (S : List UInt8) (l : List Int) (vl : Value) (w : World) (h : BIs 51 B b (Lib.byteCells S) w) (hv : Ints w vl l) (hne : 0 < (W ([[97, 105, 103]] : List (List UInt8)) l).length) (hl : l.length ≤ 100) (hB : B ≤ w.heap.size) (hS : S.length ≤ 1000000000) :
    Calls Try.prog 15 #[.pointer (some ⟨b, 0, none⟩), .string ⟨#[97, 105, 103]⟩, vl] w fun e w' => e = .returned (.tuple #[]) ∧ BIs 51 B b (Lib.byteCells (S ++ (Lib.join (W ([[97, 105, 103]] : List (List UInt8)) l) [32] ++ [10]))) w' ∧ Below B w w' ∧ Lib.OthersKept 5 (some b) w w' := by
  obtain ⟨ao, cap, rfl, hi1, hi2, hi3⟩ := hv.open_
  have HI := Lib.hid hi3
  have HV := Lib.hid hv
  have HBI := Lib.hid h
  have HNE := Lib.hid hne
  clear hi3 hv h hne
  obtain ⟨i, hi, hz0, hz1, hz2⟩ := info_parts info_string
  have hlk : (l.length : Int) + 1 ≤ 9223372036854775807 := by omega
  go_enter Try.func15, Try.ntmps15
  go_wp2_with (first | (at_make; refine wpList_make_own w rfl _ _ 73 rfl w.heap.size 9 i (.string ⟨#[]⟩) 1 Try.underlying73 hi hz0 hz1 .i64 .i64 _ (l.length + 1) rfl rfl (by omega) (by rw [hz2]; omega) (by unfold maxLen; omega) (Nat.le_refl _) ?_; intro w1 hown1 hgr1; have hb1 : Below w.heap.size w w1 := (Below.refl _ _).grown hgr1 (Nat.le_refl _) (by intro k e; cases e)) | (at_builtin; refine app_new rfl _ _ 73 rfl 9 1 16 _ Try.underlying73 info_string rfl (by decide) (w0 := w) (B0 := w.heap.size) rfl hown1 hb1 (Nat.le_refl _) hb1.size _ 1 1 rfl (by intro u hu; simp at hu; subst hu; rfl) rfl (by omega) (by omega) ?_; intro v3 w3 hown3 hb3 hbs3 hgr3))
  go_loopg [6, 21] l.length (fun gg s6 s21 wr => ∃ k : Nat, k ≤ l.length ∧ l.length - k ≤ gg ∧ s21 = .int .i64 k ∧ Hid (Below w.heap.size w wr) ∧ Aside (wr.ownsRow w.heap.size 9 1 s6 (([[97, 105, 103]] : List (List UInt8)).length + k) ((W ([[97, 105, 103]] : List (List UInt8)) (l.take k)).map strV)))
  case atStart => exact ⟨0, Nat.zero_le _, by omega, rfl, hb3, by simpa [Aside, W, strV] using hown3⟩
  case round =>
    obtain ⟨k, hk, hg, rfl, hbr, hown⟩ := hrel
    by_cases hlt : k < l.length
    · obtain ⟨b', off, rfl, hbs, hry, hc⟩ := HI.out k hlt
      have hmea : ∀ g : Nat, l.length - k ≤ g → l.length - (k + 1) < g := fun g h => by omega
      have hc := (hbr.out.cell hbs).trans hc
      have hstep : Hid ((W ([[97, 105, 103]] : List (List UInt8)) (l.take (k + 1))).map strV = (W ([[97, 105, 103]] : List (List UInt8)) (l.take k)).map strV ++ [strV (P01.decI l[k])]) := by
        show _ = _
        unfold W
        rw [List.take_succ_eq_append_getElem hlt]
        simp only [List.map_append, List.map_cons, List.map_nil, List.append_assoc]
      generalize hy : l[k] = y at *
      have hltz : (k : Int) < (l.length : Int) := by omega
      have hP := Lib.hid (Print_any y wr hry.1 hry.2)
      have hkk : k ≤ 100 := by omega
      clear hry
      have hBn := Lib.hid hbr.out.size
      have hws : Hid (w.heap.size ≤ w.heap.size) := Nat.le_refl _
      go_wp2_with (first | (go_at_call 19; refine hP.out.mono ?_; rintro e w2 ⟨rfl, hb2⟩; have hown2 := hown.out.below2 hb2; have hbb := Below.of hbr.out hb2) | (at_builtin; refine app_new rfl _ _ 73 rfl 9 1 16 _ Try.underlying73 info_string rfl (by decide) (w0 := w) (B0 := w.heap.size) rfl hown2 hbb (Nat.le_refl _) hbb.size _ 1 1 rfl (by intro u hu; simp at hu; subst hu; rfl) rfl (by simp; omega) (by simp; omega) ?_; intro v4 w4 hown4 hb4 hbs4 hgr4))
      go_roundg (l.length - (k + 1))
      case measure => exact hmea _ hg
      case rel =>
        refine ⟨k + 1, by omega, by omega, by go_num, hb4, ?_⟩
        rw [hstep.out]
        exact hown4
    · have hltz : ¬ (k : Int) < (l.length : Int) := by omega
      obtain rfl : k = l.length := by omega
      have hWW : W ([[97, 105, 103]] : List (List UInt8)) l = PA.words ([97, 105, 103] : List UInt8) l := by unfold W PA.words; simp
      have hjl : (Lib.join (W ([[97, 105, 103]] : List (List UInt8)) l) [32]).length ≤ 5000 := by
        have := PA.lineT_len ([97, 105, 103] : List UInt8) l fun n hn => HV.out.2 n hn
        rw [PA.lineT, ← hWW] at this
        simp only [List.length_append, List.length_cons, List.length_nil] at this
        omega
      have hWl : ([[97, 105, 103]] : List (List UInt8)).length + l.length = (W ([[97, 105, 103]] : List (List UInt8)) l).length := by unfold W; simp only [List.length_append, List.length_map]
      have hWs : ∀ s ∈ W ([[97, 105, 103]] : List (List UInt8)) l, s.length ≤ 9223372036854775807 := by
        intro s hs
        unfold W at hs
        rcases List.mem_append.1 hs with hs | hs
        · simp at hs
          try (subst hs; decide)
        · obtain ⟨n, hn, rfl⟩ := List.mem_map.1 hs
          have hr := HV.out.2 n hn
          have := PA.decI_len n hr.1 hr.2
          omega
      have hown := hown.out
      rw [List.take_length, hWl] at hown
      have hSt := Lib.hid (Strs.of_owns hown hWs)
      have hJ : ∀ x : Later wr, _ := fun x => dJoin_any (W ([[97, 105, 103]] : List (List UInt8)) l) u6 x.at_ (hSt.out.mono x.below) HNE.out (by rw [← hWl]; simp; omega) (by omega)
      have hBI : Hid (BIs 51 B b (Lib.byteCells S) wr) := bs_mono HBI.out hbr.out
      have hSz := Lib.hid (Nat.le_trans hB hbr.out.size)
      have hBW := Lib.hid (hbr.out.mono hB)
      clear hWW hWl hWs hown hg hk hlt
      obtain ⟨J, hJe⟩ : ∃ J, J = Lib.join (W ([[97, 105, 103]] : List (List UInt8)) l) [32] := ⟨_, rfl⟩
      rw [← hJe] at hJ hjl
      have HJe := Lib.hid hJe
      clear hJe
      have hcat : (ByteArray.mk J.toArray) ++ (ByteArray.mk #[10]) = ⟨(J ++ [10]).toArray⟩ := cat_eq J [10]
      have hll : ¬ 9223372036854775807 < J.length + 1 := by omega
      have hJS : Hid (S.length + (J ++ [10]).length ≤ 140737488355328) := by show _ ≤ _; rw [List.length_append]; simp; omega
      go_wp2_with fail
      refine wp_region_later_tail 6 (by kernel_rfl) (by kernel_rfl) ?_; simp only [List.take_succ_cons, List.take_zero, List.drop_succ_cons, List.drop_zero]; (repeat (go_big_quiet_step ((go_at_call 33; with_reducible exact Calls.later (hJ _))))); refine wpQuiet_nil ?_; rintro w3 ⟨⟨_, hb3⟩, rfl⟩
      have hb4 := Below.of hbr.out hb3
      go_wp2_with (go_at_call 18; refine (bWriteString_any 51 aig_lies aig_ne B b (Lib.byteCells S) (J ++ [10]) _ (bs_mono hBI.out hb3) (by rw [Lib.byteCells_length]; exact hJS.out) (Nat.le_trans hSz.out hb3.size)).mono ?_; rintro e w5 ⟨rfl, hB5, hb5, hk5⟩)
      go_end0
      rw [bytes_app, HJe.out] at hB5
      exact ⟨rfl, hB5, (hb4.mono hB).trans hb5, (others_below hb4).trans hk5⟩
set_option maxRecDepth 100000 in
set_option maxHeartbeats 4000000 in
theorem aLine_any (B b : Nat) (S : List UInt8) (l : List Int) (vl : Value) (w : World) (h : BIs 51 B b (Lib.byteCells S) w) (hv : Ints w vl l) (hne : 0 < (W ([] : List (List UInt8)) l).length) (hl : l.length ≤ 100) (hB : B ≤ w.heap.size) (hS : S.length ≤ 1000000000) :
    Calls Try.prog 15 #[.pointer (some ⟨b, 0, none⟩), .string ⟨#[]⟩, vl] w fun e w' => e = .returned (.tuple #[]) ∧ BIs 51 B b (Lib.byteCells (S ++ (Lib.join (W ([] : List (List UInt8)) l) [32] ++ [10]))) w' ∧ Below B w w' ∧ Lib.OthersKept 5 (some b) w w' := by
  obtain ⟨ao, cap, rfl, hi1, hi2, hi3⟩ := hv.open_
  have HI := Lib.hid hi3
  have HV := Lib.hid hv
  have HBI := Lib.hid h
  have HNE := Lib.hid hne
  clear hi3 hv h hne
  obtain ⟨i, hi, hz0, hz1, hz2⟩ := info_parts info_string
  have hlk : (l.length : Int) + 1 ≤ 9223372036854775807 := by omega
  go_enter Try.func15, Try.ntmps15
  go_wp2_with (first | (at_make; refine wpList_make_own w rfl _ _ 73 rfl w.heap.size 9 i (.string ⟨#[]⟩) 1 Try.underlying73 hi hz0 hz1 .i64 .i64 _ (l.length + 1) rfl rfl (by omega) (by rw [hz2]; omega) (by unfold maxLen; omega) (Nat.le_refl _) ?_; intro w1 hown1 hgr1; have hb1 : Below w.heap.size w w1 := (Below.refl _ _).grown hgr1 (Nat.le_refl _) (by intro k e; cases e)) | (at_builtin; refine app_new rfl _ _ 73 rfl 9 1 16 _ Try.underlying73 info_string rfl (by decide) (w0 := w) (B0 := w.heap.size) rfl hown1 hb1 (Nat.le_refl _) hb1.size _ 1 1 rfl (by intro u hu; simp at hu; subst hu; rfl) rfl (by omega) (by omega) ?_; intro v3 w3 hown3 hb3 hbs3 hgr3))
  go_loopg [6, 21] l.length (fun gg s6 s21 wr => ∃ k : Nat, k ≤ l.length ∧ l.length - k ≤ gg ∧ s21 = .int .i64 k ∧ Hid (Below w.heap.size w wr) ∧ Aside (wr.ownsRow w.heap.size 9 1 s6 (([] : List (List UInt8)).length + k) ((W ([] : List (List UInt8)) (l.take k)).map strV)))
  case atStart => exact ⟨0, Nat.zero_le _, by omega, rfl, hb1, by simpa [Aside, W, strV] using hown1⟩
  case round =>
    obtain ⟨k, hk, hg, rfl, hbr, hown⟩ := hrel
    by_cases hlt : k < l.length
    · obtain ⟨b', off, rfl, hbs, hry, hc⟩ := HI.out k hlt
      have hmea : ∀ g : Nat, l.length - k ≤ g → l.length - (k + 1) < g := fun g h => by omega
      have hc := (hbr.out.cell hbs).trans hc
      have hstep : Hid ((W ([] : List (List UInt8)) (l.take (k + 1))).map strV = (W ([] : List (List UInt8)) (l.take k)).map strV ++ [strV (P01.decI l[k])]) := by
        show _ = _
        unfold W
        rw [List.take_succ_eq_append_getElem hlt]
        simp only [List.map_append, List.map_cons, List.map_nil, List.append_assoc]
      generalize hy : l[k] = y at *
      have hltz : (k : Int) < (l.length : Int) := by omega
      have hP := Lib.hid (Print_any y wr hry.1 hry.2)
      have hkk : k ≤ 100 := by omega
      clear hry
      have hBn := Lib.hid hbr.out.size
      have hws : Hid (w.heap.size ≤ w.heap.size) := Nat.le_refl _
      go_wp2_with (first | (go_at_call 19; refine hP.out.mono ?_; rintro e w2 ⟨rfl, hb2⟩; have hown2 := hown.out.below2 hb2; have hbb := Below.of hbr.out hb2) | (at_builtin; refine app_new rfl _ _ 73 rfl 9 1 16 _ Try.underlying73 info_string rfl (by decide) (w0 := w) (B0 := w.heap.size) rfl hown2 hbb (Nat.le_refl _) hbb.size _ 1 1 rfl (by intro u hu; simp at hu; subst hu; rfl) rfl (by simp; omega) (by simp; omega) ?_; intro v4 w4 hown4 hb4 hbs4 hgr4))
      go_roundg (l.length - (k + 1))
      case measure => exact hmea _ hg
      case rel =>
        refine ⟨k + 1, by omega, by omega, by go_num, hb4, ?_⟩
        rw [hstep.out]
        exact hown4
    · have hltz : ¬ (k : Int) < (l.length : Int) := by omega
      obtain rfl : k = l.length := by omega
      have hWW : W ([] : List (List UInt8)) l = PA.words ([] : List UInt8) l := by unfold W PA.words; simp
      have hjl : (Lib.join (W ([] : List (List UInt8)) l) [32]).length ≤ 5000 := by
        have := PA.lineT_len ([] : List UInt8) l fun n hn => HV.out.2 n hn
        rw [PA.lineT, ← hWW] at this
        simp only [List.length_append, List.length_cons, List.length_nil] at this
        omega
      have hWl : ([] : List (List UInt8)).length + l.length = (W ([] : List (List UInt8)) l).length := by unfold W; simp only [List.length_append, List.length_map]
      have hWs : ∀ s ∈ W ([] : List (List UInt8)) l, s.length ≤ 9223372036854775807 := by
        intro s hs
        unfold W at hs
        rcases List.mem_append.1 hs with hs | hs
        · simp at hs
          try (subst hs; decide)
        · obtain ⟨n, hn, rfl⟩ := List.mem_map.1 hs
          have hr := HV.out.2 n hn
          have := PA.decI_len n hr.1 hr.2
          omega
      have hown := hown.out
      rw [List.take_length, hWl] at hown
      have hSt := Lib.hid (Strs.of_owns hown hWs)
      have hJ : ∀ x : Later wr, _ := fun x => dJoin_any (W ([] : List (List UInt8)) l) u6 x.at_ (hSt.out.mono x.below) HNE.out (by rw [← hWl]; simp; omega) (by omega)
      have hBI : Hid (BIs 51 B b (Lib.byteCells S) wr) := bs_mono HBI.out hbr.out
      have hSz := Lib.hid (Nat.le_trans hB hbr.out.size)
      have hBW := Lib.hid (hbr.out.mono hB)
      clear hWW hWl hWs hown hg hk hlt
      obtain ⟨J, hJe⟩ : ∃ J, J = Lib.join (W ([] : List (List UInt8)) l) [32] := ⟨_, rfl⟩
      rw [← hJe] at hJ hjl
      have HJe := Lib.hid hJe
      clear hJe
      have hcat : (ByteArray.mk J.toArray) ++ (ByteArray.mk #[10]) = ⟨(J ++ [10]).toArray⟩ := cat_eq J [10]
      have hll : ¬ 9223372036854775807 < J.length + 1 := by omega
      have hJS : Hid (S.length + (J ++ [10]).length ≤ 140737488355328) := by show _ ≤ _; rw [List.length_append]; simp; omega
      go_wp2_with fail
      refine wp_region_later_tail 6 (by kernel_rfl) (by kernel_rfl) ?_; simp only [List.take_succ_cons, List.take_zero, List.drop_succ_cons, List.drop_zero]; (repeat (go_big_quiet_step ((go_at_call 33; with_reducible exact Calls.later (hJ _))))); refine wpQuiet_nil ?_; rintro w3 ⟨⟨_, hb3⟩, rfl⟩
      have hb4 := Below.of hbr.out hb3
      go_wp2_with (go_at_call 18; refine (bWriteString_any 51 aig_lies aig_ne B b (Lib.byteCells S) (J ++ [10]) _ (bs_mono hBI.out hb3) (by rw [Lib.byteCells_length]; exact hJS.out) (Nat.le_trans hSz.out hb3.size)).mono ?_; rintro e w5 ⟨rfl, hB5, hb5, hk5⟩)
      go_end0
      rw [bytes_app, HJe.out] at hB5
      exact ⟨rfl, hB5, (hb4.mono hB).trans hb5, (others_below hb4).trans hk5⟩

theorem or128 (m : Nat) : bits BinOp.or IntKind.u8 ((m : Int) % 256) 128 = ((UInt8.ofNat (m % 128 + 128)).toNat : Int) := by
  have h : (List.range 256).all (fun v => bits BinOp.or IntKind.u8 (v : Int) 128 == ((v % 128 + 128 : Nat) : Int)) = true := by kernel_rfl
  have h1 := List.all_eq_true.1 h (m % 256) (List.mem_range.2 (Nat.mod_lt _ (by decide)))
  have e : ((m : Int) % 256) = ((m % 256 : Nat) : Int) := by omega
  rw [e, eq_of_beq h1]
  have : (UInt8.ofNat (m % 128 + 128)).toNat = m % 128 + 128 := by simp; omega
  omega

theorem grp_more (m : Nat) (h : 128 ≤ m) : PA.grp m = UInt8.ofNat (m % 128 + 128) :: PA.grp (m / 128) := by rw [PA.grp, if_neg (by omega)]
theorem grp_last (m : Nat) (h : m < 128) : PA.grp m = [UInt8.ofNat m] := by rw [PA.grp, if_pos h]

set_option maxRecDepth 100000 in
set_option maxHeartbeats 4000000 in
theorem aNumber_any (B b : Nat) (S : List UInt8) (n : Nat) (w : World) (h : BIs 51 B b (Lib.byteCells S) w) (hn : n < 2097152) (hB : B ≤ w.heap.size) (hS : S.length ≤ 1000000000) :
    Calls Try.prog 17 #[.pointer (some ⟨b, 0, none⟩), .int .i64 (n : Int)] w fun e w' => e = .returned (.tuple #[]) ∧ BIs 51 B b (Lib.byteCells (S ++ PA.grp n)) w' ∧ Below B w w' ∧ Lib.OthersKept 5 (some b) w w' := by
  have HBI := Lib.hid h
  clear h
  go_enter Try.func17, Try.ntmps17
  go_wp2_with fail
  go_loopg [1] n (fun gg s1 wr => ∃ (m : Nat) (R : List UInt8), m ≤ gg ∧ s1 = .int .i64 (m : Int) ∧ Hid (m < 2097152 ∧ R.length ≤ 1000000003 ∧ R ++ PA.grp m = S ++ PA.grp n) ∧ Hid (BIs 51 B b (Lib.byteCells R) wr) ∧ Hid (Below B w wr ∧ B ≤ wr.heap.size ∧ Lib.OthersKept 5 (some b) w wr))
  case atStart => exact ⟨n, S, Nat.le_refl _, rfl, ⟨hn, by omega, rfl⟩, HBI.out, Below.refl _ _, hB, Lib.OthersKept.refl _ _ _⟩
  case round =>
    obtain ⟨m, R, hg, rfl, hR, hBI, hbr⟩ := hrel
    by_cases hlt : (m : Int) ≥ 128
    · have hm7 : 128 ≤ m := by omega
      have hor := or128 m
      generalize hy : UInt8.ofNat (m % 128 + 128) = y at hor
      have hw := Lib.hid (bWriteByte_any 51 aig_lies aig_ne B b (Lib.byteCells R) (y.toNat : Int) wr hBI.out (by rw [Lib.byteCells_length]; have := hR.out.2.1; omega) hbr.out.2.1)
      have hR2 : Hid (m / 128 < 2097152 ∧ (R ++ [y]).length ≤ 1000000003 ∧ (R ++ [y]) ++ PA.grp (m / 128) = S ++ PA.grp n) := by
        obtain ⟨r1, r2, r3⟩ := hR.out
        have e := congrArg List.length r3
        rw [grp_more m hm7, hy] at r3
        refine ⟨by omega, ?_, by rw [← r3]; simp⟩
        have := congrArg List.length r3
        have := PA.grp_len n hn
        simp only [List.length_append, List.length_cons, List.length_nil] at *
        omega
      have hdv : m / 128 < m := by omega
      clear hy hm7
      go_wp2_with (go_at_call 35; refine hw.out.mono ?_; rintro e w5 ⟨rfl, hB5, hb5, hk5⟩)
      go_roundg (m / 128)
      case measure => omega
      case rel =>
        refine ⟨m / 128, R ++ [y], Nat.le_refl _, by go_num, hR2, ?_, (hbr.out.1.trans hb5), Nat.le_trans hbr.out.2.1 hb5.size, hbr.out.2.2.trans hk5⟩
        show BIs _ _ _ _ _
        rw [← bytes_app]
        exact hB5
    · have hm7 : m < 128 := by omega
      have hw := Lib.hid (bWriteByte_any 51 aig_lies aig_ne B b (Lib.byteCells R) (m : Int) wr hBI.out (by rw [Lib.byteCells_length]; have := hR.out.2.1; omega) hbr.out.2.1)
      go_wp2_with (go_at_call 35; refine hw.out.mono ?_; rintro e w5 ⟨rfl, hB5, hb5, hk5⟩)
      go_end0
      refine ⟨rfl, ?_, hbr.out.1.trans hb5, hbr.out.2.2.trans hk5⟩
      rw [← hR.out.2.2, grp_last m hm7, ← bytes_app]
      have e : Lib.byteCells [UInt8.ofNat m] = [.int .u8 (m : Int)] := by
        have : (UInt8.ofNat m).toNat = m := by simp; omega
        simp [Lib.byteCells, this]
      rw [e]
      exact hB5

end Go.Proofs.Ytjcaejdokillgaa
